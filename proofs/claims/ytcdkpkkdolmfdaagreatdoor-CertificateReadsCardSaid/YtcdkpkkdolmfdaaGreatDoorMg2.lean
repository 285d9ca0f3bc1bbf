/- Lemmas (several texts in one). -/
import Derived.Test.YtcdkpkkdolmfdaaGreatDoorProg
import Derived.KernelRfl
import Derived.Test.YtcdkpkkdolmfdaaGreatDoorMg1
set_option linter.unusedVariables false
set_option linter.unusedSectionVars false
set_option maxRecDepth 100000
namespace Go.Proofs.YtcdkpkkdolmfdaaGreatDoor
open Go.GAM
noncomputable abbrev prog:Program:=Tryz.prog
class XR where
 X:bT
abbrev X [XR]:bT:=XR.X
abbrev C [XR]:bT:=gX prog X
abbrev lf:Ann:=.leaf
def nn:Nat→Nat→Go.GAM.Ord→Go.GAM.Ord
 | _,0,o=>o
 | i,k+1,o=>.neu i (nn (i+1) k o)
abbrev bl:Ann:=.br .leaf .leaf
abbrev sl (l:List Nat) (x:Ann):Ann:=.seq 0 l .leaf x
abbrev sq (l:List Nat) (x y:Ann):Ann:=.seq 0 l x y
theorem gR [XR] {ann:Ann} {body:Code} (J:(AV→aA→Prop)→JT) (fn:Func) (hd:aV (places ann body)=true) {Q:AV→aA→Prop} {k:Nat} (p:List Nat) {e:Env} {h:aA} {a:JT→Prop} (H:a (J Q)) (hJ:J=bY prog C fn ann body:=by exact rfl) (hl:s9 (places ann body) k=some (p,false):=by kernel_rfl) (he:∀ j,a j=atJ prog C fn.ntmps j false p ann body e h (pQ prog fn Q):=by intro j; kernel_rfl):J Q k e h:=by
 subst hJ
 exact aM3 (qL X) hd hl (he _ ▸ H)
theorem gH [XR] {ann:Ann} {body:Code} (J:(AV→aA→Prop)→JT) (fn:Func) (hd:aV (places ann body)=true) {Q:AV→aA→Prop} {k:Nat} (p:List Nat) {e:Env} {h:aA} {a:JT→Prop} (H:a (J Q)) (hJ:J=bY prog C fn ann body:=by exact rfl) (hl:s9 (places ann body) k=some (p,true):=by kernel_rfl) (he:∀ j,a j=atJ prog C fn.ntmps j true p ann body e h (pQ prog fn Q):=by intro j; kernel_rfl):J Q k e h:=by
 subst hJ
 exact aJ8 (qL X) hd hl (he _ ▸ H)
theorem gC [XR] {f:FuncId} {fn:Func} {ann:Ann} {body:Code} (J:(AV→aA→Prop)→JT) (hf:prog.funcs[f]? = some fn) (hd:aV (places ann body)=true) {args:List AV} {h:aA} {K:AV→aA→Prop} {a:JT→Prop} (H:a (J (aL h K))) (hJ:J=bY prog C fn ann body:=by exact rfl) (hb:fn.body=some body:=by kernel_rfl) (hn:(fn.name == "runtime.NumGoroutine")=false:=by kernel_rfl) (ha:Nat.ble args.length fn.ntmps=true:=by kernel_rfl) (he:∀ j,a j=exJ prog C fn.ntmps j ann body (fA 0 args) h (pQ prog fn (aL h K)):=by intro j; kernel_rfl):C f args h K:=by
 subst hJ
 exact aO1 hf hb hn hd ha (he _ ▸ H)
abbrev Y36.id:FuncId:=4
abbrev Y53.id:FuncId:=7
abbrev Y46.id:FuncId:=8
abbrev Y50.id:FuncId:=9
abbrev Y37.id:FuncId:=10
abbrev Y34.id:FuncId:=11
abbrev Y90.id:FuncId:=12
abbrev Y8.id:FuncId:=14
abbrev Y85.id:FuncId:=16
abbrev Y13.id:FuncId:=17
abbrev Y51.id:FuncId:=18
abbrev Y35.id:FuncId:=19
abbrev Y40.id:FuncId:=20
abbrev Y59.id:FuncId:=21
abbrev Y12.id:FuncId:=22
abbrev Y75.id:FuncId:=23
abbrev Y33.id:FuncId:=24
abbrev Y79.id:FuncId:=25
abbrev Y2.id:FuncId:=26
abbrev Y26.id:FuncId:=27
abbrev Y27.id:FuncId:=28
abbrev Y17.id:FuncId:=29
abbrev Y7.id:FuncId:=30
abbrev Y41.id:FuncId:=31
abbrev Y16.id:FuncId:=32
abbrev Y14.id:FuncId:=33
abbrev Y70.id:FuncId:=34
abbrev Y19.id:FuncId:=35
abbrev Y72.id:FuncId:=36
abbrev Y80.id:FuncId:=37
abbrev Y38.id:FuncId:=46
abbrev Y99.id:FuncId:=47
abbrev Y24.id:FuncId:=48
abbrev Y15.id:FuncId:=49
abbrev Y94.id:FuncId:=50
abbrev Y56.id:FuncId:=51
abbrev Y32.id:FuncId:=52
abbrev Y20.id:FuncId:=53
abbrev Y82.id:FuncId:=54
abbrev Y6.id:FuncId:=55
abbrev Y93.id:FuncId:=56
abbrev Y0.id:FuncId:=57
abbrev Y57.id:FuncId:=58
abbrev Y48.id:FuncId:=59
abbrev Y3.id:FuncId:=60
abbrev Y4.id:FuncId:=61
abbrev Y1.id:FuncId:=62
abbrev Y43.id:FuncId:=63
abbrev Y22.id:FuncId:=64
abbrev Y89.id:FuncId:=65
abbrev Y23.id:FuncId:=66
abbrev Y84.id:FuncId:=67
abbrev Y74.id:FuncId:=68
abbrev Y47.id:FuncId:=69
abbrev Y71.id:FuncId:=70
abbrev Y39.id:FuncId:=71
abbrev Y18.id:FuncId:=72
abbrev Y25.id:FuncId:=73
abbrev Y61.id:FuncId:=80
abbrev Y58.id:FuncId:=81
abbrev Y104.id:FuncId:=83
abbrev Y98.id:FuncId:=84
abbrev Y91.id:FuncId:=85
abbrev Y9.id:FuncId:=86
abbrev Y66.id:FuncId:=87
abbrev Y87.id:FuncId:=88
abbrev Y86.id:FuncId:=89
abbrev Y117.id:FuncId:=90
abbrev Y100.id:FuncId:=91
abbrev Y30.id:FuncId:=92
abbrev Y42.id:FuncId:=93
abbrev Y49.id:FuncId:=94
abbrev Y64.id:FuncId:=95
abbrev Y54.id:FuncId:=96
abbrev Y31.id:FuncId:=97
abbrev Y96.id:FuncId:=98
abbrev Y28.id:FuncId:=99
abbrev Y44.id:FuncId:=100
abbrev Y21.id:FuncId:=101
abbrev Y52.id:FuncId:=102
abbrev Y60.id:FuncId:=103
abbrev Y29.id:FuncId:=104
abbrev Y81.id:FuncId:=105
abbrev Y77.id:FuncId:=106
abbrev Y63.id:FuncId:=107
abbrev Y55.id:FuncId:=108
abbrev Y83.id:FuncId:=109
abbrev Y65.id:FuncId:=111
abbrev Y88.id:FuncId:=112
abbrev Y113.id:FuncId:=113
abbrev Y62.id:FuncId:=114
abbrev Y103.id:FuncId:=115
abbrev Y92.id:FuncId:=116
abbrev Y10.id:FuncId:=119
abbrev Y123.id:FuncId:=120
abbrev Y73.id:FuncId:=121
abbrev Y97.id:FuncId:=122
abbrev Y107.id:FuncId:=123
abbrev Y110.id:FuncId:=127
abbrev Y78.id:FuncId:=129
abbrev Y76.id:FuncId:=130
abbrev Y11.id:FuncId:=131
abbrev Y45.id:FuncId:=133
abbrev Y121.id:FuncId:=134
abbrev Y108.id:FuncId:=136
abbrev Y112.id:FuncId:=139
abbrev Y95.id:FuncId:=140
abbrev Y68.id:FuncId:=141
abbrev Y69.id:FuncId:=142
abbrev Y119.id:FuncId:=143
abbrev Y122.id:FuncId:=144
abbrev Y102.id:FuncId:=151
abbrev Y67.id:FuncId:=152
abbrev Y109.id:FuncId:=153
abbrev Y101.id:FuncId:=154
abbrev Y106.id:FuncId:=162
abbrev Y115.id:FuncId:=163
abbrev Y105.id:FuncId:=164
abbrev Y114.id:FuncId:=165
abbrev Y120.id:FuncId:=166
abbrev Y116.id:FuncId:=167
abbrev Y111.id:FuncId:=168
abbrev Y118.id:FuncId:=169
abbrev Y5.id:FuncId:=207
variable [XR]
noncomputable def Y53.body:Code:=(Tryz.f7.body).getD .skip
def Y53.ann:Ann:=(sl [] (sl [1,2] (sl [2,3,4] (sl [2,3,4,6] (.seq 1 [0] (.ord (nn 0 8 (.eff 8 (.eff 9 (nn 10 2 (.eff 12 (nn 13 7 .done) .stop)) .stop) .stop))) lf)))))
theorem Y53.dist:aV (places Y53.ann Y53.body)=true:=by kernel_rfl
noncomputable def Y53.J (Q:AV→aA→Prop):JT:=bY prog C Tryz.f7 Y53.ann Y53.body Q
def Y53.p0 (Q:AV→aA→Prop) (x0:Bool) (h:aA):Prop:=Y53.J Q 1 [(0,(AV.b x0))] h
def Y53.t0 (Q:AV→aA→Prop) (x0:Bool) (h:aA) (J:JT):Prop:=
Q (AV.b x0) h
theorem Y53.i0 {Q x0 h} (H:Y53.t0 Q x0 h (Y53.J Q)):Y53.p0 Q x0 h:=gR Y53.J Tryz.f7 Y53.dist [1,1,1,1,1] H
def Y53.t (Q:AV→aA→Prop) (h:aA) (J:JT):Prop:=
C Y85.id [] h fun v1 h2=>
C Y8.id [v1] h2 fun v3 h4=>
aH 0 v3 fun v5=>
asS v5 fun l6=>
aH 1 v3 fun v7=>
asI .i64 v7 fun n8=>
C Y46.id [(AV.s l6)] h4 fun v10 h11=>
aH 0 v10 fun v12=>
aH 1 v10 fun v13=>
asI .i64 v13 fun n14=>
bS (some 25) [(AV.s []),(AV.s []),(AV.s []),(AV.i .i64 0),(AV.i .i64 0),(AV.sl none 0 none),(AV.b false),(AV.s [])] h11 fun v15 h16=>
aP 8 v15 v12 h16 fun h17=>
C Y13.id [(AV.s [67,78,61,97,61,98])] h17 fun v19 h20=>
aH 0 v19 fun v21=>
aH 1 v19 fun v22=>
asI .i64 v22 fun n23=>
bS (some 33) [(AV.i .i64 0),(AV.i .i64 0),(AV.b false),(AV.s []),(AV.sl none 0 none)] h20 fun v24 h25=>
aP 5 v24 v21 h25 fun h26=>
(bif (decide ((n8:Int)=0)) then
((bif (decide ((n14:Int)=0)) then
(aD 8 v15 h26 fun v28=>
C Y85.id [] h26 fun v29 h30=>
aD 8 v15 h30 fun v31=>
(v28=v31 ∧
(C Y37.id [v28,v29] h30 fun v32 h33=>
asB v32 fun c34=>
(bif c34 then
(C Y51.id [(AV.s [79,61,120,44,67,78,61,97,92,44,98])] h33 fun v35 h36=>
asS v35 fun l37=>
aD 8 v15 h36 fun v38=>
(v28=v38 ∧
((bif (decide ((l37:List UInt8)=[97,44,98])) then
(J 1 [(0,(AV.b (decide ((n23:Int)=5))))] h36)
else
(J 1 [(0,(AV.b false))] h36)))))
else
(J 1 [(0,(AV.b false))] h33)))))
else
(J 1 [(0,(AV.b false))] h26)))
else
(J 1 [(0,(AV.b false))] h26))
theorem Y53.call {K h} (H:Y53.t (aL h K) h (Y53.J (aL h K))):C Y53.id [] h K:=
 gC Y53.J Tryz.func7 Y53.dist H
noncomputable def Y46.body:Code:=(Tryz.f8.body).getD .skip
def Y46.ann:Ann:=(sl [0,2] (sq [0,2] (sl [0,2,11] (.br (sl [2,3] lf) lf)) (sl [2,4,5] (sq [2,4] (sl [2,4,5,19] (.br (sl [2,3] lf) lf)) (sl [2,6,7] (sq [2,6] (.seq 1 [2,6,69] (.ord (nn 0 7 (.eff 7 (nn 8 7 (.eff 15 (nn 16 7 (.eff 23 (nn 24 18 .done) .stop)) .stop)) .stop))) (.br (sl [2,3] lf) lf)) (sl [2,6,8] (sl [2,8] (sq [2,8] (sl [2,8,82] (.br (sl [2,3] lf) lf)) (sl [2,3] lf))))))))))
theorem Y46.dist:aV (places Y46.ann Y46.body)=true:=by kernel_rfl
noncomputable def Y46.J (Q:AV→aA→Prop):JT:=bY prog C Tryz.f8 Y46.ann Y46.body Q
def Y46.p0 (Q:AV→aA→Prop) (x2 x6:AV) (x69:Bool) (h:aA):Prop:=Y46.J Q 1 [(2,x2),(6,x6),(69,(AV.b x69))] h
def Y46.t0 (Q:AV→aA→Prop) (x2 x6:AV) (x69:Bool) (h:aA) (J:JT):Prop:=
(bif x69 then
(aP 8 x2 (AV.ag [(AV.s []),(AV.s []),(AV.s []),(AV.i .i64 0),(AV.i .i64 0),(AV.sl none 0 none),(AV.b false),(AV.s [])]) h fun h74=>
aD 8 x2 h74 fun v76=>
Q (AV.tu [v76,(AV.i .i64 2)]) h74)
else
(dQ (some 50) (AV.ag [(AV.s []),(AV.s []),(AV.s []),(AV.i .i64 0),(AV.i .i64 0),(AV.sl none 0 none),(AV.b false),(AV.s []),(AV.b false)]) h fun v78 h79=>
aB 5 x6 (AV.i .i64 0) h79 fun v81=>
aC 4 v81 fun v82=>
aE v82 h79 fun v83=>
C Y12.id [v78,v83] h79 fun v84 h85=>
cC v78 fun v87=>
aC 8 v87 fun v88=>
aE v88 h85 fun v89=>
asB v89 fun c90=>
(bif c90 then
(aP 8 x2 (AV.ag [(AV.s []),(AV.s []),(AV.s []),(AV.i .i64 0),(AV.i .i64 0),(AV.sl none 0 none),(AV.b false),(AV.s [])]) h85 fun h92=>
aD 8 x2 h92 fun v94=>
Q (AV.tu [v94,(AV.i .i64 2)]) h92)
else
(cC v78 fun v96=>
aC 0 v96 fun v97=>
aD 8 v97 h85 fun v98=>
aP 8 x2 v98 h85 fun h99=>
aD 8 x2 h99 fun v101=>
Q (AV.tu [v101,(AV.i .i64 0)]) h99))))
theorem Y46.i0 {Q x2 x6 x69 h} (H:Y46.t0 Q x2 x6 x69 h (Y46.J Q)):Y46.p0 Q x2 x6 x69 h:=gR Y46.J Tryz.f8 Y46.dist [1,1,1,1,1,0,1] H
def Y46.t (Q:AV→aA→Prop) (x0:List UInt8) (h:aA) (J:JT):Prop:=
bS (some 25) [(AV.s []),(AV.s []),(AV.s []),(AV.i .i64 0),(AV.i .i64 0),(AV.sl none 0 none),(AV.b false),(AV.s [])] h fun v0 h1=>
(bif (decide ((65535:Int)<(x0.length:Int))) then
(aP 8 v0 (AV.ag [(AV.s []),(AV.s []),(AV.s []),(AV.i .i64 0),(AV.i .i64 0),(AV.sl none 0 none),(AV.b false),(AV.s [])]) h1 fun h4=>
aD 8 v0 h4 fun v6=>
Q (AV.tu [v6,(AV.i .i64 3)]) h4)
else
(C Y35.id [(AV.s x0)] h1 fun v8 h9=>
aH 0 v8 fun v10=>
aH 1 v8 fun v11=>
asI .i64 v11 fun n12=>
bS (some 33) [(AV.i .i64 0),(AV.i .i64 0),(AV.b false),(AV.s []),(AV.sl none 0 none)] h9 fun v13 h14=>
aP 5 v13 v10 h14 fun h15=>
(bif (!decide ((n12:Int)=0)) then
(aP 8 v0 (AV.ag [(AV.s []),(AV.s []),(AV.s []),(AV.i .i64 0),(AV.i .i64 0),(AV.sl none 0 none),(AV.b false),(AV.s [])]) h15 fun h18=>
aD 8 v0 h18 fun v20=>
Q (AV.tu [v20,(AV.i .i64 n12)]) h18)
else
(aD 3 (bE h15 0) h15 fun v22=>
aD 5 v13 h15 fun v23=>
C Y40.id [v22,v23,(AV.i .i64 3)] h15 fun v24 h25=>
aH 0 v24 fun v26=>
aH 1 v24 fun v27=>
asB v27 fun c28=>
(bif (!c28) then
(J 1 [(2,v0),(6,v26),(69,(AV.b true))] h25)
else
(aD 3 (bE h25 0) h25 fun v31=>
aB 5 v26 (AV.i .i64 0) h25 fun v32=>
aD 5 v32 h25 fun v33=>
C Y59.id [v31,v33] h25 fun v34 h35=>
asB v34 fun c36=>
aB 5 v26 (AV.i .i64 0) h35 fun v37=>
(v32=v37 ∧
((bif (!c36) then
(J 1 [(2,v0),(6,v26),(69,(AV.b true))] h35)
else
(aD 3 (bE h35 0) h35 fun v39=>
aB 5 v26 (AV.i .i64 1) h35 fun v40=>
aD 5 v40 h35 fun v41=>
C Y59.id [v39,v41] h35 fun v42 h43=>
asB v42 fun c44=>
aB 5 v26 (AV.i .i64 1) h43 fun v45=>
(v40=v45 ∧
(aD 5 v32 h43 fun v46=>
(v33=v46 ∧
(aB 5 v26 (AV.i .i64 0) h43 fun v47=>
(v32=v47 ∧
(aD 3 (bE h43 0) h43 fun v48=>
(v31=v48 ∧
((bif (!c44) then
(J 1 [(2,v0),(6,v26),(69,(AV.b true))] h43)
else
(aD 3 (bE h43 1) h43 fun v50=>
aB 5 v26 (AV.i .i64 2) h43 fun v51=>
aD 5 v51 h43 fun v52=>
C Y59.id [v50,v52] h43 fun v53 h54=>
asB v53 fun c55=>
aB 5 v26 (AV.i .i64 2) h54 fun v56=>
(v51=v56 ∧
(aD 5 v40 h54 fun v57=>
(v41=v57 ∧
(aB 5 v26 (AV.i .i64 1) h54 fun v58=>
(v40=v58 ∧
(aD 3 (bE h54 0) h54 fun v59=>
(v39=v59 ∧
(aD 5 v32 h54 fun v60=>
(v33=v60 ∧
(aB 5 v26 (AV.i .i64 0) h54 fun v61=>
(v32=v61 ∧
(aD 3 (bE h54 0) h54 fun v62=>
(v31=v62 ∧
((bif (!c55) then
(J 1 [(2,v0),(6,v26),(69,(AV.b true))] h54)
else
(aB 5 v26 (AV.i .i64 0) h54 fun v64=>
aC 4 v64 fun v65=>
aE v65 h54 fun v66=>
bJ v66 fun n67=>
(bif (decide ((n67:Int)<7)) then
(J 1 [(2,v0),(6,v26),(69,(AV.b true))] h54)
else
(aB 5 v26 (AV.i .i64 0) h54 fun v69=>
aC 4 v69 fun v70=>
aE v70 h54 fun v71=>
bJ v71 fun n72=>
J 1 [(2,v0),(6,v26),(69,(AV.b (decide ((8:Int)<n72))))] h54))))))))))))))))))))))))))))))))))))))
theorem Y46.call {K x0 h} (H:Y46.t (aL h K) x0 h (Y46.J (aL h K))):C Y46.id [(AV.s x0)] h K:=
 gC Y46.J Tryz.func8 Y46.dist H
noncomputable def Y50.body:Code:=(Tryz.f9.body).getD .skip
def Y50.ann:Ann:=(sl [0,2] (sq [0,2] (sl [0,2,10] (.br (sl [2,3] lf) lf)) (sl [2,4,5] (sq [2,4] (sl [2,4,5,18] (.br (sl [2,3] lf) lf)) (sq [2,4] (.seq 1 [2,4,45] lf (.br (sl [2,3] lf) lf)) (sl [2,6,7] (sq [2,6] (sl [2,6,56] (.br (sl [2,3] lf) lf)) (sl [2,3] lf))))))))
theorem Y50.dist:aV (places Y50.ann Y50.body)=true:=by kernel_rfl
noncomputable def Y50.J (Q:AV→aA→Prop):JT:=bY prog C Tryz.f9 Y50.ann Y50.body Q
def Y50.p0 (Q:AV→aA→Prop) (x2 x4:AV) (x45:Bool) (h:aA):Prop:=Y50.J Q 1 [(2,x2),(4,x4),(45,(AV.b x45))] h
def Y50.t0 (Q:AV→aA→Prop) (x2 x4:AV) (x45:Bool) (h:aA) (J:JT):Prop:=
(bif x45 then
(aP 8 x2 (AV.ag [(AV.s []),(AV.s []),(AV.s []),(AV.i .i64 0),(AV.i .i64 0),(AV.sl none 0 none),(AV.b false),(AV.s [])]) h fun h47=>
aD 8 x2 h47 fun v49=>
Q (AV.tu [v49,(AV.i .i64 2)]) h47)
else
(aC 4 x4 fun v51=>
aE v51 h fun v52=>
aB 5 v52 (AV.i .i64 0) h fun v53=>
aD 5 v53 h fun v54=>
C Y2.id [v54] h fun v55 h56=>
aH 0 v55 fun v57=>
aH 1 v55 fun v58=>
asB v58 fun c59=>
bS (some 25) [(AV.s []),(AV.s []),(AV.s []),(AV.i .i64 0),(AV.i .i64 0),(AV.sl none 0 none),(AV.b false),(AV.s [])] h56 fun v60 h61=>
aP 8 v60 v57 h61 fun h62=>
(bif (!c59) then
(aP 8 x2 (AV.ag [(AV.s []),(AV.s []),(AV.s []),(AV.i .i64 0),(AV.i .i64 0),(AV.sl none 0 none),(AV.b false),(AV.s [])]) h62 fun h65=>
aD 8 x2 h65 fun v67=>
Q (AV.tu [v67,(AV.i .i64 2)]) h65)
else
(aD 8 v60 h62 fun v69=>
aP 8 x2 v69 h62 fun h70=>
aD 8 x2 h70 fun v72=>
Q (AV.tu [v72,(AV.i .i64 0)]) h70))))
theorem Y50.i0 {Q x2 x4 x45 h} (H:Y50.t0 Q x2 x4 x45 h (Y50.J Q)):Y50.p0 Q x2 x4 x45 h:=gR Y50.J Tryz.f9 Y50.dist [1,1,1,1,0,1] H
def Y50.t (Q:AV→aA→Prop) (x0:List UInt8) (h:aA) (J:JT):Prop:=
bS (some 25) [(AV.s []),(AV.s []),(AV.s []),(AV.i .i64 0),(AV.i .i64 0),(AV.sl none 0 none),(AV.b false),(AV.s [])] h fun v0 h1=>
(bif (decide ((65535:Int)<(x0.length:Int))) then
(aP 8 v0 (AV.ag [(AV.s []),(AV.s []),(AV.s []),(AV.i .i64 0),(AV.i .i64 0),(AV.sl none 0 none),(AV.b false),(AV.s [])]) h1 fun h4=>
aD 8 v0 h4 fun v6=>
Q (AV.tu [v6,(AV.i .i64 3)]) h4)
else
(C Y75.id [(AV.s x0)] h1 fun v8 h9=>
aH 0 v8 fun v10=>
aH 1 v8 fun v11=>
asI .i64 v11 fun n12=>
bS (some 33) [(AV.i .i64 0),(AV.i .i64 0),(AV.b false),(AV.s []),(AV.sl none 0 none)] h9 fun v13 h14=>
aP 5 v13 v10 h14 fun h15=>
(bif (!decide ((n12:Int)=0)) then
(aP 8 v0 (AV.ag [(AV.s []),(AV.s []),(AV.s []),(AV.i .i64 0),(AV.i .i64 0),(AV.sl none 0 none),(AV.b false),(AV.s [])]) h15 fun h18=>
aD 8 v0 h18 fun v20=>
Q (AV.tu [v20,(AV.i .i64 n12)]) h18)
else
(aD 5 v13 h15 fun v22=>
C Y33.id [v22,(AV.i .i64 0),(AV.i .i64 16),(AV.b true)] h15 fun v23 h24=>
asB v23 fun c25=>
(bif (!c25) then
(J 1 [(2,v0),(4,v13),(45,(AV.b true))] h24)
else
(aC 4 v13 fun v27=>
aE v27 h24 fun v28=>
bJ v28 fun n29=>
(bif (!decide ((n29:Int)=3)) then
(J 1 [(2,v0),(4,v13),(45,(AV.b true))] h24)
else
(aC 4 v13 fun v31=>
aE v31 h24 fun v32=>
aB 5 v32 (AV.i .i64 1) h24 fun v33=>
aD 5 v33 h24 fun v34=>
C Y33.id [v34,(AV.i .i64 0),(AV.i .i64 16),(AV.b true)] h24 fun v35 h36=>
asB v35 fun c37=>
(bif (!c37) then
(J 1 [(2,v0),(4,v13),(45,(AV.b true))] h36)
else
(aC 4 v13 fun v39=>
aE v39 h36 fun v40=>
aB 5 v40 (AV.i .i64 2) h36 fun v41=>
aD 5 v41 h36 fun v42=>
C Y79.id [v42] h36 fun v43 h44=>
asB v43 fun c45=>
J 1 [(2,v0),(4,v13),(45,(AV.b (!c45)))] h44))))))))))
theorem Y50.call {K x0 h} (H:Y50.t (aL h K) x0 h (Y50.J (aL h K))):C Y50.id [(AV.s x0)] h K:=
 gC Y50.J Tryz.func9 Y50.dist H
noncomputable def Y37.body:Code:=(Tryz.f10.body).getD .skip
def Y37.ann:Ann:=(sl [2,3] (sq [2,3] (.seq 1 [2,3,61] lf (.br (sl [4] lf) lf)) (sq [] (sl [2,3,5] (.one (.loop 2 [2,3,5] (sq [2,3,5] (sl [2,3,5,66] bl) (sq [2,3,5] (.one (sq [2,3,5,79] (.ord (nn 0 11 .done)) (.br (sl [4] lf) lf))) lf))))) (sl [4] lf))))
theorem Y37.dist:aV (places Y37.ann Y37.body)=true:=by kernel_rfl
noncomputable def Y37.J (Q:AV→aA→Prop):JT:=bY prog C Tryz.f10 Y37.ann Y37.body Q
def Y37.p0 (Q:AV→aA→Prop) (x2 x3:AV) (x61:Bool) (h:aA):Prop:=Y37.J Q 1 [(2,x2),(3,x3),(61,(AV.b x61))] h
def Y37.p1 (Q:AV→aA→Prop) (x2 x3:AV) (x5:Int) (h:aA):Prop:=Y37.J Q 2 [(2,x2),(3,x3),(5,(AV.i .i64 x5))] h
def Y37.t0 (Q:AV→aA→Prop) (x2 x3:AV) (x61:Bool) (h:aA) (J:JT):Prop:=
(bif x61 then
(Q (AV.b false) h)
else
(J 2 [(2,x2),(3,x3),(5,(AV.i .i64 0))] h))
theorem Y37.i0 {Q x2 x3 x61 h} (H:Y37.t0 Q x2 x3 x61 h (Y37.J Q)):Y37.p0 Q x2 x3 x61 h:=gR Y37.J Tryz.f10 Y37.dist [1,0,1] H
def Y37.t1 (Q:AV→aA→Prop) (x2 x3:AV) (x5:Int) (h:aA) (J:JT):Prop:=
aC 5 x2 fun v64=>
aE v64 h fun v65=>
bJ v65 fun n66=>
(bif (decide ((x5:Int)<n66)) then
(aC 5 x2 fun v70=>
aE v70 h fun v71=>
aB 1 v71 (AV.i .i64 x5) h fun v72=>
aE v72 h fun v73=>
asS v73 fun l74=>
aC 5 x3 fun v75=>
aE v75 h fun v76=>
aB 1 v76 (AV.i .i64 x5) h fun v77=>
aE v77 h fun v78=>
asS v78 fun l79=>
(bif (!(decide ((l74:List UInt8)=l79))) then
(Q (AV.b false) h)
else
(aR (IntKind.wrap .i64 (x5+1)) fun n83=>
J 2 [(2,x2),(3,x3),(5,(AV.i .i64 n83))] h)))
else
(Q (AV.b true) h))
theorem Y37.i1 {Q x2 x3 x5 h} (H:Y37.t1 Q x2 x3 x5 h (Y37.J Q)):Y37.p1 Q x2 x3 x5 h:=gH Y37.J Tryz.f10 Y37.dist [1,1,0,1,0] H
def Y37.t (Q:AV→aA→Prop) (x0 x1:AV) (h:aA) (J:JT):Prop:=
dQ (some 25) x0 h fun v0 h1=>
dQ (some 25) x1 h1 fun v2 h3=>
aC 0 v0 fun v5=>
aE v5 h3 fun v6=>
asS v6 fun l7=>
aC 0 v2 fun v8=>
aE v8 h3 fun v9=>
asS v9 fun l10=>
(bif (!(decide ((l7:List UInt8)=l10))) then
(J 1 [(2,v0),(3,v2),(61,(AV.b true))] h3)
else
(aC 1 v0 fun v12=>
aE v12 h3 fun v13=>
asS v13 fun l14=>
aC 1 v2 fun v15=>
aE v15 h3 fun v16=>
asS v16 fun l17=>
(bif (!(decide ((l14:List UInt8)=l17))) then
(J 1 [(2,v0),(3,v2),(61,(AV.b true))] h3)
else
(aC 2 v0 fun v19=>
aE v19 h3 fun v20=>
asS v20 fun l21=>
aC 2 v2 fun v22=>
aE v22 h3 fun v23=>
asS v23 fun l24=>
(bif (!(decide ((l21:List UInt8)=l24))) then
(J 1 [(2,v0),(3,v2),(61,(AV.b true))] h3)
else
(aC 3 v0 fun v26=>
aE v26 h3 fun v27=>
asI .i64 v27 fun n28=>
aC 3 v2 fun v29=>
aE v29 h3 fun v30=>
asI .i64 v30 fun n31=>
(bif (!decide ((n28:Int)=n31)) then
(J 1 [(2,v0),(3,v2),(61,(AV.b true))] h3)
else
(aC 4 v0 fun v33=>
aE v33 h3 fun v34=>
asI .i64 v34 fun n35=>
aC 4 v2 fun v36=>
aE v36 h3 fun v37=>
asI .i64 v37 fun n38=>
(bif (!decide ((n35:Int)=n38)) then
(J 1 [(2,v0),(3,v2),(61,(AV.b true))] h3)
else
(aC 6 v0 fun v40=>
aE v40 h3 fun v41=>
asB v41 fun c42=>
aC 6 v2 fun v43=>
aE v43 h3 fun v44=>
asB v44 fun c45=>
(bif (!(c42 == c45)) then
(J 1 [(2,v0),(3,v2),(61,(AV.b true))] h3)
else
(aC 7 v0 fun v47=>
aE v47 h3 fun v48=>
asS v48 fun l49=>
aC 7 v2 fun v50=>
aE v50 h3 fun v51=>
asS v51 fun l52=>
(bif (!(decide ((l49:List UInt8)=l52))) then
(J 1 [(2,v0),(3,v2),(61,(AV.b true))] h3)
else
(aC 5 v0 fun v54=>
aE v54 h3 fun v55=>
bJ v55 fun n56=>
aC 5 v2 fun v57=>
aE v57 h3 fun v58=>
bJ v58 fun n59=>
J 1 [(2,v0),(3,v2),(61,(AV.b (!decide ((n56:Int)=n59))))] h3))))))))))))))
theorem Y37.call {K x0 x1 h} (H:Y37.t (aL h K) x0 x1 h (Y37.J (aL h K))):C Y37.id [x0,x1] h K:=
 gC Y37.J Tryz.func10 Y37.dist H
noncomputable def Y34.body:Code:=(Tryz.f11.body).getD .skip
def Y34.ann:Ann:=(sl [1,2] (sl [1,2] (sq [1] (sl [1,2,5] (.one (.loop 1 [1,2,5] (sq [1,2,5] (.seq 2 [1,2,5,21] lf bl) (sq [1,2,5] (.one lf) lf))))) (sl [4] lf))))
theorem Y34.dist:aV (places Y34.ann Y34.body)=true:=by kernel_rfl
noncomputable def Y34.J (Q:AV→aA→Prop):JT:=bY prog C Tryz.f11 Y34.ann Y34.body Q
def Y34.p1 (Q:AV→aA→Prop) (x1:Int) (x2:AV) (x5:Int) (x21:Bool) (h:aA):Prop:=Y34.J Q 2 [(1,(AV.i .i64 x1)),(2,x2),(5,(AV.i .i64 x5)),(21,(AV.b x21))] h
def Y34.p0 (Q:AV→aA→Prop) (x1:Int) (x2:AV) (x5:Int) (h:aA):Prop:=Y34.J Q 1 [(1,(AV.i .i64 x1)),(2,x2),(5,(AV.i .i64 x5))] h
def Y34.t1 (Q:AV→aA→Prop) (x1:Int) (x2:AV) (x5:Int) (x21:Bool) (h:aA) (J:JT):Prop:=
(bif x21 then
(aC 4 x2 fun v18=>
aE v18 h fun v19=>
aB 5 v19 (AV.i .i64 x5) h fun v20=>
aD 5 v20 h fun v21=>
C Y34.id [v21,(AV.i .i64 x1)] h fun v22 h23=>
asI .i64 v22 fun n24=>
aR (IntKind.wrap .i64 (x5+1)) fun n26=>
J 1 [(1,(AV.i .i64 n24)),(2,x2),(5,(AV.i .i64 n26))] h23)
else
(Q (AV.i .i64 x1) h))
theorem Y34.i1 {Q x1 x2 x5 x21 h} (H:Y34.t1 Q x1 x2 x5 x21 h (Y34.J Q)):Y34.p1 Q x1 x2 x5 x21 h:=gR Y34.J Tryz.f11 Y34.dist [1,1,0,1,0,0,0,1] H
def Y34.t0 (Q:AV→aA→Prop) (x1:Int) (x2:AV) (x5:Int) (h:aA) (J:JT):Prop:=
aC 4 x2 fun v11=>
aE v11 h fun v12=>
bJ v12 fun n13=>
(bif (decide ((x5:Int)<n13)) then
(J 2 [(1,(AV.i .i64 x1)),(2,x2),(5,(AV.i .i64 x5)),(21,(AV.b (decide ((0:Int)<x1))))] h)
else
(J 2 [(1,(AV.i .i64 x1)),(2,x2),(5,(AV.i .i64 x5)),(21,(AV.b false))] h))
theorem Y34.i0 {Q x1 x2 x5 h} (H:Y34.t0 Q x1 x2 x5 h (Y34.J Q)):Y34.p0 Q x1 x2 x5 h:=gH Y34.J Tryz.f11 Y34.dist [1,1,0,1,0] H
def Y34.t (Q:AV→aA→Prop) (x0:AV) (x1:Int) (h:aA) (J:JT):Prop:=
dQ (some 33) x0 h fun v0 h1=>
aR (IntKind.wrap .i64 (x1 - 1)) fun n3=>
aC 3 v0 fun v4=>
aE v4 h1 fun v5=>
asS v5 fun l6=>
kS .i64 (l6.length:Int) 10 fun n7=>
aR (IntKind.wrap .i64 (n3 - n7)) fun n8=>
J 1 [(1,(AV.i .i64 n8)),(2,v0),(5,(AV.i .i64 0))] h1
theorem Y34.call {K x0 x1 h} (H:Y34.t (aL h K) x0 x1 h (Y34.J (aL h K))):C Y34.id [x0,(AV.i .i64 x1)] h K:=
 gC Y34.J Tryz.func11 Y34.dist H
noncomputable def Y90.body:Code:=(Tryz.f12.body).getD .skip
def Y90.ann:Ann:=(sl [1] (sl [1,4] (sl [1,5] (sq [1] (sl [1,5,13] (.br (sl [2,3] lf) lf)) (sl [6] (sq [6] (sl [6,19] (.br (sl [2,3] lf) lf)) (sl [2,3] lf)))))))
theorem Y90.dist:aV (places Y90.ann Y90.body)=true:=by kernel_rfl
noncomputable def Y90.J (Q:AV→aA→Prop):JT:=bY prog C Tryz.f12 Y90.ann Y90.body Q
def Y90.t (Q:AV→aA→Prop) (x0:AV) (h:aA) (J:JT):Prop:=
dQ (some 33) x0 h fun v0 h1=>
dQ (some 57) (AV.ag [(AV.i .i64 0)]) h1 fun v3 h4=>
aD 5 v0 h4 fun v6=>
C Y26.id [v3,v6,(AV.i .i64 1)] h4 fun v7 h8=>
asI .i64 v7 fun n9=>
(bif (!decide ((n9:Int)=0)) then
(Q (AV.tu [(AV.s []),(AV.i .i64 n9)]) h8)
else
(aD 5 v0 h8 fun v14=>
C Y27.id [v14] h8 fun v15 h16=>
asS v15 fun l17=>
(bif (decide ((65535:Int)<(l17.length:Int))) then
(Q (AV.tu [(AV.s []),(AV.i .i64 3)]) h16)
else
(Q (AV.tu [(AV.s l17),(AV.i .i64 0)]) h16))))
theorem Y90.call {K x0 h} (H:Y90.t (aL h K) x0 h (Y90.J (aL h K))):C Y90.id [x0] h K:=
 gC Y90.J Tryz.func12 Y90.dist H
noncomputable def Y8.body:Code:=(Tryz.f14.body).getD .skip
def Y8.ann:Ann:=(sl [1] (sq [1] (sl [1,4] (sl [1,4,27] (.br (sl [2,3] lf) lf))) (sl [1,5] (sl [1,7] (sl [1,7,8] (sl [1,7,8,10] (sl [1,7,8,10,12] (sq [1,7,14] (.ord (.neu 0 (nn 4 2 (nn 7 5 (nn 13 2 (nn 18 7 (.eff 1 (.eff 2 (.eff 3 (.eff 6 (.eff 12 (.eff 15 (.eff 16 (.eff 17 (.eff 25 (.eff 26 (.eff 27 (.eff 28 (.neu 29 .done) .stop) .stop) .stop) .stop) .stop) .stop) .stop) .stop) .stop) .stop) .stop) .stop))))))) (sl [1,7,14,15] (.seq 2 [1,7,14,15] (sl [1,7,14,15,87] (.br (sl [1,7,14,15,16] (sq [1,7,14,15,16] (sl [1,7,14,15,16,89,90,91] (.one (.loop 1 [1,7,14,15,16,89,90,91] (sl [1,7,14,15,16,89,90,91,92] (sq [1,7,14,15,16,89,90,91] bl (sq [1,7,14,15,16,89,90,91] (.one (sl [1,7,14,15,16,18,89,90,91] lf)) lf)))))) (sl [1,7,14,15,19,20] (sq [1,7,14,15,19] (sl [1,7,14,15,19,20,110] (.br (sl [2,3] lf) lf)) lf)))) lf)) (.seq 4 [1,7,14,15] (sl [1,7,14,15,117] (.br (.seq 3 [1,7,14,15,21,22] (.ord (nn 0 2 (.eff 2 (.eff 3 (.eff 4 (.eff 5 (nn 6 3 (.eff 9 (.eff 10 (.neu 11 .done) .stop) .stop)) (.eff 9 (.eff 5 (nn 6 3 (.eff 10 (.neu 11 .done) .stop)) .stop) .stop)) (.eff 9 (.eff 4 (.eff 5 (nn 6 3 (.eff 10 (.neu 11 .done) .stop)) .stop) .stop) .stop)) (.eff 9 (.eff 3 (.eff 4 (.eff 5 (nn 6 3 (.eff 10 (.neu 11 .done) .stop)) .stop) .stop) .stop) .stop)) (.eff 9 (.eff 2 (.eff 3 (.eff 4 (.eff 5 (nn 6 3 (.eff 10 (.neu 11 .done) .stop)) .stop) .stop) .stop) .stop) .stop)))) (sq [1,7,14,15,21] (sl [1,7,14,15,21,22,128] (.br (sl [2,3] lf) lf)) lf)) lf)) (.seq 5 [1,7,14] (sl [1,7,14,15,136] (.br (.ord (nn 0 4 (.eff 4 (.eff 5 (.eff 6 (.eff 7 (.eff 8 (.eff 9 .done .stop) .stop) .stop) .stop) .stop) .stop))) lf)) (sl [7,14,23] (sq [2,3] (.ord (nn 0 3 (nn 4 4 (.eff 3 (.eff 8 (.eff 9 (.eff 10 (.eff 11 (nn 12 4 .done) .stop) .stop) .stop) .stop) .stop)))) lf))))))))))))))
theorem Y8.dist:aV (places Y8.ann Y8.body)=true:=by kernel_rfl
noncomputable def Y8.J (Q:AV→aA→Prop):JT:=bY prog C Tryz.f14 Y8.ann Y8.body Q
def Y8.p0 (Q:AV→aA→Prop) (x1 x7 x14 x15 x16 x89:AV) (x90 x91:Int) (h:aA):Prop:=Y8.J Q 1 [(1,x1),(7,x7),(14,x14),(15,x15),(16,x16),(89,x89),(90,(AV.i .i64 x90)),(91,(AV.i .i64 x91))] h
def Y8.p2 (Q:AV→aA→Prop) (x1 x7 x14 x15 x21:AV) (x22:Int) (h:aA):Prop:=Y8.J Q 3 [(1,x1),(7,x7),(14,x14),(15,x15),(21,x21),(22,(AV.i .i64 x22))] h
def Y8.p4 (Q:AV→aA→Prop) (x1 x7 x14:AV) (h:aA):Prop:=Y8.J Q 5 [(1,x1),(7,x7),(14,x14)] h
def Y8.p3 (Q:AV→aA→Prop) (x1 x7 x14 x15:AV) (h:aA):Prop:=Y8.J Q 4 [(1,x1),(7,x7),(14,x14),(15,x15)] h
def Y8.p1 (Q:AV→aA→Prop) (x1 x7 x14 x15:AV) (h:aA):Prop:=Y8.J Q 2 [(1,x1),(7,x7),(14,x14),(15,x15)] h
def Y8.t0 (Q:AV→aA→Prop) (x1 x7 x14 x15 x16 x89:AV) (x90 x91:Int) (h:aA) (J:JT):Prop:=
(bif (decide ((x91:Int)<x90)) then
(aB 1 x89 (AV.i .i64 x91) h fun v288=>
aE v288 h fun v289=>
asS v289 fun l290=>
aD 3 (bE h 4) h fun v292=>
C Y70.id [v292,(AV.s l290)] h fun v293 h294=>
bD 5 1 [(AV.i .i64 0),(AV.i .i64 0),(AV.b false),(AV.s []),(AV.sl none 0 none)] [(0,5,v293)] h294 fun v295 h296=>
bQ none 5 64 x16 v295 h296 fun v297 h298=>
aR (IntKind.wrap .i64 (x91+1)) fun n300=>
J 1 [(1,x1),(7,x7),(14,x14),(15,x15),(16,v297),(89,x89),(90,(AV.i .i64 x90)),(91,(AV.i .i64 n300))] h298)
else
(aD 3 (bE h 0) h fun v302=>
C Y41.id [v302,x16] h fun v303 h304=>
C Y72.id [(AV.s [50,46,53,46,50,57,46,49,55]),v303] h304 fun v305 h306=>
aH 0 v305 fun v307=>
aH 1 v305 fun v308=>
asI .i64 v308 fun n309=>
bS (some 33) [(AV.i .i64 0),(AV.i .i64 0),(AV.b false),(AV.s []),(AV.sl none 0 none)] h306 fun v310 h311=>
aP 5 v310 v307 h311 fun h312=>
(bif (!decide ((n309:Int)=0)) then
(Q (AV.tu [(AV.s []),(AV.i .i64 n309)]) h312)
else
(aD 5 v310 h312 fun v317=>
bD 5 1 [(AV.i .i64 0),(AV.i .i64 0),(AV.b false),(AV.s []),(AV.sl none 0 none)] [(0,5,v317)] h312 fun v318 h319=>
bQ none 5 64 x15 v318 h319 fun v320 h321=>
J 2 [(1,x1),(7,x7),(14,x14),(15,v320)] h321))))
theorem Y8.i0 {Q x1 x7 x14 x15 x16 x89 x90 x91 h} (H:Y8.t0 Q x1 x7 x14 x15 x16 x89 x90 x91 h (Y8.J Q)):Y8.p0 Q x1 x7 x14 x15 x16 x89 x90 x91 h:=gH Y8.J Tryz.f14 Y8.dist [1,1,1,1,1,1,1,1,1,0,1,0,1,0,1,0] H
def Y8.t2 (Q:AV→aA→Prop) (x1 x7 x14 x15 x21:AV) (x22:Int) (h:aA) (J:JT):Prop:=
(bif (!decide ((x22:Int)=0)) then
(Q (AV.tu [(AV.s []),(AV.i .i64 x22)]) h)
else
(aD 5 x21 h fun v428=>
bD 5 1 [(AV.i .i64 0),(AV.i .i64 0),(AV.b false),(AV.s []),(AV.sl none 0 none)] [(0,5,v428)] h fun v429 h430=>
bQ none 5 64 x15 v429 h430 fun v431 h432=>
J 4 [(1,x1),(7,x7),(14,x14),(15,v431)] h432))
theorem Y8.i2 {Q x1 x7 x14 x15 x21 x22 h} (H:Y8.t2 Q x1 x7 x14 x15 x21 x22 h (Y8.J Q)):Y8.p2 Q x1 x7 x14 x15 x21 x22 h:=gR Y8.J Tryz.f14 Y8.dist [1,1,1,1,1,1,1,1,1,1,0,1,0,1] H
def Y8.t4 (Q:AV→aA→Prop) (x1 x7 x14:AV) (h:aA) (J:JT):Prop:=
aC 7 x1 fun v459=>
aE v459 h fun v460=>
asS v460 fun l461=>
eI l461 [0,0,0,0,0,0,0,0] fun l462=>
bV (AV.s l462) none (some (AV.i .i64 8)) fun l463=>
aD 3 (bE h 0) h fun v465=>
aD 3 (bE h 0) h fun v466=>
aD 5 x7 h fun v467=>
aD 3 (bE h 1) h fun v468=>
eI [0] l463 fun l469=>
C Y41.id [v466,x14] h fun v470 h471=>
aD 3 (bE h471 1) h471 fun v472=>
(v468=v472 ∧
(aD 5 x7 h471 fun v473=>
(v467=v473 ∧
(aD 3 (bE h471 0) h471 fun v474=>
(v465=v474 ∧
(C Y70.id [v468,(AV.s l469)] h471 fun v475 h476=>
aD 5 x7 h476 fun v477=>
(v467=v477 ∧
(aD 3 (bE h476 0) h476 fun v478=>
(v466=v478 ∧
(aD 3 (bE h476 0) h476 fun v479=>
(v465=v479 ∧
(bD 5 3 [(AV.i .i64 0),(AV.i .i64 0),(AV.b false),(AV.s []),(AV.sl none 0 none),(AV.i .i64 0),(AV.i .i64 0),(AV.b false),(AV.s []),(AV.sl none 0 none),(AV.i .i64 0),(AV.i .i64 0),(AV.b false),(AV.s []),(AV.sl none 0 none)] [(0,5,v470),(5,5,v467),(10,5,v475)] h476 fun v480 h481=>
aD 3 (bE h481 1) h481 fun v482=>
(v468=v482 ∧
(aD 3 (bE h481 0) h481 fun v483=>
(v466=v483 ∧
(aD 3 (bE h481 0) h481 fun v484=>
(v465=v484 ∧
(C Y41.id [v465,v480] h481 fun v485 h486=>
aD 3 (bE h486 1) h486 fun v487=>
(v468=v487 ∧
(aD 5 x7 h486 fun v488=>
(v467=v488 ∧
(aD 3 (bE h486 0) h486 fun v489=>
(v466=v489 ∧
(C Y80.id [v485] h486 fun v490 h491=>
aD 3 (bE h491 1) h491 fun v492=>
(v468=v492 ∧
(aD 5 x7 h491 fun v493=>
(v467=v493 ∧
(aD 3 (bE h491 0) h491 fun v494=>
(v466=v494 ∧
(aD 3 (bE h491 0) h491 fun v495=>
(v465=v495 ∧
(aH 0 v490 fun v496=>
asS v496 fun l497=>
aH 1 v490 fun v498=>
asI .i64 v498 fun n499=>
Q (AV.tu [(AV.s l497),(AV.i .i64 n499)]) h491))))))))))))))))))))))))))))))))
theorem Y8.i4 {Q x1 x7 x14 h} (H:Y8.t4 Q x1 x7 x14 h (Y8.J Q)):Y8.p4 Q x1 x7 x14 h:=gR Y8.J Tryz.f14 Y8.dist [1,1,1,1,1,1,1,1,1,1,1,1] H
def Y8.t3 (Q:AV→aA→Prop) (x1 x7 x14 x15:AV) (h:aA) (J:JT):Prop:=
bJ x15 fun n435=>
(bif (decide ((0:Int)<n435)) then
(aD 3 (bE h 6) h fun v437=>
aD 3 (bE h 0) h fun v438=>
C Y41.id [v438,x15] h fun v439 h440=>
aD 3 (bE h440 6) h440 fun v441=>
(v437=v441 ∧
(bD 5 1 [(AV.i .i64 0),(AV.i .i64 0),(AV.b false),(AV.s []),(AV.sl none 0 none)] [(0,5,v439)] h440 fun v442 h443=>
aD 3 (bE h443 0) h443 fun v444=>
(v438=v444 ∧
(aD 3 (bE h443 6) h443 fun v445=>
(v437=v445 ∧
(C Y41.id [v437,v442] h443 fun v446 h447=>
aD 3 (bE h447 0) h447 fun v448=>
(v438=v448 ∧
(bD 5 1 [(AV.i .i64 0),(AV.i .i64 0),(AV.b false),(AV.s []),(AV.sl none 0 none)] [(0,5,v446)] h447 fun v449 h450=>
aD 3 (bE h450 0) h450 fun v451=>
(v438=v451 ∧
(aD 3 (bE h450 6) h450 fun v452=>
(v437=v452 ∧
(bQ none 5 64 x14 v449 h450 fun v453 h454=>
aD 3 (bE h454 0) h454 fun v455=>
(v438=v455 ∧
(aD 3 (bE h454 6) h454 fun v456=>
(v437=v456 ∧
(J 5 [(1,x1),(7,x7),(14,v453)] h454)))))))))))))))))
else
(J 5 [(1,x1),(7,x7),(14,x14)] h))
theorem Y8.i3 {Q x1 x7 x14 x15 h} (H:Y8.t3 Q x1 x7 x14 x15 h (Y8.J Q)):Y8.p3 Q x1 x7 x14 x15 h:=gR Y8.J Tryz.f14 Y8.dist [1,1,1,1,1,1,1,1,1,1,1] H
def Y8.t1 (Q:AV→aA→Prop) (x1 x7 x14 x15:AV) (h:aA) (J:JT):Prop:=
aC 6 x1 fun v324=>
aE v324 h fun v325=>
asB v325 fun c326=>
(bif c326 then
(aD 3 (bE h 0) h fun v328=>
aD 3 (bE h 5) h fun v329=>
((C Y70.id [v329,(AV.s [255])] h fun v330 h331=>
aD 3 (bE h331 0) h331 fun v332=>
(v328=v332 ∧
(((bD 5 1 [(AV.i .i64 0),(AV.i .i64 0),(AV.b false),(AV.s []),(AV.sl none 0 none)] [(0,5,v330)] h331 fun v333 h334=>
aD 3 (bE h334 5) h334 fun v335=>
(v329=v335 ∧
(aD 3 (bE h334 0) h334 fun v336=>
(v328=v336 ∧
(((C Y41.id [v328,v333] h334 fun v337 h338=>
aD 3 (bE h338 5) h338 fun v339=>
(v329=v339 ∧
(((C Y72.id [(AV.s [50,46,53,46,50,57,46,49,57]),v337] h338 fun v340 h341=>
aD 3 (bE h341 5) h341 fun v342=>
(v329=v342 ∧
(aD 3 (bE h341 0) h341 fun v343=>
(v328=v343 ∧
(aH 0 v340 fun v344=>
aH 1 v340 fun v345=>
asI .i64 v345 fun n346=>
bS (some 33) [(AV.i .i64 0),(AV.i .i64 0),(AV.b false),(AV.s []),(AV.sl none 0 none)] h341 fun v347 h348=>
aD 3 (bE h348 5) h348 fun v349=>
(v329=v349 ∧
(aD 3 (bE h348 0) h348 fun v350=>
(v328=v350 ∧
(aP 5 v347 v344 h348 fun h351=>
J 3 [(1,x1),(7,x7),(14,x14),(15,x15),(21,v347),(22,(AV.i .i64 n346))] h351))))))))) ∧
(bS (some 33) [(AV.i .i64 0),(AV.i .i64 0),(AV.b false),(AV.s []),(AV.sl none 0 none)] h338 fun v353 h354=>
aD 3 (bE h354 5) h354 fun v355=>
(v329=v355 ∧
(aD 3 (bE h354 0) h354 fun v356=>
(v328=v356 ∧
(C Y72.id [(AV.s [50,46,53,46,50,57,46,49,57]),v337] h354 fun v357 h358=>
aD 3 (bE h358 5) h358 fun v359=>
(v329=v359 ∧
(aD 3 (bE h358 0) h358 fun v360=>
(v328=v360 ∧
(aH 0 v357 fun v361=>
aH 1 v357 fun v362=>
asI .i64 v362 fun n363=>
aP 5 v353 v361 h358 fun h364=>
J 3 [(1,x1),(7,x7),(14,x14),(15,x15),(21,v353),(22,(AV.i .i64 n363))] h364))))))))))))) ∧
(bS (some 33) [(AV.i .i64 0),(AV.i .i64 0),(AV.b false),(AV.s []),(AV.sl none 0 none)] h334 fun v366 h367=>
aD 3 (bE h367 5) h367 fun v368=>
(v329=v368 ∧
(aD 3 (bE h367 0) h367 fun v369=>
(v328=v369 ∧
(C Y41.id [v328,v333] h367 fun v370 h371=>
aD 3 (bE h371 5) h371 fun v372=>
(v329=v372 ∧
(C Y72.id [(AV.s [50,46,53,46,50,57,46,49,57]),v370] h371 fun v373 h374=>
aD 3 (bE h374 5) h374 fun v375=>
(v329=v375 ∧
(aD 3 (bE h374 0) h374 fun v376=>
(v328=v376 ∧
(aH 0 v373 fun v377=>
aH 1 v373 fun v378=>
asI .i64 v378 fun n379=>
aP 5 v366 v377 h374 fun h380=>
J 3 [(1,x1),(7,x7),(14,x14),(15,x15),(21,v366),(22,(AV.i .i64 n379))] h380))))))))))))))))) ∧
(bS (some 33) [(AV.i .i64 0),(AV.i .i64 0),(AV.b false),(AV.s []),(AV.sl none 0 none)] h331 fun v382 h383=>
aD 3 (bE h383 5) h383 fun v384=>
(v329=v384 ∧
(aD 3 (bE h383 0) h383 fun v385=>
(v328=v385 ∧
(bD 5 1 [(AV.i .i64 0),(AV.i .i64 0),(AV.b false),(AV.s []),(AV.sl none 0 none)] [(0,5,v330)] h383 fun v386 h387=>
aD 3 (bE h387 5) h387 fun v388=>
(v329=v388 ∧
(aD 3 (bE h387 0) h387 fun v389=>
(v328=v389 ∧
(C Y41.id [v328,v386] h387 fun v390 h391=>
aD 3 (bE h391 5) h391 fun v392=>
(v329=v392 ∧
(C Y72.id [(AV.s [50,46,53,46,50,57,46,49,57]),v390] h391 fun v393 h394=>
aD 3 (bE h394 5) h394 fun v395=>
(v329=v395 ∧
(aD 3 (bE h394 0) h394 fun v396=>
(v328=v396 ∧
(aH 0 v393 fun v397=>
aH 1 v393 fun v398=>
asI .i64 v398 fun n399=>
aP 5 v382 v397 h394 fun h400=>
J 3 [(1,x1),(7,x7),(14,x14),(15,x15),(21,v382),(22,(AV.i .i64 n399))] h400))))))))))))))))))) ∧
(bS (some 33) [(AV.i .i64 0),(AV.i .i64 0),(AV.b false),(AV.s []),(AV.sl none 0 none)] h fun v402 h403=>
aD 3 (bE h403 5) h403 fun v404=>
(v329=v404 ∧
(aD 3 (bE h403 0) h403 fun v405=>
(v328=v405 ∧
(C Y70.id [v329,(AV.s [255])] h403 fun v406 h407=>
aD 3 (bE h407 0) h407 fun v408=>
(v328=v408 ∧
(bD 5 1 [(AV.i .i64 0),(AV.i .i64 0),(AV.b false),(AV.s []),(AV.sl none 0 none)] [(0,5,v406)] h407 fun v409 h410=>
aD 3 (bE h410 5) h410 fun v411=>
(v329=v411 ∧
(aD 3 (bE h410 0) h410 fun v412=>
(v328=v412 ∧
(C Y41.id [v328,v409] h410 fun v413 h414=>
aD 3 (bE h414 5) h414 fun v415=>
(v329=v415 ∧
(C Y72.id [(AV.s [50,46,53,46,50,57,46,49,57]),v413] h414 fun v416 h417=>
aD 3 (bE h417 5) h417 fun v418=>
(v329=v418 ∧
(aD 3 (bE h417 0) h417 fun v419=>
(v328=v419 ∧
(aH 0 v416 fun v420=>
aH 1 v416 fun v421=>
asI .i64 v421 fun n422=>
aP 5 v402 v420 h417 fun h423=>
J 3 [(1,x1),(7,x7),(14,x14),(15,x15),(21,v402),(22,(AV.i .i64 n422))] h423)))))))))))))))))))
else
(J 4 [(1,x1),(7,x7),(14,x14),(15,x15)] h))
theorem Y8.i1 {Q x1 x7 x14 x15 h} (H:Y8.t1 Q x1 x7 x14 x15 h (Y8.J Q)):Y8.p1 Q x1 x7 x14 x15 h:=gR Y8.J Tryz.f14 Y8.dist [1,1,1,1,1,1,1,1,1,1] H
def Y8.t (Q:AV→aA→Prop) (x0:AV) (h:aA) (J:JT):Prop:=
dQ (some 25) x0 h fun v0 h1=>
aD 8 v0 h1 fun v3=>
C Y17.id [v3] h1 fun v4 h5=>
asI .i64 v4 fun n6=>
(bif (!decide ((n6:Int)=0)) then
(Q (AV.tu [(AV.s []),(AV.i .i64 n6)]) h5)
else
(C Y7.id [(AV.s [49,46,50,46,56,52,48,46,49,48,48,52,53,46,52,46,51,46,50])] h5 fun v11 h12=>
aH 0 v11 fun v13=>
aH 1 v11 fun v14=>
asI .i64 v14 fun n15=>
bS (some 33) [(AV.i .i64 0),(AV.i .i64 0),(AV.b false),(AV.s []),(AV.sl none 0 none)] h12 fun v16 h17=>
aP 5 v16 v13 h17 fun h18=>
aD 3 (bE h18 0) h18 fun v20=>
aD 5 v16 h18 fun v21=>
bD 5 1 [(AV.i .i64 0),(AV.i .i64 0),(AV.b false),(AV.s []),(AV.sl none 0 none)] [(0,5,v21)] h18 fun v22 h23=>
C Y41.id [v20,v22] h23 fun v24 h25=>
bS (some 33) [(AV.i .i64 0),(AV.i .i64 0),(AV.b false),(AV.s []),(AV.sl none 0 none)] h25 fun v26 h27=>
aP 5 v26 v24 h27 fun h28=>
aC 0 v0 fun v30=>
aE v30 h28 fun v31=>
asS v31 fun l32=>
C Y16.id [(AV.s l32)] h28 fun v33 h34=>
aH 0 v33 fun v35=>
asS v35 fun l36=>
aH 1 v33 fun v37=>
asB v37 fun c38=>
aC 1 v0 fun v40=>
aE v40 h34 fun v41=>
asS v41 fun l42=>
C Y13.id [(AV.s l42)] h34 fun v43 h44=>
aH 0 v43 fun v45=>
aH 1 v43 fun v46=>
asI .i64 v46 fun n47=>
bS (some 33) [(AV.i .i64 0),(AV.i .i64 0),(AV.b false),(AV.s []),(AV.sl none 0 none)] h44 fun v48 h49=>
aP 5 v48 v45 h49 fun h50=>
aC 2 v0 fun v52=>
aE v52 h50 fun v53=>
asS v53 fun l54=>
C Y13.id [(AV.s l54)] h50 fun v55 h56=>
aH 0 v55 fun v57=>
aH 1 v55 fun v58=>
asI .i64 v58 fun n59=>
bS (some 33) [(AV.i .i64 0),(AV.i .i64 0),(AV.b false),(AV.s []),(AV.sl none 0 none)] h56 fun v60 h61=>
aP 5 v60 v57 h61 fun h62=>
aD 3 (bE h62 2) h62 fun v64=>
aD 3 (bE h62 3) h62 fun v65=>
aD 5 v26 h62 fun v66=>
aD 5 v48 h62 fun v67=>
aD 3 (bE h62 0) h62 fun v68=>
aC 3 v0 fun v69=>
aE v69 h62 fun v70=>
asI .i64 v70 fun n71=>
aC 4 v0 fun v72=>
aE v72 h62 fun v73=>
asI .i64 v73 fun n74=>
aD 5 v60 h62 fun v75=>
aD 3 (bE h62 0) h62 fun v76=>
aD 5 v26 h62 fun v77=>
aD 3 (bE h62 1) h62 fun v78=>
aC 7 v0 fun v79=>
aE v79 h62 fun v80=>
asS v80 fun l81=>
eI [0] l81 fun l82=>
C Y14.id [(AV.i .i64 2)] h62 fun v83 h84=>
aE v79 h84 fun v85=>
asS v85 fun l86=>
((AV.s l81)=(AV.s l86) ∧
(aD 3 (bE h84 1) h84 fun v87=>
(v78=v87 ∧
(aD 5 v26 h84 fun v88=>
(v77=v88 ∧
(aD 3 (bE h84 0) h84 fun v89=>
(v76=v89 ∧
(aD 5 v60 h84 fun v90=>
(v75=v90 ∧
(aE v72 h84 fun v91=>
asI .i64 v91 fun n92=>
((AV.i .i64 n74)=(AV.i .i64 n92) ∧
(aE v69 h84 fun v93=>
asI .i64 v93 fun n94=>
((AV.i .i64 n71)=(AV.i .i64 n94) ∧
(aD 3 (bE h84 0) h84 fun v95=>
(v68=v95 ∧
(aD 5 v48 h84 fun v96=>
(v67=v96 ∧
(aD 5 v26 h84 fun v97=>
(v66=v97 ∧
(aD 3 (bE h84 3) h84 fun v98=>
(v65=v98 ∧
(aD 3 (bE h84 2) h84 fun v99=>
(v64=v99 ∧
(bD 5 1 [(AV.i .i64 0),(AV.i .i64 0),(AV.b false),(AV.s []),(AV.sl none 0 none)] [(0,5,v83)] h84 fun v100 h101=>
aE v79 h101 fun v102=>
asS v102 fun l103=>
((AV.s l81)=(AV.s l103) ∧
(aD 3 (bE h101 1) h101 fun v104=>
(v78=v104 ∧
(aD 5 v26 h101 fun v105=>
(v77=v105 ∧
(aD 3 (bE h101 0) h101 fun v106=>
(v76=v106 ∧
(aD 5 v60 h101 fun v107=>
(v75=v107 ∧
(aE v72 h101 fun v108=>
asI .i64 v108 fun n109=>
((AV.i .i64 n74)=(AV.i .i64 n109) ∧
(aE v69 h101 fun v110=>
asI .i64 v110 fun n111=>
((AV.i .i64 n71)=(AV.i .i64 n111) ∧
(aD 3 (bE h101 0) h101 fun v112=>
(v68=v112 ∧
(aD 5 v48 h101 fun v113=>
(v67=v113 ∧
(aD 5 v26 h101 fun v114=>
(v66=v114 ∧
(aD 3 (bE h101 3) h101 fun v115=>
(v65=v115 ∧
(aD 3 (bE h101 2) h101 fun v116=>
(v64=v116 ∧
(C Y41.id [v64,v100] h101 fun v117 h118=>
aE v79 h118 fun v119=>
asS v119 fun l120=>
((AV.s l81)=(AV.s l120) ∧
(aD 3 (bE h118 1) h118 fun v121=>
(v78=v121 ∧
(aD 5 v26 h118 fun v122=>
(v77=v122 ∧
(aD 3 (bE h118 0) h118 fun v123=>
(v76=v123 ∧
(aD 5 v60 h118 fun v124=>
(v75=v124 ∧
(aE v72 h118 fun v125=>
asI .i64 v125 fun n126=>
((AV.i .i64 n74)=(AV.i .i64 n126) ∧
(aE v69 h118 fun v127=>
asI .i64 v127 fun n128=>
((AV.i .i64 n71)=(AV.i .i64 n128) ∧
(aD 3 (bE h118 0) h118 fun v129=>
(v68=v129 ∧
(aD 5 v48 h118 fun v130=>
(v67=v130 ∧
(aD 5 v26 h118 fun v131=>
(v66=v131 ∧
(aD 3 (bE h118 3) h118 fun v132=>
(v65=v132 ∧
(C Y70.id [v65,(AV.s l36)] h118 fun v133 h134=>
aE v79 h134 fun v135=>
asS v135 fun l136=>
((AV.s l81)=(AV.s l136) ∧
(aD 3 (bE h134 1) h134 fun v137=>
(v78=v137 ∧
(aD 5 v26 h134 fun v138=>
(v77=v138 ∧
(aD 3 (bE h134 0) h134 fun v139=>
(v76=v139 ∧
(aD 5 v60 h134 fun v140=>
(v75=v140 ∧
(aE v72 h134 fun v141=>
asI .i64 v141 fun n142=>
((AV.i .i64 n74)=(AV.i .i64 n142) ∧
(aE v69 h134 fun v143=>
asI .i64 v143 fun n144=>
((AV.i .i64 n71)=(AV.i .i64 n144) ∧
(aD 3 (bE h134 0) h134 fun v145=>
(v68=v145 ∧
(aD 5 v48 h134 fun v146=>
(v67=v146 ∧
(aD 5 v26 h134 fun v147=>
(v66=v147 ∧
(aD 3 (bE h134 2) h134 fun v148=>
(v64=v148 ∧
(C Y19.id [(AV.i .i64 n71)] h134 fun v149 h150=>
aE v79 h150 fun v151=>
asS v151 fun l152=>
((AV.s l81)=(AV.s l152) ∧
(aD 3 (bE h150 1) h150 fun v153=>
(v78=v153 ∧
(aD 5 v26 h150 fun v154=>
(v77=v154 ∧
(aD 3 (bE h150 0) h150 fun v155=>
(v76=v155 ∧
(aD 5 v60 h150 fun v156=>
(v75=v156 ∧
(aE v72 h150 fun v157=>
asI .i64 v157 fun n158=>
((AV.i .i64 n74)=(AV.i .i64 n158) ∧
(aD 3 (bE h150 0) h150 fun v159=>
(v68=v159 ∧
(aD 5 v48 h150 fun v160=>
(v67=v160 ∧
(aD 5 v26 h150 fun v161=>
(v66=v161 ∧
(aD 3 (bE h150 3) h150 fun v162=>
(v65=v162 ∧
(aD 3 (bE h150 2) h150 fun v163=>
(v64=v163 ∧
(C Y19.id [(AV.i .i64 n74)] h150 fun v164 h165=>
aE v79 h165 fun v166=>
asS v166 fun l167=>
((AV.s l81)=(AV.s l167) ∧
(aD 3 (bE h165 1) h165 fun v168=>
(v78=v168 ∧
(aD 5 v26 h165 fun v169=>
(v77=v169 ∧
(aD 3 (bE h165 0) h165 fun v170=>
(v76=v170 ∧
(aD 5 v60 h165 fun v171=>
(v75=v171 ∧
(aE v69 h165 fun v172=>
asI .i64 v172 fun n173=>
((AV.i .i64 n71)=(AV.i .i64 n173) ∧
(aD 3 (bE h165 0) h165 fun v174=>
(v68=v174 ∧
(aD 5 v48 h165 fun v175=>
(v67=v175 ∧
(aD 5 v26 h165 fun v176=>
(v66=v176 ∧
(aD 3 (bE h165 3) h165 fun v177=>
(v65=v177 ∧
(aD 3 (bE h165 2) h165 fun v178=>
(v64=v178 ∧
(bD 5 2 [(AV.i .i64 0),(AV.i .i64 0),(AV.b false),(AV.s []),(AV.sl none 0 none),(AV.i .i64 0),(AV.i .i64 0),(AV.b false),(AV.s []),(AV.sl none 0 none)] [(0,5,v149),(5,5,v164)] h165 fun v179 h180=>
aE v79 h180 fun v181=>
asS v181 fun l182=>
((AV.s l81)=(AV.s l182) ∧
(aD 3 (bE h180 1) h180 fun v183=>
(v78=v183 ∧
(aD 5 v26 h180 fun v184=>
(v77=v184 ∧
(aD 3 (bE h180 0) h180 fun v185=>
(v76=v185 ∧
(aD 5 v60 h180 fun v186=>
(v75=v186 ∧
(aE v72 h180 fun v187=>
asI .i64 v187 fun n188=>
((AV.i .i64 n74)=(AV.i .i64 n188) ∧
(aE v69 h180 fun v189=>
asI .i64 v189 fun n190=>
((AV.i .i64 n71)=(AV.i .i64 n190) ∧
(aD 3 (bE h180 0) h180 fun v191=>
(v68=v191 ∧
(aD 5 v48 h180 fun v192=>
(v67=v192 ∧
(aD 5 v26 h180 fun v193=>
(v66=v193 ∧
(aD 3 (bE h180 3) h180 fun v194=>
(v65=v194 ∧
(aD 3 (bE h180 2) h180 fun v195=>
(v64=v195 ∧
(C Y41.id [v68,v179] h180 fun v196 h197=>
aE v79 h197 fun v198=>
asS v198 fun l199=>
((AV.s l81)=(AV.s l199) ∧
(aD 3 (bE h197 1) h197 fun v200=>
(v78=v200 ∧
(aD 5 v26 h197 fun v201=>
(v77=v201 ∧
(aD 3 (bE h197 0) h197 fun v202=>
(v76=v202 ∧
(aD 5 v60 h197 fun v203=>
(v75=v203 ∧
(aE v72 h197 fun v204=>
asI .i64 v204 fun n205=>
((AV.i .i64 n74)=(AV.i .i64 n205) ∧
(aE v69 h197 fun v206=>
asI .i64 v206 fun n207=>
((AV.i .i64 n71)=(AV.i .i64 n207) ∧
(aD 5 v48 h197 fun v208=>
(v67=v208 ∧
(aD 5 v26 h197 fun v209=>
(v66=v209 ∧
(aD 3 (bE h197 3) h197 fun v210=>
(v65=v210 ∧
(aD 3 (bE h197 2) h197 fun v211=>
(v64=v211 ∧
(C Y70.id [v78,(AV.s l82)] h197 fun v212 h213=>
aE v79 h213 fun v214=>
asS v214 fun l215=>
((AV.s l81)=(AV.s l215) ∧
(aD 5 v26 h213 fun v216=>
(v77=v216 ∧
(aD 3 (bE h213 0) h213 fun v217=>
(v76=v217 ∧
(aD 5 v60 h213 fun v218=>
(v75=v218 ∧
(aE v72 h213 fun v219=>
asI .i64 v219 fun n220=>
((AV.i .i64 n74)=(AV.i .i64 n220) ∧
(aE v69 h213 fun v221=>
asI .i64 v221 fun n222=>
((AV.i .i64 n71)=(AV.i .i64 n222) ∧
(aD 3 (bE h213 0) h213 fun v223=>
(v68=v223 ∧
(aD 5 v48 h213 fun v224=>
(v67=v224 ∧
(aD 5 v26 h213 fun v225=>
(v66=v225 ∧
(aD 3 (bE h213 3) h213 fun v226=>
(v65=v226 ∧
(aD 3 (bE h213 2) h213 fun v227=>
(v64=v227 ∧
(bD 5 2 [(AV.i .i64 0),(AV.i .i64 0),(AV.b false),(AV.s []),(AV.sl none 0 none),(AV.i .i64 0),(AV.i .i64 0),(AV.b false),(AV.s []),(AV.sl none 0 none)] [(0,5,v77),(5,5,v212)] h213 fun v228 h229=>
aE v79 h229 fun v230=>
asS v230 fun l231=>
((AV.s l81)=(AV.s l231) ∧
(aD 3 (bE h229 1) h229 fun v232=>
(v78=v232 ∧
(aD 3 (bE h229 0) h229 fun v233=>
(v76=v233 ∧
(aD 5 v60 h229 fun v234=>
(v75=v234 ∧
(aE v72 h229 fun v235=>
asI .i64 v235 fun n236=>
((AV.i .i64 n74)=(AV.i .i64 n236) ∧
(aE v69 h229 fun v237=>
asI .i64 v237 fun n238=>
((AV.i .i64 n71)=(AV.i .i64 n238) ∧
(aD 3 (bE h229 0) h229 fun v239=>
(v68=v239 ∧
(aD 5 v48 h229 fun v240=>
(v67=v240 ∧
(aD 5 v26 h229 fun v241=>
(v66=v241 ∧
(aD 3 (bE h229 3) h229 fun v242=>
(v65=v242 ∧
(aD 3 (bE h229 2) h229 fun v243=>
(v64=v243 ∧
(C Y41.id [v76,v228] h229 fun v244 h245=>
aE v79 h245 fun v246=>
asS v246 fun l247=>
((AV.s l81)=(AV.s l247) ∧
(aD 3 (bE h245 1) h245 fun v248=>
(v78=v248 ∧
(aD 5 v26 h245 fun v249=>
(v77=v249 ∧
(aD 5 v60 h245 fun v250=>
(v75=v250 ∧
(aE v72 h245 fun v251=>
asI .i64 v251 fun n252=>
((AV.i .i64 n74)=(AV.i .i64 n252) ∧
(aE v69 h245 fun v253=>
asI .i64 v253 fun n254=>
((AV.i .i64 n71)=(AV.i .i64 n254) ∧
(aD 3 (bE h245 0) h245 fun v255=>
(v68=v255 ∧
(aD 5 v48 h245 fun v256=>
(v67=v256 ∧
(aD 5 v26 h245 fun v257=>
(v66=v257 ∧
(aD 3 (bE h245 3) h245 fun v258=>
(v65=v258 ∧
(aD 3 (bE h245 2) h245 fun v259=>
(v64=v259 ∧
(bD 5 7 [(AV.i .i64 0),(AV.i .i64 0),(AV.b false),(AV.s []),(AV.sl none 0 none),(AV.i .i64 0),(AV.i .i64 0),(AV.b false),(AV.s []),(AV.sl none 0 none),(AV.i .i64 0),(AV.i .i64 0),(AV.b false),(AV.s []),(AV.sl none 0 none),(AV.i .i64 0),(AV.i .i64 0),(AV.b false),(AV.s []),(AV.sl none 0 none),(AV.i .i64 0),(AV.i .i64 0),(AV.b false),(AV.s []),(AV.sl none 0 none),(AV.i .i64 0),(AV.i .i64 0),(AV.b false),(AV.s []),(AV.sl none 0 none),(AV.i .i64 0),(AV.i .i64 0),(AV.b false),(AV.s []),(AV.sl none 0 none)] [(0,5,v117),(5,5,v133),(10,5,v66),(15,5,v67),(20,5,v196),(25,5,v75),(30,5,v244)] h245 fun v260 h261=>
aE v79 h261 fun v262=>
asS v262 fun l263=>
((AV.s l81)=(AV.s l263) ∧
(aD 3 (bE h261 1) h261 fun v264=>
(v78=v264 ∧
(aD 5 v26 h261 fun v265=>
(v77=v265 ∧
(aD 3 (bE h261 0) h261 fun v266=>
(v76=v266 ∧
(aE v72 h261 fun v267=>
asI .i64 v267 fun n268=>
((AV.i .i64 n74)=(AV.i .i64 n268) ∧
(aE v69 h261 fun v269=>
asI .i64 v269 fun n270=>
((AV.i .i64 n71)=(AV.i .i64 n270) ∧
(aD 3 (bE h261 0) h261 fun v271=>
(v68=v271 ∧
(aD 3 (bE h261 3) h261 fun v272=>
(v65=v272 ∧
(aD 3 (bE h261 2) h261 fun v273=>
(v64=v273 ∧
(aC 5 v0 fun v276=>
aE v276 h261 fun v277=>
bJ v277 fun n278=>
(bif (decide ((0:Int)<n278)) then
(aC 5 v0 fun v281=>
aE v281 h261 fun v282=>
bJ v282 fun n283=>
J 1 [(1,v0),(7,v26),(14,v260),(15,(AV.sl none 0 none)),(16,(AV.sl none 0 none)),(89,v282),(90,(AV.i .i64 n283)),(91,(AV.i .i64 0))] h261)
else
(J 2 [(1,v0),(7,v26),(14,v260),(15,(AV.sl none 0 none))] h261))))))))))))))))))))))))))))))))))))))))))))))))))))))))))))))))))))))))))))))))))))))))))))))))))))))))))))))))))))))))))))))))))))))))))))))))))))))))))))))))))))))))))))))))))))))))))))))))))))))))))))))))))))))))))))))))))))))))))))))))))))))))))))))))))))))))))))))
theorem Y8.call {K x0 h} (H:Y8.t (aL h K) x0 h (Y8.J (aL h K))):C Y8.id [x0] h K:=
 gC Y8.J Tryz.func14 Y8.dist H
noncomputable def Y85.body:Code:=(Tryz.f16.body).getD .skip
def Y85.ann:Ann:=(sl [0] (sl [0] lf))
theorem Y85.dist:aV (places Y85.ann Y85.body)=true:=by kernel_rfl
noncomputable def Y85.J (Q:AV→aA→Prop):JT:=bY prog C Tryz.f16 Y85.ann Y85.body Q
def Y85.t (Q:AV→aA→Prop) (h:aA) (J:JT):Prop:=
bS (some 25) [(AV.s []),(AV.s []),(AV.s []),(AV.i .i64 0),(AV.i .i64 0),(AV.sl none 0 none),(AV.b false),(AV.s [])] h fun v0 h1=>
bD 1 2 [(AV.s []),(AV.s [])] [(0,1,(AV.s [120])),(1,1,(AV.s [42,46,121]))] h1 fun v3 h4=>
iC [(AV.s []),(AV.s []),(AV.s []),(AV.i .i64 0),(AV.i .i64 0),(AV.sl none 0 none),(AV.b false),(AV.s [])] [(0,1,(AV.s [48,48])),(1,1,(AV.s [67,78,61,97,44,79,61,98])),(2,1,(AV.s [67,78,61,120])),(3,1,(AV.i .i64 5)),(4,1,(AV.i .i64 2600000000)),(5,1,v3),(6,1,(AV.b true)),(7,1,(AV.s [107,101,121]))] fun v5=>
aP 8 v0 v5 h4 fun h6=>
aD 8 v0 h6 fun v8=>
Q v8 h6
theorem Y85.call {K h} (H:Y85.t (aL h K) h (Y85.J (aL h K))):C Y85.id [] h K:=
 gC Y85.J Tryz.func16 Y85.dist H
noncomputable def Y13.body:Code:=(Tryz.f17.body).getD .skip
def Y13.ann:Ann:=(sl [0,2] (sq [0,2] (sl [0,2,18] (.br (sl [2,3] lf) lf)) (sl [0,2,4] (sq [0,2,4] (sl [0,2,4,23] (.br (sl [2,3] lf) lf)) (sq [0,2,4] (sl [0,2,4,26,27,28] (.one (.loop 1 [0,2,4,26,27,28] (sl [0,2,4,26,27,28,29] (sq [0,2,4,26,27,28] bl (sq [0,2,4,26,27,28] (.one (sl [0,2,4,6,26,27,28] (sl [0,2,4,7,8,26,27,28] (sl [0,2,4,7,8,26,27,28,38,39,40] (.one (.loop 2 [0,2,4,7,8,26,27,28,38,39,40] (sl [0,2,4,7,8,26,27,28,38,39,40,41] (sq [0,2,4,7,8,26,27,28,38,39,40] bl (.seq 3 [0,2,4,7,8,26,27,28,38,39,40] (.one (sl [0,2,4,7,8,11,26,27,28,38,39,40] (sl [0,2,4,7,8,11,26,27,28,38,39,40,47] (.br (sl [0,2,4,7,8,12,26,27,28,38,39,40] (.ord (nn 0 7 (.eff 7 (.eff 8 (.eff 9 (.eff 10 (.eff 11 (.eff 12 (.eff 13 (.eff 14 (.neu 15 (.eff 16 .done .stop)) .stop) .stop) .stop) .stop) .stop) .stop) .stop) .stop)))) lf)))) lf))))))))) lf)))))) (sq [2,4] (sl [0,2,4,14,15] (.seq 4 [2,4,83] lf (.br (sl [2,3] lf) lf))) (sl [2,3] lf)))))))
theorem Y13.dist:aV (places Y13.ann Y13.body)=true:=by kernel_rfl
noncomputable def Y13.J (Q:AV→aA→Prop):JT:=bY prog C Tryz.f17 Y13.ann Y13.body Q
def Y13.p2 (Q:AV→aA→Prop) (x0:List UInt8) (x2 x4:AV) (x7 x8:List UInt8) (x26:AV) (x27 x28:Int) (x38:AV) (x39 x40:Int) (h:aA):Prop:=Y13.J Q 3 [(0,(AV.s x0)),(2,x2),(4,x4),(7,(AV.s x7)),(8,(AV.s x8)),(26,x26),(27,(AV.i .i64 x27)),(28,(AV.i .i64 x28)),(38,x38),(39,(AV.i .i64 x39)),(40,(AV.i .i64 x40))] h
def Y13.p1 (Q:AV→aA→Prop) (x0:List UInt8) (x2 x4:AV) (x7 x8:List UInt8) (x26:AV) (x27 x28:Int) (x38:AV) (x39 x40:Int) (h:aA):Prop:=Y13.J Q 2 [(0,(AV.s x0)),(2,x2),(4,x4),(7,(AV.s x7)),(8,(AV.s x8)),(26,x26),(27,(AV.i .i64 x27)),(28,(AV.i .i64 x28)),(38,x38),(39,(AV.i .i64 x39)),(40,(AV.i .i64 x40))] h
def Y13.p0 (Q:AV→aA→Prop) (x0:List UInt8) (x2 x4 x26:AV) (x27 x28:Int) (h:aA):Prop:=Y13.J Q 1 [(0,(AV.s x0)),(2,x2),(4,x4),(26,x26),(27,(AV.i .i64 x27)),(28,(AV.i .i64 x28))] h
def Y13.p3 (Q:AV→aA→Prop) (x2 x4:AV) (x83:Bool) (h:aA):Prop:=Y13.J Q 4 [(2,x2),(4,x4),(83,(AV.b x83))] h
def Y13.t2 (Q:AV→aA→Prop) (x0:List UInt8) (x2 x4:AV) (x7 x8:List UInt8) (x26:AV) (x27 x28:Int) (x38:AV) (x39 x40:Int) (h:aA) (J:JT):Prop:=
aR (IntKind.wrap .i64 (x40+1)) fun n123=>
J 2 [(0,(AV.s x0)),(2,x2),(4,x4),(7,(AV.s x7)),(8,(AV.s x8)),(26,x26),(27,(AV.i .i64 x27)),(28,(AV.i .i64 x28)),(38,x38),(39,(AV.i .i64 x39)),(40,(AV.i .i64 n123))] h
theorem Y13.i2 {Q x0 x2 x4 x7 x8 x26 x27 x28 x38 x39 x40 h} (H:Y13.t2 Q x0 x2 x4 x7 x8 x26 x27 x28 x38 x39 x40 h (Y13.J Q)):Y13.p2 Q x0 x2 x4 x7 x8 x26 x27 x28 x38 x39 x40 h:=gR Y13.J Tryz.f17 Y13.dist [1,1,1,1,0,1,0,0,1,1,0,0,1,1,1,0,0,1,1,1] H
def Y13.t1 (Q:AV→aA→Prop) (x0:List UInt8) (x2 x4:AV) (x7 x8:List UInt8) (x26:AV) (x27 x28:Int) (x38:AV) (x39 x40:Int) (h:aA) (J:JT):Prop:=
(bif (decide ((x40:Int)<x39)) then
(aB 2 x38 (AV.i .i64 x40) h fun v47=>
aD 2 v47 h fun v48=>
bS (some 74) [(AV.s []),(AV.s [])] h fun v49 h50=>
aP 2 v49 v48 h50 fun h51=>
aC 0 v49 fun v53=>
aE v53 h51 fun v54=>
asS v54 fun l55=>
(bif (decide ((l55:List UInt8)=x7)) then
(aC 1 v49 fun v57=>
aE v57 h51 fun v58=>
asS v58 fun l59=>
C Y7.id [(AV.s l59)] h51 fun v60 h61=>
aH 0 v60 fun v62=>
aH 1 v60 fun v63=>
asI .i64 v63 fun n64=>
bS (some 33) [(AV.i .i64 0),(AV.i .i64 0),(AV.b false),(AV.s []),(AV.sl none 0 none)] h61 fun v65 h66=>
aP 5 v65 v62 h66 fun h67=>
aC 4 x4 fun v69=>
aE v69 h67 fun v70=>
aD 3 (bE h67 8) h67 fun v71=>
aD 3 (bE h67 0) h67 fun v72=>
aD 5 v65 h67 fun v73=>
C Y24.id [(AV.s x8)] h67 fun v74 h75=>
asS v74 fun l76=>
aD 5 v65 h75 fun v77=>
(v73=v77 ∧
(aD 3 (bE h75 0) h75 fun v78=>
(v72=v78 ∧
(aD 3 (bE h75 8) h75 fun v79=>
(v71=v79 ∧
(aE v69 h75 fun v80=>
(v70=v80 ∧
(C Y70.id [(AV.ag [(AV.i .i64 0),(AV.i .i64 12),(AV.b false)]),(AV.s l76)] h75 fun v81 h82=>
aD 5 v65 h82 fun v83=>
(v73=v83 ∧
(aD 3 (bE h82 0) h82 fun v84=>
(v72=v84 ∧
(aD 3 (bE h82 8) h82 fun v85=>
(v71=v85 ∧
(aE v69 h82 fun v86=>
(v70=v86 ∧
(bD 5 2 [(AV.i .i64 0),(AV.i .i64 0),(AV.b false),(AV.s []),(AV.sl none 0 none),(AV.i .i64 0),(AV.i .i64 0),(AV.b false),(AV.s []),(AV.sl none 0 none)] [(0,5,v73),(5,5,v81)] h82 fun v87 h88=>
aD 3 (bE h88 0) h88 fun v89=>
(v72=v89 ∧
(aD 3 (bE h88 8) h88 fun v90=>
(v71=v90 ∧
(aE v69 h88 fun v91=>
(v70=v91 ∧
(C Y41.id [v72,v87] h88 fun v92 h93=>
aD 5 v65 h93 fun v94=>
(v73=v94 ∧
(aD 3 (bE h93 8) h93 fun v95=>
(v71=v95 ∧
(aE v69 h93 fun v96=>
(v70=v96 ∧
(bD 5 1 [(AV.i .i64 0),(AV.i .i64 0),(AV.b false),(AV.s []),(AV.sl none 0 none)] [(0,5,v92)] h93 fun v97 h98=>
aD 5 v65 h98 fun v99=>
(v73=v99 ∧
(aD 3 (bE h98 0) h98 fun v100=>
(v72=v100 ∧
(aD 3 (bE h98 8) h98 fun v101=>
(v71=v101 ∧
(aE v69 h98 fun v102=>
(v70=v102 ∧
(C Y41.id [v71,v97] h98 fun v103 h104=>
aD 5 v65 h104 fun v105=>
(v73=v105 ∧
(aD 3 (bE h104 0) h104 fun v106=>
(v72=v106 ∧
(aE v69 h104 fun v107=>
(v70=v107 ∧
(bD 5 1 [(AV.i .i64 0),(AV.i .i64 0),(AV.b false),(AV.s []),(AV.sl none 0 none)] [(0,5,v103)] h104 fun v108 h109=>
aD 5 v65 h109 fun v110=>
(v73=v110 ∧
(aD 3 (bE h109 0) h109 fun v111=>
(v72=v111 ∧
(aD 3 (bE h109 8) h109 fun v112=>
(v71=v112 ∧
(aE v69 h109 fun v113=>
(v70=v113 ∧
(bQ none 5 64 v70 v108 h109 fun v114 h115=>
aD 5 v65 h115 fun v116=>
(v73=v116 ∧
(aD 3 (bE h115 0) h115 fun v117=>
(v72=v117 ∧
(aD 3 (bE h115 8) h115 fun v118=>
(v71=v118 ∧
(aC 4 x4 fun v119=>
aP 1 v119 v114 h115 fun h120=>
J 3 [(0,(AV.s x0)),(2,x2),(4,x4),(7,(AV.s x7)),(8,(AV.s x8)),(26,x26),(27,(AV.i .i64 x27)),(28,(AV.i .i64 x28)),(38,x38),(39,(AV.i .i64 x39)),(40,(AV.i .i64 x40))] h120)))))))))))))))))))))))))))))))))))))))))))))))))))))))))
else
(J 3 [(0,(AV.s x0)),(2,x2),(4,x4),(7,(AV.s x7)),(8,(AV.s x8)),(26,x26),(27,(AV.i .i64 x27)),(28,(AV.i .i64 x28)),(38,x38),(39,(AV.i .i64 x39)),(40,(AV.i .i64 x40))] h51)))
else
(aR (IntKind.wrap .i64 (x28+1)) fun n125=>
J 1 [(0,(AV.s x0)),(2,x2),(4,x4),(26,x26),(27,(AV.i .i64 x27)),(28,(AV.i .i64 n125))] h))
theorem Y13.i1 {Q x0 x2 x4 x7 x8 x26 x27 x28 x38 x39 x40 h} (H:Y13.t1 Q x0 x2 x4 x7 x8 x26 x27 x28 x38 x39 x40 h (Y13.J Q)):Y13.p1 Q x0 x2 x4 x7 x8 x26 x27 x28 x38 x39 x40 h:=gH Y13.J Tryz.f17 Y13.dist [1,1,1,1,0,1,0,0,1,1,0,0,1,1,1,0] H
def Y13.t0 (Q:AV→aA→Prop) (x0:List UInt8) (x2 x4 x26:AV) (x27 x28:Int) (h:aA) (J:JT):Prop:=
(bif (decide ((x28:Int)<x27)) then
(aB 1 x26 (AV.i .i64 x28) h fun v28=>
aE v28 h fun v29=>
asS v29 fun l30=>
C Y99.id [(AV.s l30),(AV.s [61])] h fun v32 h33=>
aH 0 v32 fun v34=>
asS v34 fun l35=>
aH 1 v32 fun v36=>
asS v36 fun l37=>
aH 2 v32 fun v38=>
asB v38 fun c39=>
aE (bE h33 7) h33 fun v41=>
bJ v41 fun n42=>
J 2 [(0,(AV.s x0)),(2,x2),(4,x4),(7,(AV.s l35)),(8,(AV.s l37)),(26,x26),(27,(AV.i .i64 x27)),(28,(AV.i .i64 x28)),(38,v41),(39,(AV.i .i64 n42)),(40,(AV.i .i64 0))] h33)
else
(aD 5 x4 h fun v127=>
C Y15.id [v127] h fun v128 h129=>
aH 0 v128 fun v130=>
asS v130 fun l131=>
aH 1 v128 fun v132=>
asI .i64 v132 fun n133=>
(bif (!decide ((n133:Int)=0)) then
(J 4 [(2,x2),(4,x4),(83,(AV.b true))] h129)
else
(J 4 [(2,x2),(4,x4),(83,(AV.b (!(decide ((l131:List UInt8)=x0)))))] h129))))
theorem Y13.i0 {Q x0 x2 x4 x26 x27 x28 h} (H:Y13.t0 Q x0 x2 x4 x26 x27 x28 h (Y13.J Q)):Y13.p0 Q x0 x2 x4 x26 x27 x28 h:=gH Y13.J Tryz.f17 Y13.dist [1,1,1,1,0,1,0] H
def Y13.t3 (Q:AV→aA→Prop) (x2 x4:AV) (x83:Bool) (h:aA) (J:JT):Prop:=
(bif x83 then
(aP 5 x2 (AV.ag [(AV.i .i64 0),(AV.i .i64 0),(AV.b false),(AV.s []),(AV.sl none 0 none)]) h fun h137=>
aD 5 x2 h137 fun v139=>
Q (AV.tu [v139,(AV.i .i64 5)]) h137)
else
(aD 5 x4 h fun v141=>
aP 5 x2 v141 h fun h142=>
aD 5 x2 h142 fun v144=>
Q (AV.tu [v144,(AV.i .i64 0)]) h142))
theorem Y13.i3 {Q x2 x4 x83 h} (H:Y13.t3 Q x2 x4 x83 h (Y13.J Q)):Y13.p3 Q x2 x4 x83 h:=gR Y13.J Tryz.f17 Y13.dist [1,1,1,1,1,0,1,1] H
def Y13.t (Q:AV→aA→Prop) (x0:List UInt8) (h:aA) (J:JT):Prop:=
bS (some 33) [(AV.i .i64 0),(AV.i .i64 0),(AV.b false),(AV.s []),(AV.sl none 0 none)] h fun v0 h1=>
(bif (decide ((512:Int)<(x0.length:Int))) then
(aP 5 v0 (AV.ag [(AV.i .i64 0),(AV.i .i64 0),(AV.b false),(AV.s []),(AV.sl none 0 none)]) h1 fun h4=>
aD 5 v0 h4 fun v6=>
Q (AV.tu [v6,(AV.i .i64 3)]) h4)
else
(aD 3 (bE h1 0) h1 fun v8=>
C Y41.id [v8,(AV.sl none 0 none)] h1 fun v9 h10=>
bS (some 33) [(AV.i .i64 0),(AV.i .i64 0),(AV.b false),(AV.s []),(AV.sl none 0 none)] h10 fun v11 h12=>
aP 5 v11 v9 h12 fun h13=>
(bif (decide ((x0:List UInt8)=[])) then
(aD 5 v11 h13 fun v16=>
aP 5 v0 v16 h13 fun h17=>
aD 5 v0 h17 fun v19=>
Q (AV.tu [v19,(AV.i .i64 0)]) h17)
else
(C Y38.id [(AV.s x0)] h13 fun v21 h22=>
bJ v21 fun n23=>
J 1 [(0,(AV.s x0)),(2,v0),(4,v11),(26,v21),(27,(AV.i .i64 n23)),(28,(AV.i .i64 0))] h22))))
theorem Y13.call {K x0 h} (H:Y13.t (aL h K) x0 h (Y13.J (aL h K))):C Y13.id [(AV.s x0)] h K:=
 gC Y13.J Tryz.func17 Y13.dist H
noncomputable def Y51.body:Code:=(Tryz.f18.body).getD .skip
def Y51.ann:Ann:=(sl [0] (sq [0] (sl [0,4] (sl [0,15] (.br (sl [2] lf) lf))) (sq [] (sl [17,18,19] (.one (.loop 1 [17,18,19] (sl [17,18,19,20] (sq [17,18,19] bl (sq [17,18,19] (.one (sl [6,17,18,19] (sl [7,8,17,18,19] (sl [7,17,18,19,28] (.br (sl [2] lf) lf))))) lf)))))) (sl [2] lf))))
theorem Y51.dist:aV (places Y51.ann Y51.body)=true:=by kernel_rfl
noncomputable def Y51.J (Q:AV→aA→Prop):JT:=bY prog C Tryz.f18 Y51.ann Y51.body Q
def Y51.p0 (Q:AV→aA→Prop) (x17:AV) (x18 x19:Int) (h:aA):Prop:=Y51.J Q 1 [(17,x17),(18,(AV.i .i64 x18)),(19,(AV.i .i64 x19))] h
def Y51.t0 (Q:AV→aA→Prop) (x17:AV) (x18 x19:Int) (h:aA) (J:JT):Prop:=
(bif (decide ((x19:Int)<x18)) then
(aB 1 x17 (AV.i .i64 x19) h fun v20=>
aE v20 h fun v21=>
asS v21 fun l22=>
C Y94.id [(AV.s l22),(AV.s [67,78,61])] h fun v24 h25=>
aH 0 v24 fun v26=>
asS v26 fun l27=>
aH 1 v24 fun v28=>
asB v28 fun c29=>
(bif c29 then
(C Y24.id [(AV.s l27)] h25 fun v32 h33=>
asS v32 fun l34=>
Q (AV.s l34) h33)
else
(aR (IntKind.wrap .i64 (x19+1)) fun n37=>
J 1 [(17,x17),(18,(AV.i .i64 x18)),(19,(AV.i .i64 n37))] h25)))
else
(Q (AV.s []) h))
theorem Y51.i0 {Q x17 x18 x19 h} (H:Y51.t0 Q x17 x18 x19 h (Y51.J Q)):Y51.p0 Q x17 x18 x19 h:=gH Y51.J Tryz.f18 Y51.dist [1,1,0,1,0] H
def Y51.t (Q:AV→aA→Prop) (x0:List UInt8) (h:aA) (J:JT):Prop:=
C Y13.id [(AV.s x0)] h fun v1 h2=>
aH 0 v1 fun v3=>
aH 1 v1 fun v4=>
asI .i64 v4 fun n5=>
bS (some 33) [(AV.i .i64 0),(AV.i .i64 0),(AV.b false),(AV.s []),(AV.sl none 0 none)] h2 fun v6 h7=>
aP 5 v6 v3 h7 fun h8=>
(bif (!decide ((n5:Int)=0)) then
(Q (AV.s []) h8)
else
(C Y38.id [(AV.s x0)] h8 fun v13 h14=>
bJ v13 fun n15=>
J 1 [(17,v13),(18,(AV.i .i64 n15)),(19,(AV.i .i64 0))] h14))
theorem Y51.call {K x0 h} (H:Y51.t (aL h K) x0 h (Y51.J (aL h K))):C Y51.id [(AV.s x0)] h K:=
 gC Y51.J Tryz.func18 Y51.dist H
noncomputable def Y35.body:Code:=(Tryz.f19.body).getD .skip
def Y35.ann:Ann:=(sl [0,2] (sq [0,2] (sl [0,2,10] (.br (sl [2,3] lf) lf)) (sl [0,2,4] (sl [2,5,6,7] (.seq 2 [2,5,7] (.seq 1 [2,5,7,26] lf bl) (sq [2,5] (sl [2,5,7,28] (.br (sl [2,3] lf) lf)) (sl [2,3] lf)))))))
theorem Y35.dist:aV (places Y35.ann Y35.body)=true:=by kernel_rfl
noncomputable def Y35.J (Q:AV→aA→Prop):JT:=bY prog C Tryz.f19 Y35.ann Y35.body Q
def Y35.p0 (Q:AV→aA→Prop) (x2 x5:AV) (x7:Int) (x26:Bool) (h:aA):Prop:=Y35.J Q 1 [(2,x2),(5,x5),(7,(AV.i .i64 x7)),(26,(AV.b x26))] h
def Y35.p1 (Q:AV→aA→Prop) (x2 x5:AV) (x7:Int) (h:aA):Prop:=Y35.J Q 2 [(2,x2),(5,x5),(7,(AV.i .i64 x7))] h
def Y35.t0 (Q:AV→aA→Prop) (x2 x5:AV) (x7:Int) (x26:Bool) (h:aA) (J:JT):Prop:=
(bif x26 then
(J 2 [(2,x2),(5,x5),(7,(AV.i .i64 2))] h)
else
(J 2 [(2,x2),(5,x5),(7,(AV.i .i64 x7))] h))
theorem Y35.i0 {Q x2 x5 x7 x26 h} (H:Y35.t0 Q x2 x5 x7 x26 h (Y35.J Q)):Y35.p0 Q x2 x5 x7 x26 h:=gR Y35.J Tryz.f19 Y35.dist [1,1,1,1,0,1] H
def Y35.t1 (Q:AV→aA→Prop) (x2 x5:AV) (x7:Int) (h:aA) (J:JT):Prop:=
(bif (!decide ((x7:Int)=0)) then
(aP 5 x2 (AV.ag [(AV.i .i64 0),(AV.i .i64 0),(AV.b false),(AV.s []),(AV.sl none 0 none)]) h fun h27=>
aD 5 x2 h27 fun v29=>
Q (AV.tu [v29,(AV.i .i64 x7)]) h27)
else
(aD 5 x5 h fun v31=>
aP 5 x2 v31 h fun h32=>
aD 5 x2 h32 fun v34=>
Q (AV.tu [v34,(AV.i .i64 0)]) h32))
theorem Y35.i1 {Q x2 x5 x7 h} (H:Y35.t1 Q x2 x5 x7 h (Y35.J Q)):Y35.p1 Q x2 x5 x7 h:=gR Y35.J Tryz.f19 Y35.dist [1,1,1,1,1] H
def Y35.t (Q:AV→aA→Prop) (x0:List UInt8) (h:aA) (J:JT):Prop:=
bS (some 33) [(AV.i .i64 0),(AV.i .i64 0),(AV.b false),(AV.s []),(AV.sl none 0 none)] h fun v0 h1=>
(bif (decide ((65535:Int)<(x0.length:Int))) then
(aP 5 v0 (AV.ag [(AV.i .i64 0),(AV.i .i64 0),(AV.b false),(AV.s []),(AV.sl none 0 none)]) h1 fun h4=>
aD 5 v0 h4 fun v6=>
Q (AV.tu [v6,(AV.i .i64 3)]) h4)
else
(dQ (some 78) (AV.ag [(AV.i .i64 0)]) h1 fun v8 h9=>
C Y56.id [v8,(AV.s x0),(AV.i .i64 1)] h9 fun v11 h12=>
aH 0 v11 fun v13=>
aH 1 v11 fun v14=>
asS v14 fun l15=>
aH 2 v11 fun v16=>
asI .i64 v16 fun n17=>
bS (some 33) [(AV.i .i64 0),(AV.i .i64 0),(AV.b false),(AV.s []),(AV.sl none 0 none)] h12 fun v18 h19=>
aP 5 v18 v13 h19 fun h20=>
(bif (decide ((n17:Int)=0)) then
(J 1 [(2,v0),(5,v18),(7,(AV.i .i64 n17)),(26,(AV.b (!(decide ((l15:List UInt8)=[])))))] h20)
else
(J 1 [(2,v0),(5,v18),(7,(AV.i .i64 n17)),(26,(AV.b false))] h20))))
theorem Y35.call {K x0 h} (H:Y35.t (aL h K) x0 h (Y35.J (aL h K))):C Y35.id [(AV.s x0)] h K:=
 gC Y35.J Tryz.func19 Y35.dist H
noncomputable def Y40.body:Code:=(Tryz.f20.body).getD .skip
def Y40.ann:Ann:=(sl [2,3,4] (.seq 1 [6,7] (.ord (nn 0 4 (.eff 4 (nn 5 13 .done) .stop))) lf))
theorem Y40.dist:aV (places Y40.ann Y40.body)=true:=by kernel_rfl
noncomputable def Y40.J (Q:AV→aA→Prop):JT:=bY prog C Tryz.f20 Y40.ann Y40.body Q
def Y40.p0 (Q:AV→aA→Prop) (x6:AV) (x7:Bool) (h:aA):Prop:=Y40.J Q 1 [(6,x6),(7,(AV.b x7))] h
def Y40.t0 (Q:AV→aA→Prop) (x6:AV) (x7:Bool) (h:aA) (J:JT):Prop:=
Q (AV.tu [x6,(AV.b x7)]) h
theorem Y40.i0 {Q x6 x7 h} (H:Y40.t0 Q x6 x7 h (Y40.J Q)):Y40.p0 Q x6 x7 h:=gR Y40.J Tryz.f20 Y40.dist [1,1] H
def Y40.t (Q:AV→aA→Prop) (x0 x1:AV) (x2:Int) (h:aA) (J:JT):Prop:=
dQ (some 46) x0 h fun v0 h1=>
dQ (some 33) x1 h1 fun v2 h3=>
aC 4 v2 fun v5=>
aE v5 h3 fun v6=>
aD 3 v0 h3 fun v7=>
aD 5 v2 h3 fun v8=>
C Y59.id [v7,v8] h3 fun v9 h10=>
asB v9 fun c11=>
aE v5 h10 fun v12=>
(v6=v12 ∧
((bif c11 then
((bif (decide ((x2:Int)<0)) then
(J 1 [(6,v6),(7,(AV.b true))] h10)
else
(aC 4 v2 fun v14=>
aE v14 h10 fun v15=>
bJ v15 fun n16=>
J 1 [(6,v6),(7,(AV.b (decide ((n16:Int)=x2))))] h10)))
else
(J 1 [(6,v6),(7,(AV.b false))] h10))))
theorem Y40.call {K x0 x1 x2 h} (H:Y40.t (aL h K) x0 x1 x2 h (Y40.J (aL h K))):C Y40.id [x0,x1,(AV.i .i64 x2)] h K:=
 gC Y40.J Tryz.func20 Y40.dist H
noncomputable def Y59.body:Code:=(Tryz.f21.body).getD .skip
def Y59.ann:Ann:=(sl [2,3] (sl [4] lf))
theorem Y59.dist:aV (places Y59.ann Y59.body)=true:=by kernel_rfl
noncomputable def Y59.J (Q:AV→aA→Prop):JT:=bY prog C Tryz.f21 Y59.ann Y59.body Q
def Y59.t (Q:AV→aA→Prop) (x0 x1:AV) (h:aA) (J:JT):Prop:=
dQ (some 46) x0 h fun v0 h1=>
dQ (some 33) x1 h1 fun v2 h3=>
aC 0 v2 fun v5=>
aE v5 h3 fun v6=>
asI .i64 v6 fun n7=>
aC 1 v2 fun v8=>
aE v8 h3 fun v9=>
asI .i64 v9 fun n10=>
aC 2 v2 fun v11=>
aE v11 h3 fun v12=>
asB v12 fun c13=>
aD 3 v0 h3 fun v14=>
gD prog .eql 46 (AV.ag [(AV.i .i64 n7),(AV.i .i64 n10),(AV.b c13)]) v14 fun v15=>
asB v15 fun c16=>
Q (AV.b c16) h3
theorem Y59.call {K x0 x1 h} (H:Y59.t (aL h K) x0 x1 h (Y59.J (aL h K))):C Y59.id [x0,x1] h K:=
 gC Y59.J Tryz.func21 Y59.dist H
noncomputable def Y12.body:Code:=(Tryz.f22.body).getD .skip
def Y12.ann:Ann:=(sq [0,1,4,5] (.ord (nn 0 4 (.eff 4 (nn 5 5 .done) .stop))) (sq [0,1,4] (sl [0,1,4,28] bl) (sl [0,1,5,6] (.seq 1 [0,1] (.ord (nn 0 11 (.eff 11 (nn 12 13 (.eff 25 (.neu 26 (.eff 27 .done .stop)) .stop)) .stop))) (sq [0,1] (sl [0,1,68,69] (.one (.loop 2 [0,1,68,69] (sl [0,1,68,69,70] (sq [0,1,68,69] bl (sq [0,1,68,69] (.one (sl [0,1,7,68,69] (sl [0,1,8,68,69] (.ord (nn 0 22 (.eff 22 .done .stop)))))) lf)))))) (sq [0,1] (.ord (nn 0 6 (nn 7 4 (.eff 6 (.eff 11 (nn 12 3 (.eff 15 (nn 16 3 (.eff 19 .done .stop)) .stop)) .stop) .stop)))) (sq [0,1,5,9] (.ord (nn 0 4 (.eff 4 (nn 5 5 .done) .stop))) (sq [0,1,9] (sl [0,1,9,130] bl) (sl [0,1,9,10,11] (sl [0,1,10,11,12,13] (sl [0,1,11,13] (sq [0,1,5,11,13,14] (.ord (nn 0 4 (.eff 4 (nn 5 5 .done) .stop))) (sq [0,1,14] (.seq 3 [0,1,14,193] (.ord (nn 0 13 (.eff 13 (nn 14 6 (.eff 20 (nn 21 6 (.eff 27 (.neu 28 (.eff 29 (.neu 30 .done) .stop)) .stop)) .stop)) .stop))) bl) (sl [0,1] (sl [0,1,205] (.br (sq [0,15,16] (.ord (nn 0 4 (.eff 4 (nn 5 5 .done) .stop))) (.seq 4 [0,15,223] (.ord (nn 0 7 (.eff 7 (.neu 8 (.eff 9 .done .stop)) .stop))) bl)) lf))))))))))))))))
theorem Y12.dist:aV (places Y12.ann Y12.body)=true:=by kernel_rfl
noncomputable def Y12.J (Q:AV→aA→Prop):JT:=bY prog C Tryz.f22 Y12.ann Y12.body Q
def Y12.p1 (Q:AV→aA→Prop) (x0 x1:AV) (x68 x69:Int) (h:aA):Prop:=Y12.J Q 2 [(0,x0),(1,x1),(68,(AV.i .i64 x68)),(69,(AV.i .i64 x69))] h
def Y12.p2 (Q:AV→aA→Prop) (x0 x1 x14:AV) (x193:Bool) (h:aA):Prop:=Y12.J Q 3 [(0,x0),(1,x1),(14,x14),(193,(AV.b x193))] h
def Y12.p3 (Q:AV→aA→Prop) (x0 x15:AV) (x223:Bool) (h:aA):Prop:=Y12.J Q 4 [(0,x0),(15,x15),(223,(AV.b x223))] h
def Y12.p0 (Q:AV→aA→Prop) (x0 x1:AV) (h:aA):Prop:=Y12.J Q 1 [(0,x0),(1,x1)] h
def Y12.t1 (Q:AV→aA→Prop) (x0 x1:AV) (x68 x69:Int) (h:aA) (J:JT):Prop:=
(bif (decide ((x69:Int)<x68)) then
(aB 5 x1 (AV.i .i64 1) h fun v95=>
aC 3 v95 fun v96=>
aE v96 h fun v97=>
asS v97 fun l98=>
bN (AV.s l98) (AV.i .i64 x69) fun n99=>
cC x0 fun v101=>
aC 0 v101 fun v102=>
aC 0 v102 fun v103=>
aE v103 h fun v104=>
asS v104 fun l105=>
rE .u8 n99 4 fun n106=>
rE .u8 n99 4 fun n107=>
aR (IntKind.wrap .u8 (n107+1)) fun n108=>
bV (AV.s [48,49,50,51,52,53,54,55,56,57,97,98,99,100,101,102]) (some (AV.i .u8 n106)) (some (AV.i .u8 n108)) fun l109=>
aR (IntKind.wrap .u8 ((cD .and .u8 n99 15)+1)) fun n110=>
bV (AV.s [48,49,50,51,52,53,54,55,56,57,97,98,99,100,101,102]) (some (AV.i .u8 (cD .and .u8 n99 15))) (some (AV.i .u8 n110)) fun l111=>
eI l109 l111 fun l112=>
eI l105 l112 fun l113=>
cC x0 fun v114=>
aC 0 v114 fun v115=>
aC 0 v115 fun v116=>
aP 1 v116 (AV.s l113) h fun h117=>
aR (IntKind.wrap .i64 (x69+1)) fun n119=>
J 2 [(0,x0),(1,x1),(68,(AV.i .i64 x68)),(69,(AV.i .i64 n119))] h117)
else
(aB 5 x1 (AV.i .i64 3) h fun v121=>
aD 5 v121 h fun v122=>
aB 5 x1 (AV.i .i64 5) h fun v123=>
aD 5 v123 h fun v124=>
C Y82.id [x0,v122] h fun v125 h126=>
asS v125 fun l127=>
aD 5 v123 h126 fun v128=>
(v124=v128 ∧
(aB 5 x1 (AV.i .i64 5) h126 fun v129=>
(v123=v129 ∧
(aB 5 x1 (AV.i .i64 3) h126 fun v130=>
(v121=v130 ∧
(C Y82.id [x0,v124] h126 fun v131 h132=>
asS v131 fun l133=>
aB 5 x1 (AV.i .i64 5) h132 fun v134=>
(v123=v134 ∧
(aD 5 v121 h132 fun v135=>
(v122=v135 ∧
(aB 5 x1 (AV.i .i64 3) h132 fun v136=>
(v121=v136 ∧
(cC x0 fun v137=>
aC 0 v137 fun v138=>
aC 1 v138 fun v139=>
aP 1 v139 (AV.s l127) h132 fun h140=>
aB 5 x1 (AV.i .i64 5) h140 fun v141=>
(v123=v141 ∧
(cC x0 fun v142=>
aC 0 v142 fun v143=>
aC 2 v143 fun v144=>
aP 1 v144 (AV.s l133) h140 fun h145=>
aD 3 (bE h145 0) h145 fun v147=>
aB 5 x1 (AV.i .i64 4) h145 fun v148=>
aD 5 v148 h145 fun v149=>
C Y40.id [v147,v149,(AV.i .i64 2)] h145 fun v150 h151=>
aB 5 x1 (AV.i .i64 4) h151 fun v152=>
(v148=v152 ∧
(aH 0 v150 fun v153=>
aH 1 v150 fun v154=>
asB v154 fun c155=>
C Y32.id [x0,(AV.b c155)] h151 fun v157 h158=>
asB v157 fun c159=>
(bif (!c159) then
(Q (AV.tu []) h158)
else
(aB 5 v153 (AV.i .i64 0) h158 fun v162=>
aD 5 v162 h158 fun v163=>
C Y6.id [v163] h158 fun v164 h165=>
aH 0 v164 fun v166=>
asI .i64 v166 fun n167=>
aH 1 v164 fun v168=>
asB v168 fun c169=>
aB 5 v153 (AV.i .i64 1) h165 fun v171=>
aD 5 v171 h165 fun v172=>
C Y6.id [v172] h165 fun v173 h174=>
aH 0 v173 fun v175=>
asI .i64 v175 fun n176=>
aH 1 v173 fun v177=>
asB v177 fun c178=>
cC x0 fun v180=>
aC 0 v180 fun v181=>
aC 3 v181 fun v182=>
aP 1 v182 (AV.i .i64 n167) h174 fun h183=>
cC x0 fun v184=>
aC 0 v184 fun v185=>
aC 4 v185 fun v186=>
aP 1 v186 (AV.i .i64 n176) h183 fun h187=>
aD 3 (bE h187 0) h187 fun v189=>
aB 5 x1 (AV.i .i64 6) h187 fun v190=>
aD 5 v190 h187 fun v191=>
C Y40.id [v189,v191,(AV.i .i64 2)] h187 fun v192 h193=>
aB 5 x1 (AV.i .i64 6) h193 fun v194=>
(v190=v194 ∧
(aH 0 v192 fun v195=>
aH 1 v192 fun v196=>
asB v196 fun c197=>
(bif c169 then
((bif c178 then
((bif c197 then
(aD 3 (bE h193 0) h193 fun v199=>
aB 5 v195 (AV.i .i64 0) h193 fun v200=>
aD 5 v200 h193 fun v201=>
C Y59.id [v199,v201] h193 fun v202 h203=>
asB v202 fun c204=>
aB 5 v195 (AV.i .i64 0) h203 fun v205=>
(v200=v205 ∧
((bif c204 then
(aD 3 (bE h203 1) h203 fun v206=>
aB 5 v195 (AV.i .i64 1) h203 fun v207=>
aD 5 v207 h203 fun v208=>
C Y59.id [v206,v208] h203 fun v209 h210=>
asB v209 fun c211=>
aB 5 v195 (AV.i .i64 1) h210 fun v212=>
(v207=v212 ∧
(aD 5 v200 h210 fun v213=>
(v201=v213 ∧
(aB 5 v195 (AV.i .i64 0) h210 fun v214=>
(v200=v214 ∧
(aD 3 (bE h210 0) h210 fun v215=>
(v199=v215 ∧
((bif c211 then
(aB 5 v195 (AV.i .i64 1) h210 fun v216=>
aC 3 v216 fun v217=>
aE v217 h210 fun v218=>
asS v218 fun l219=>
C Y93.id [(AV.s l219),(AV.s [0])] h210 fun v220 h221=>
asB v220 fun c222=>
aB 5 v195 (AV.i .i64 1) h221 fun v223=>
(v216=v223 ∧
(aD 5 v207 h221 fun v224=>
(v208=v224 ∧
(aB 5 v195 (AV.i .i64 1) h221 fun v225=>
(v207=v225 ∧
(aD 3 (bE h221 1) h221 fun v226=>
(v206=v226 ∧
(aD 5 v200 h221 fun v227=>
(v201=v227 ∧
(aB 5 v195 (AV.i .i64 0) h221 fun v228=>
(v200=v228 ∧
(aD 3 (bE h221 0) h221 fun v229=>
(v199=v229 ∧
(C Y32.id [x0,(AV.b c222)] h221 fun v230 h231=>
asB v230 fun c232=>
aE v217 h231 fun v233=>
asS v233 fun l234=>
((AV.s l219)=(AV.s l234) ∧
(aB 5 v195 (AV.i .i64 1) h231 fun v235=>
(v216=v235 ∧
(aD 5 v207 h231 fun v236=>
(v208=v236 ∧
(aB 5 v195 (AV.i .i64 1) h231 fun v237=>
(v207=v237 ∧
(aD 3 (bE h231 1) h231 fun v238=>
(v206=v238 ∧
(aD 5 v200 h231 fun v239=>
(v201=v239 ∧
(aB 5 v195 (AV.i .i64 0) h231 fun v240=>
(v200=v240 ∧
(aD 3 (bE h231 0) h231 fun v241=>
(v199=v241 ∧
(J 3 [(0,x0),(1,x1),(14,v195),(193,(AV.b (!c232)))] h231)))))))))))))))))))))))))))))))
else
(C Y32.id [x0,(AV.b false)] h210 fun v243 h244=>
asB v243 fun c245=>
((AV.tu [])=(AV.tu []) ∧
(((AV.tu [])=(AV.tu []) ∧
(aD 5 v207 h244 fun v246=>
(v208=v246 ∧
(aB 5 v195 (AV.i .i64 1) h244 fun v247=>
(v207=v247 ∧
(aD 3 (bE h244 1) h244 fun v248=>
(v206=v248 ∧
(aD 5 v200 h244 fun v249=>
(v201=v249 ∧
(aB 5 v195 (AV.i .i64 0) h244 fun v250=>
(v200=v250 ∧
(aD 3 (bE h244 0) h244 fun v251=>
(v199=v251 ∧
(J 3 [(0,x0),(1,x1),(14,v195),(193,(AV.b (!c245)))] h244)))))))))))))))))))))))))))
else
(C Y32.id [x0,(AV.b false)] h203 fun v253 h254=>
asB v253 fun c255=>
((AV.tu [])=(AV.tu []) ∧
(((AV.tu [])=(AV.tu []) ∧
(((AV.tu [])=(AV.tu []) ∧
(((AV.tu [])=(AV.tu []) ∧
(((AV.tu [])=(AV.tu []) ∧
(aD 5 v200 h254 fun v256=>
(v201=v256 ∧
(aB 5 v195 (AV.i .i64 0) h254 fun v257=>
(v200=v257 ∧
(aD 3 (bE h254 0) h254 fun v258=>
(v199=v258 ∧
(J 3 [(0,x0),(1,x1),(14,v195),(193,(AV.b (!c255)))] h254)))))))))))))))))))))
else
(C Y32.id [x0,(AV.b false)] h193 fun v260 h261=>
asB v260 fun c262=>
((AV.tu [])=(AV.tu []) ∧
(((AV.tu [])=(AV.tu []) ∧
(((AV.tu [])=(AV.tu []) ∧
(((AV.tu [])=(AV.tu []) ∧
(((AV.tu [])=(AV.tu []) ∧
(((AV.tu [])=(AV.tu []) ∧
(((AV.tu [])=(AV.tu []) ∧
(((AV.tu [])=(AV.tu []) ∧
(J 3 [(0,x0),(1,x1),(14,v195),(193,(AV.b (!c262)))] h261)))))))))))))))))))
else
(C Y32.id [x0,(AV.b false)] h193 fun v264 h265=>
asB v264 fun c266=>
((AV.tu [])=(AV.tu []) ∧
(((AV.tu [])=(AV.tu []) ∧
(((AV.tu [])=(AV.tu []) ∧
(((AV.tu [])=(AV.tu []) ∧
(((AV.tu [])=(AV.tu []) ∧
(((AV.tu [])=(AV.tu []) ∧
(((AV.tu [])=(AV.tu []) ∧
(((AV.tu [])=(AV.tu []) ∧
(J 3 [(0,x0),(1,x1),(14,v195),(193,(AV.b (!c266)))] h265)))))))))))))))))))
else
(C Y32.id [x0,(AV.b false)] h193 fun v268 h269=>
asB v268 fun c270=>
((AV.tu [])=(AV.tu []) ∧
(((AV.tu [])=(AV.tu []) ∧
(((AV.tu [])=(AV.tu []) ∧
(((AV.tu [])=(AV.tu []) ∧
(((AV.tu [])=(AV.tu []) ∧
(((AV.tu [])=(AV.tu []) ∧
(((AV.tu [])=(AV.tu []) ∧
(((AV.tu [])=(AV.tu []) ∧
(J 3 [(0,x0),(1,x1),(14,v195),(193,(AV.b (!c270)))] h269))))))))))))))))))))))))))))))))))))))))
theorem Y12.i1 {Q x0 x1 x68 x69 h} (H:Y12.t1 Q x0 x1 x68 x69 h (Y12.J Q)):Y12.p1 Q x0 x1 x68 x69 h:=gH Y12.J Tryz.f22 Y12.dist [1,1,1,1,0,1,0] H
def Y12.t2 (Q:AV→aA→Prop) (x0 x1 x14:AV) (x193:Bool) (h:aA) (J:JT):Prop:=
(bif x193 then
(Q (AV.tu []) h)
else
(aB 5 x14 (AV.i .i64 1) h fun v273=>
aC 3 v273 fun v274=>
aE v274 h fun v275=>
asS v275 fun l276=>
bV (AV.s l276) (some (AV.i .i64 1)) none fun l277=>
cC x0 fun v278=>
aC 0 v278 fun v279=>
aC 7 v279 fun v280=>
aP 1 v280 (AV.s l277) h fun h281=>
bJ x1 fun n283=>
(bif (decide ((n283:Int)=8)) then
(aD 3 (bE h281 6) h281 fun v285=>
aB 5 x1 (AV.i .i64 7) h281 fun v286=>
aD 5 v286 h281 fun v287=>
C Y40.id [v285,v287,(AV.i .i64 1)] h281 fun v288 h289=>
aB 5 x1 (AV.i .i64 7) h289 fun v290=>
(v286=v290 ∧
(aH 0 v288 fun v291=>
aH 1 v288 fun v292=>
asB v292 fun c293=>
(bif c293 then
(aD 3 (bE h289 0) h289 fun v295=>
aB 5 v291 (AV.i .i64 0) h289 fun v296=>
aD 5 v296 h289 fun v297=>
C Y59.id [v295,v297] h289 fun v298 h299=>
asB v298 fun c300=>
aB 5 v291 (AV.i .i64 0) h299 fun v301=>
(v296=v301 ∧
(C Y32.id [x0,(AV.b c300)] h299 fun v302 h303=>
asB v302 fun c304=>
aD 5 v296 h303 fun v305=>
(v297=v305 ∧
(aB 5 v291 (AV.i .i64 0) h303 fun v306=>
(v296=v306 ∧
(aD 3 (bE h303 0) h303 fun v307=>
(v295=v307 ∧
(J 4 [(0,x0),(15,v291),(223,(AV.b c304))] h303)))))))))
else
(C Y32.id [x0,(AV.b false)] h289 fun v309 h310=>
asB v309 fun c311=>
((AV.tu [])=(AV.tu []) ∧
(((AV.tu [])=(AV.tu []) ∧
(((AV.tu [])=(AV.tu []) ∧
(J 4 [(0,x0),(15,v291),(223,(AV.b c311))] h310)))))))))))
else
(Q (AV.tu []) h281))))
theorem Y12.i2 {Q x0 x1 x14 x193 h} (H:Y12.t2 Q x0 x1 x14 x193 h (Y12.J Q)):Y12.p2 Q x0 x1 x14 x193 h:=gR Y12.J Tryz.f22 Y12.dist [1,1,1,1,1,1,1,1,1,1,1,1,0,1] H
def Y12.t3 (Q:AV→aA→Prop) (x0 x15:AV) (x223:Bool) (h:aA) (J:JT):Prop:=
(bif x223 then
(aB 5 x15 (AV.i .i64 0) h fun v313=>
aC 4 v313 fun v314=>
aE v314 h fun v315=>
C Y0.id [x0,v315] h fun v316 h317=>
Q (AV.tu []) h317)
else
(Q (AV.tu []) h))
theorem Y12.i3 {Q x0 x15 x223 h} (H:Y12.t3 Q x0 x15 x223 h (Y12.J Q)):Y12.p3 Q x0 x15 x223 h:=gR Y12.J Tryz.f22 Y12.dist [1,1,1,1,1,1,1,1,1,1,1,1,1,1,1,0,1,1] H
def Y12.t0 (Q:AV→aA→Prop) (x0 x1:AV) (h:aA) (J:JT):Prop:=
aB 5 x1 (AV.i .i64 1) h fun v86=>
aC 3 v86 fun v87=>
aE v87 h fun v88=>
asS v88 fun l89=>
J 2 [(0,x0),(1,x1),(68,(AV.i .i64 (l89.length:Int))),(69,(AV.i .i64 0))] h
theorem Y12.i0 {Q x0 x1 h} (H:Y12.t0 Q x0 x1 h (Y12.J Q)):Y12.p0 Q x0 x1 h:=gR Y12.J Tryz.f22 Y12.dist [1,1,1,1] H
def Y12.t (Q:AV→aA→Prop) (x0 x1:AV) (h:aA) (J:JT):Prop:=
aD 3 (bE h 2) h fun v0=>
aB 5 x1 (AV.i .i64 0) h fun v1=>
aD 5 v1 h fun v2=>
C Y40.id [v0,v2,(AV.i .i64 1)] h fun v3 h4=>
aB 5 x1 (AV.i .i64 0) h4 fun v5=>
(v1=v5 ∧
(aH 0 v3 fun v6=>
aH 1 v3 fun v7=>
asB v7 fun c8=>
C Y32.id [x0,(AV.b c8)] h4 fun v10 h11=>
asB v10 fun c12=>
(bif (!c12) then
(Q (AV.tu []) h11)
else
(aB 5 v6 (AV.i .i64 0) h11 fun v15=>
aD 5 v15 h11 fun v16=>
C Y20.id [v16] h11 fun v17 h18=>
aH 0 v17 fun v19=>
asI .i64 v19 fun n20=>
aH 1 v17 fun v21=>
asB v21 fun c22=>
(bif c22 then
((bif (decide ((n20:Int)=2)) then
(aD 3 (bE h18 3) h18 fun v24=>
aB 5 x1 (AV.i .i64 1) h18 fun v25=>
aD 5 v25 h18 fun v26=>
C Y59.id [v24,v26] h18 fun v27 h28=>
asB v27 fun c29=>
aB 5 x1 (AV.i .i64 1) h28 fun v30=>
(v25=v30 ∧
((bif c29 then
(aB 5 x1 (AV.i .i64 1) h28 fun v31=>
aC 3 v31 fun v32=>
aE v32 h28 fun v33=>
asS v33 fun l34=>
(bif (!(decide ((l34:List UInt8)=[]))) then
(aD 3 (bE h28 0) h28 fun v35=>
aB 5 x1 (AV.i .i64 2) h28 fun v36=>
aD 5 v36 h28 fun v37=>
C Y59.id [v35,v37] h28 fun v38 h39=>
asB v38 fun c40=>
aB 5 x1 (AV.i .i64 2) h39 fun v41=>
(v36=v41 ∧
(aE v32 h39 fun v42=>
asS v42 fun l43=>
((AV.s l34)=(AV.s l43) ∧
(aB 5 x1 (AV.i .i64 1) h39 fun v44=>
(v31=v44 ∧
(aD 5 v25 h39 fun v45=>
(v26=v45 ∧
(aB 5 x1 (AV.i .i64 1) h39 fun v46=>
(v25=v46 ∧
(aD 3 (bE h39 3) h39 fun v47=>
(v24=v47 ∧
(C Y32.id [x0,(AV.b c40)] h39 fun v48 h49=>
asB v48 fun c50=>
aD 5 v36 h49 fun v51=>
(v37=v51 ∧
(aB 5 x1 (AV.i .i64 2) h49 fun v52=>
(v36=v52 ∧
(aD 3 (bE h49 0) h49 fun v53=>
(v35=v53 ∧
(aE v32 h49 fun v54=>
asS v54 fun l55=>
((AV.s l34)=(AV.s l55) ∧
(aB 5 x1 (AV.i .i64 1) h49 fun v56=>
(v31=v56 ∧
(aD 5 v25 h49 fun v57=>
(v26=v57 ∧
(aB 5 x1 (AV.i .i64 1) h49 fun v58=>
(v25=v58 ∧
(aD 3 (bE h49 3) h49 fun v59=>
(v24=v59 ∧
(J 1 [(0,x0),(1,x1)] h49)))))))))))))))))))))))))))))
else
(C Y32.id [x0,(AV.b false)] h28 fun v61 h62=>
asB v61 fun c63=>
((AV.tu [])=(AV.tu []) ∧
(((AV.tu [])=(AV.tu []) ∧
(((AV.tu [])=(AV.tu []) ∧
(aE v32 h62 fun v64=>
asS v64 fun l65=>
((AV.s l34)=(AV.s l65) ∧
(aB 5 x1 (AV.i .i64 1) h62 fun v66=>
(v31=v66 ∧
(aD 5 v25 h62 fun v67=>
(v26=v67 ∧
(aB 5 x1 (AV.i .i64 1) h62 fun v68=>
(v25=v68 ∧
(aD 3 (bE h62 3) h62 fun v69=>
(v24=v69 ∧
(J 1 [(0,x0),(1,x1)] h62)))))))))))))))))))
else
(C Y32.id [x0,(AV.b false)] h28 fun v71 h72=>
asB v71 fun c73=>
((AV.tu [])=(AV.tu []) ∧
(((AV.tu [])=(AV.tu []) ∧
(((AV.tu [])=(AV.tu []) ∧
(((AV.tu [])=(AV.tu []) ∧
(((AV.tu [])=(AV.tu []) ∧
(aD 5 v25 h72 fun v74=>
(v26=v74 ∧
(aB 5 x1 (AV.i .i64 1) h72 fun v75=>
(v25=v75 ∧
(aD 3 (bE h72 3) h72 fun v76=>
(v24=v76 ∧
(J 1 [(0,x0),(1,x1)] h72)))))))))))))))))))))
else
(C Y32.id [x0,(AV.b false)] h18 fun v78 h79=>
asB v78 fun c80=>
((AV.tu [])=(AV.tu []) ∧
(((AV.tu [])=(AV.tu []) ∧
(((AV.tu [])=(AV.tu []) ∧
(((AV.tu [])=(AV.tu []) ∧
(((AV.tu [])=(AV.tu []) ∧
(((AV.tu [])=(AV.tu []) ∧
(((AV.tu [])=(AV.tu []) ∧
(((AV.tu [])=(AV.tu []) ∧
(J 1 [(0,x0),(1,x1)] h79)))))))))))))))))))
else
(C Y32.id [x0,(AV.b false)] h18 fun v82 h83=>
asB v82 fun c84=>
((AV.tu [])=(AV.tu []) ∧
(((AV.tu [])=(AV.tu []) ∧
(((AV.tu [])=(AV.tu []) ∧
(((AV.tu [])=(AV.tu []) ∧
(((AV.tu [])=(AV.tu []) ∧
(((AV.tu [])=(AV.tu []) ∧
(((AV.tu [])=(AV.tu []) ∧
(((AV.tu [])=(AV.tu []) ∧
(J 1 [(0,x0),(1,x1)] h83))))))))))))))))))))))
theorem Y12.call {K x0 x1 h} (H:Y12.t (aL h K) x0 x1 h (Y12.J (aL h K))):C Y12.id [x0,x1] h K:=
 gC Y12.J Tryz.func22 Y12.dist H
noncomputable def Y75.body:Code:=(Tryz.f23.body).getD .skip
def Y75.ann:Ann:=(sl [0,2] (sq [0,2] (sl [0,2,9] (.br (sl [2,3] lf) lf)) (sl [0,2,4] (sl [0,2,4,5,6] (sq [0,2,4,5] (sl [0,2,4,5,6,22] (.br (sl [2,3] lf) lf)) (sq [2,5] (sl [2,5,31] (.br (sl [2,3] lf) lf)) (sl [2,3] lf)))))))
theorem Y75.dist:aV (places Y75.ann Y75.body)=true:=by kernel_rfl
noncomputable def Y75.J (Q:AV→aA→Prop):JT:=bY prog C Tryz.f23 Y75.ann Y75.body Q
def Y75.t (Q:AV→aA→Prop) (x0:List UInt8) (h:aA) (J:JT):Prop:=
bS (some 33) [(AV.i .i64 0),(AV.i .i64 0),(AV.b false),(AV.s []),(AV.sl none 0 none)] h fun v0 h1=>
(bif (decide ((65535:Int)<(x0.length:Int))) then
(aP 5 v0 (AV.ag [(AV.i .i64 0),(AV.i .i64 0),(AV.b false),(AV.s []),(AV.sl none 0 none)]) h1 fun h4=>
aD 5 v0 h4 fun v6=>
Q (AV.tu [v6,(AV.i .i64 3)]) h4)
else
(dQ (some 88) (AV.ag [(AV.s x0),(AV.i .i64 0),(AV.i .i64 0)]) h1 fun v8 h9=>
C Y57.id [v8,(AV.i .i64 (x0.length:Int)),(AV.i .i64 1)] h9 fun v11 h12=>
aH 0 v11 fun v13=>
aH 1 v11 fun v14=>
asI .i64 v14 fun n15=>
bS (some 33) [(AV.i .i64 0),(AV.i .i64 0),(AV.b false),(AV.s []),(AV.sl none 0 none)] h12 fun v16 h17=>
aP 5 v16 v13 h17 fun h18=>
(bif (!decide ((n15:Int)=0)) then
(aP 5 v0 (AV.ag [(AV.i .i64 0),(AV.i .i64 0),(AV.b false),(AV.s []),(AV.sl none 0 none)]) h18 fun h21=>
aD 5 v0 h21 fun v23=>
Q (AV.tu [v23,(AV.i .i64 n15)]) h21)
else
(cC v8 fun v25=>
aC 1 v25 fun v26=>
aE v26 h18 fun v27=>
asI .i64 v27 fun n28=>
(bif (decide ((n28:Int)<(x0.length:Int))) then
(aP 5 v0 (AV.ag [(AV.i .i64 0),(AV.i .i64 0),(AV.b false),(AV.s []),(AV.sl none 0 none)]) h18 fun h30=>
aD 5 v0 h30 fun v32=>
Q (AV.tu [v32,(AV.i .i64 2)]) h30)
else
(aD 5 v16 h18 fun v34=>
aP 5 v0 v34 h18 fun h35=>
aD 5 v0 h35 fun v37=>
Q (AV.tu [v37,(AV.i .i64 0)]) h35))))))
theorem Y75.call {K x0 h} (H:Y75.t (aL h K) x0 h (Y75.J (aL h K))):C Y75.id [(AV.s x0)] h K:=
 gC Y75.J Tryz.func23 Y75.dist H
noncomputable def Y33.body:Code:=(Tryz.f24.body).getD .skip
def Y33.ann:Ann:=(sl [1,2,3,4] (.seq 1 [8] lf lf))
theorem Y33.dist:aV (places Y33.ann Y33.body)=true:=by kernel_rfl
noncomputable def Y33.J (Q:AV→aA→Prop):JT:=bY prog C Tryz.f24 Y33.ann Y33.body Q
def Y33.p0 (Q:AV→aA→Prop) (x8:Bool) (h:aA):Prop:=Y33.J Q 1 [(8,(AV.b x8))] h
def Y33.t0 (Q:AV→aA→Prop) (x8:Bool) (h:aA) (J:JT):Prop:=
Q (AV.b x8) h
theorem Y33.i0 {Q x8 h} (H:Y33.t0 Q x8 h (Y33.J Q)):Y33.p0 Q x8 h:=gR Y33.J Tryz.f24 Y33.dist [1,1] H
def Y33.t (Q:AV→aA→Prop) (x0:AV) (x1 x2:Int) (x3:Bool) (h:aA) (J:JT):Prop:=
dQ (some 33) x0 h fun v0 h1=>
aC 0 v0 fun v3=>
aE v3 h1 fun v4=>
asI .i64 v4 fun n5=>
(bif (decide ((n5:Int)=x1)) then
(aC 1 v0 fun v6=>
aE v6 h1 fun v7=>
asI .i64 v7 fun n8=>
(bif (decide ((n8:Int)=x2)) then
(aC 2 v0 fun v9=>
aE v9 h1 fun v10=>
asB v10 fun c11=>
J 1 [(8,(AV.b (c11 == x3)))] h1)
else
(J 1 [(8,(AV.b false))] h1)))
else
(J 1 [(8,(AV.b false))] h1))
theorem Y33.call {K x0 x1 x2 x3 h} (H:Y33.t (aL h K) x0 x1 x2 x3 h (Y33.J (aL h K))):C Y33.id [x0,(AV.i .i64 x1),(AV.i .i64 x2),(AV.b x3)] h K:=
 gC Y33.J Tryz.func24 Y33.dist H
noncomputable def Y79.body:Code:=(Tryz.f25.body).getD .skip
def Y79.ann:Ann:=(sl [1] (sl [2] lf))
theorem Y79.dist:aV (places Y79.ann Y79.body)=true:=by kernel_rfl
noncomputable def Y79.J (Q:AV→aA→Prop):JT:=bY prog C Tryz.f25 Y79.ann Y79.body Q
def Y79.t (Q:AV→aA→Prop) (x0:AV) (h:aA) (J:JT):Prop:=
dQ (some 33) x0 h fun v0 h1=>
aD 5 v0 h1 fun v3=>
C Y33.id [v3,(AV.i .i64 0),(AV.i .i64 3),(AV.b false)] h1 fun v4 h5=>
asB v4 fun c6=>
Q (AV.b c6) h5
theorem Y79.call {K x0 h} (H:Y79.t (aL h K) x0 h (Y79.J (aL h K))):C Y79.id [x0] h K:=
 gC Y79.J Tryz.func25 Y79.dist H
noncomputable def Y2.body:Code:=(Tryz.f26.body).getD .skip
def Y2.ann:Ann:=(sl [1,2] (sl [1,2,4] (sl [1,2,4,5] (sl [1,2,4,5,6] (sq [2,4,5,6] (.seq 1 [2,4,5,6,28] lf (.br (sl [2,3] lf) lf)) (sq [2,4,5,6] (.seq 2 [2,4,5,6,62] lf (.br (sl [2,3] lf) lf)) (sq [2,4,5,6] (.seq 3 [2,4,5,6,97] lf (.br (sl [2,3] lf) lf)) (sl [2,4,5,6] (sl [2,4,5,6] (sl [2,4,5,6,7] (sl [2,4,5,6,7,8] (sl [2,4,5,6,7,8,9,10] (sl [2,4,5,6,7,8,9,10,11,12] (sq [2,4,5,6,9,11] (.seq 4 [2,4,5,6,9,11,154] lf (.br (sl [2,3] lf) lf)) (sl [2,4,5,6,11] (sl [2,4,5,6] (sq [2,4,5,6] (.seq 5 [2,4,5,6,192] lf (.br (sl [2,3] lf) lf)) (sl [2,4,5,6,13] (sq [2,4,5,6,13] (.seq 6 [2,4,5,6,13,207] lf (.br (sl [2,3] lf) lf)) (sl [2,4,5,6] (sq [2,4,5] (sl [2,4,5,213] (.br (sl [2,3] lf) lf)) (sq [2,4,5] (.seq 7 [2,4,5,237] lf (.br (sl [2,3] lf) lf)) (sq [2,3] (.ord (nn 0 8 (.eff 8 (nn 9 2 (.eff 11 (.neu 12 .done) .stop)) .stop))) lf)))))))))))))))))))))))
theorem Y2.dist:aV (places Y2.ann Y2.body)=true:=by kernel_rfl
noncomputable def Y2.J (Q:AV→aA→Prop):JT:=bY prog C Tryz.f26 Y2.ann Y2.body Q
def Y2.p0 (Q:AV→aA→Prop) (x2 x4 x5:AV) (x6:Int) (x28:Bool) (h:aA):Prop:=Y2.J Q 1 [(2,x2),(4,x4),(5,x5),(6,(AV.i .i64 x6)),(28,(AV.b x28))] h
def Y2.p1 (Q:AV→aA→Prop) (x2 x4 x5:AV) (x6:Int) (x62:Bool) (h:aA):Prop:=Y2.J Q 2 [(2,x2),(4,x4),(5,x5),(6,(AV.i .i64 x6)),(62,(AV.b x62))] h
def Y2.p2 (Q:AV→aA→Prop) (x2 x4 x5:AV) (x6:Int) (x97:Bool) (h:aA):Prop:=Y2.J Q 3 [(2,x2),(4,x4),(5,x5),(6,(AV.i .i64 x6)),(97,(AV.b x97))] h
def Y2.p3 (Q:AV→aA→Prop) (x2 x4 x5:AV) (x6 x9 x11:Int) (x154:Bool) (h:aA):Prop:=Y2.J Q 4 [(2,x2),(4,x4),(5,x5),(6,(AV.i .i64 x6)),(9,(AV.i .i64 x9)),(11,(AV.i .i64 x11)),(154,(AV.b x154))] h
def Y2.p4 (Q:AV→aA→Prop) (x2 x4 x5:AV) (x6:Int) (x192:Bool) (h:aA):Prop:=Y2.J Q 5 [(2,x2),(4,x4),(5,x5),(6,(AV.i .i64 x6)),(192,(AV.b x192))] h
def Y2.p5 (Q:AV→aA→Prop) (x2 x4 x5:AV) (x6:Int) (x13:List UInt8) (x207:Bool) (h:aA):Prop:=Y2.J Q 6 [(2,x2),(4,x4),(5,x5),(6,(AV.i .i64 x6)),(13,(AV.s x13)),(207,(AV.b x207))] h
def Y2.p6 (Q:AV→aA→Prop) (x2 x4 x5:AV) (x237:Bool) (h:aA):Prop:=Y2.J Q 7 [(2,x2),(4,x4),(5,x5),(237,(AV.b x237))] h
def Y2.t0 (Q:AV→aA→Prop) (x2 x4 x5:AV) (x6:Int) (x28:Bool) (h:aA) (J:JT):Prop:=
(bif x28 then
(aD 8 x4 h fun v20=>
aP 8 x2 v20 h fun h21=>
aD 8 x2 h21 fun v23=>
Q (AV.tu [v23,(AV.b false)]) h21)
else
(aB 5 x5 (AV.i .i64 0) h fun v25=>
aD 5 v25 h fun v26=>
C Y33.id [v26,(AV.i .i64 2),(AV.i .i64 0),(AV.b true)] h fun v27 h28=>
asB v27 fun c29=>
(bif (!c29) then
(J 2 [(2,x2),(4,x4),(5,x5),(6,(AV.i .i64 x6)),(62,(AV.b true))] h28)
else
(aB 5 x5 (AV.i .i64 0) h28 fun v31=>
aC 4 v31 fun v32=>
aE v32 h28 fun v33=>
bJ v33 fun n34=>
(bif (!decide ((n34:Int)=1)) then
(J 2 [(2,x2),(4,x4),(5,x5),(6,(AV.i .i64 x6)),(62,(AV.b true))] h28)
else
(aB 5 x5 (AV.i .i64 0) h28 fun v36=>
aC 4 v36 fun v37=>
aE v37 h28 fun v38=>
aB 5 v38 (AV.i .i64 0) h28 fun v39=>
aD 5 v39 h28 fun v40=>
C Y33.id [v40,(AV.i .i64 0),(AV.i .i64 2),(AV.b false)] h28 fun v41 h42=>
asB v41 fun c43=>
(bif (!c43) then
(J 2 [(2,x2),(4,x4),(5,x5),(6,(AV.i .i64 x6)),(62,(AV.b true))] h42)
else
(aB 5 x5 (AV.i .i64 0) h42 fun v45=>
aC 4 v45 fun v46=>
aE v46 h42 fun v47=>
aB 5 v47 (AV.i .i64 0) h42 fun v48=>
aC 3 v48 fun v49=>
aE v49 h42 fun v50=>
asS v50 fun l51=>
J 2 [(2,x2),(4,x4),(5,x5),(6,(AV.i .i64 x6)),(62,(AV.b (!(decide ((l51:List UInt8)=[2])))))] h42))))))))
theorem Y2.i0 {Q x2 x4 x5 x6 x28 h} (H:Y2.t0 Q x2 x4 x5 x6 x28 h (Y2.J Q)):Y2.p0 Q x2 x4 x5 x6 x28 h:=gR Y2.J Tryz.f26 Y2.dist [1,1,1,1,0,1] H
def Y2.t1 (Q:AV→aA→Prop) (x2 x4 x5:AV) (x6:Int) (x62:Bool) (h:aA) (J:JT):Prop:=
(bif x62 then
(aD 8 x4 h fun v53=>
aP 8 x2 v53 h fun h54=>
aD 8 x2 h54 fun v56=>
Q (AV.tu [v56,(AV.b false)]) h54)
else
(aB 5 x5 (AV.i .i64 1) h fun v58=>
aD 5 v58 h fun v59=>
C Y33.id [v59,(AV.i .i64 0),(AV.i .i64 2),(AV.b false)] h fun v60 h61=>
asB v60 fun c62=>
(bif (!c62) then
(J 3 [(2,x2),(4,x4),(5,x5),(6,(AV.i .i64 x6)),(97,(AV.b true))] h61)
else
(aB 5 x5 (AV.i .i64 1) h61 fun v64=>
aC 3 v64 fun v65=>
aE v65 h61 fun v66=>
asS v66 fun l67=>
(bif (decide ((l67:List UInt8)=[])) then
(J 3 [(2,x2),(4,x4),(5,x5),(6,(AV.i .i64 x6)),(97,(AV.b true))] h61)
else
(aB 5 x5 (AV.i .i64 2) h61 fun v69=>
aD 5 v69 h61 fun v70=>
C Y33.id [v70,(AV.i .i64 0),(AV.i .i64 16),(AV.b true)] h61 fun v71 h72=>
asB v71 fun c73=>
(bif (!c73) then
(J 3 [(2,x2),(4,x4),(5,x5),(6,(AV.i .i64 x6)),(97,(AV.b true))] h72)
else
(aB 5 x5 (AV.i .i64 4) h72 fun v75=>
aD 5 v75 h72 fun v76=>
C Y33.id [v76,(AV.i .i64 0),(AV.i .i64 16),(AV.b true)] h72 fun v77 h78=>
asB v77 fun c79=>
(bif (!c79) then
(J 3 [(2,x2),(4,x4),(5,x5),(6,(AV.i .i64 x6)),(97,(AV.b true))] h78)
else
(aB 5 x5 (AV.i .i64 4) h78 fun v81=>
aC 4 v81 fun v82=>
aE v82 h78 fun v83=>
bJ v83 fun n84=>
J 3 [(2,x2),(4,x4),(5,x5),(6,(AV.i .i64 x6)),(97,(AV.b (!decide ((n84:Int)=2))))] h78))))))))))
theorem Y2.i1 {Q x2 x4 x5 x6 x62 h} (H:Y2.t1 Q x2 x4 x5 x6 x62 h (Y2.J Q)):Y2.p1 Q x2 x4 x5 x6 x62 h:=gR Y2.J Tryz.f26 Y2.dist [1,1,1,1,1,0,1] H
def Y2.t2 (Q:AV→aA→Prop) (x2 x4 x5:AV) (x6:Int) (x97:Bool) (h:aA) (J:JT):Prop:=
(bif x97 then
(aD 8 x4 h fun v86=>
aP 8 x2 v86 h fun h87=>
aD 8 x2 h87 fun v89=>
Q (AV.tu [v89,(AV.b false)]) h87)
else
(aB 5 x5 (AV.i .i64 1) h fun v91=>
aC 3 v91 fun v92=>
aE v92 h fun v93=>
asS v93 fun l94=>
C Y48.id [(AV.s l94)] h fun v95 h96=>
asS v95 fun l97=>
aC 0 x4 fun v98=>
aP 1 v98 (AV.s l97) h96 fun h99=>
aB 5 x5 (AV.i .i64 3) h99 fun v102=>
aD 5 v102 h99 fun v103=>
C Y3.id [v103] h99 fun v104 h105=>
aH 0 v104 fun v106=>
asS v106 fun l107=>
aH 1 v104 fun v108=>
asI .i64 v108 fun n109=>
aC 1 x4 fun v110=>
aP 1 v110 (AV.s l107) h105 fun h111=>
aB 5 x5 (AV.i .i64 5) h111 fun v113=>
aD 5 v113 h111 fun v114=>
C Y3.id [v114] h111 fun v115 h116=>
aH 0 v115 fun v117=>
asS v117 fun l118=>
aH 1 v115 fun v119=>
asI .i64 v119 fun n120=>
aC 2 x4 fun v121=>
aP 1 v121 (AV.s l118) h116 fun h122=>
aB 5 x5 (AV.i .i64 4) h122 fun v124=>
aC 4 v124 fun v125=>
aE v125 h122 fun v126=>
aB 5 v126 (AV.i .i64 0) h122 fun v127=>
aD 5 v127 h122 fun v128=>
C Y4.id [v128] h122 fun v129 h130=>
aH 0 v129 fun v131=>
asI .i64 v131 fun n132=>
aH 1 v129 fun v133=>
asB v133 fun c134=>
aB 5 x5 (AV.i .i64 4) h130 fun v136=>
aC 4 v136 fun v137=>
aE v137 h130 fun v138=>
aB 5 v138 (AV.i .i64 1) h130 fun v139=>
aD 5 v139 h130 fun v140=>
C Y4.id [v140] h130 fun v141 h142=>
aH 0 v141 fun v143=>
asI .i64 v143 fun n144=>
aH 1 v141 fun v145=>
asB v145 fun c146=>
(bif (!decide ((n109:Int)=0)) then
(J 4 [(2,x2),(4,x4),(5,x5),(6,(AV.i .i64 x6)),(9,(AV.i .i64 n132)),(11,(AV.i .i64 n144)),(154,(AV.b true))] h142)
else
((bif (!decide ((n120:Int)=0)) then
(J 4 [(2,x2),(4,x4),(5,x5),(6,(AV.i .i64 x6)),(9,(AV.i .i64 n132)),(11,(AV.i .i64 n144)),(154,(AV.b true))] h142)
else
((bif (!c134) then
(J 4 [(2,x2),(4,x4),(5,x5),(6,(AV.i .i64 x6)),(9,(AV.i .i64 n132)),(11,(AV.i .i64 n144)),(154,(AV.b true))] h142)
else
(J 4 [(2,x2),(4,x4),(5,x5),(6,(AV.i .i64 x6)),(9,(AV.i .i64 n132)),(11,(AV.i .i64 n144)),(154,(AV.b (!c146)))] h142))))))))
theorem Y2.i2 {Q x2 x4 x5 x6 x97 h} (H:Y2.t2 Q x2 x4 x5 x6 x97 h (Y2.J Q)):Y2.p2 Q x2 x4 x5 x6 x97 h:=gR Y2.J Tryz.f26 Y2.dist [1,1,1,1,1,1,0,1] H
def Y2.t3 (Q:AV→aA→Prop) (x2 x4 x5:AV) (x6 x9 x11:Int) (x154:Bool) (h:aA) (J:JT):Prop:=
(bif x154 then
(aD 8 x4 h fun v152=>
aP 8 x2 v152 h fun h153=>
aD 8 x2 h153 fun v155=>
Q (AV.tu [v155,(AV.b false)]) h153)
else
(aC 3 x4 fun v157=>
aP 1 v157 (AV.i .i64 x9) h fun h158=>
aC 4 x4 fun v160=>
aP 1 v160 (AV.i .i64 x11) h158 fun h161=>
aB 5 x5 (AV.i .i64 6) h161 fun v163=>
aD 5 v163 h161 fun v164=>
C Y33.id [v164,(AV.i .i64 0),(AV.i .i64 16),(AV.b true)] h161 fun v165 h166=>
asB v165 fun c167=>
(bif (!c167) then
(J 5 [(2,x2),(4,x4),(5,x5),(6,(AV.i .i64 x6)),(192,(AV.b true))] h166)
else
(aB 5 x5 (AV.i .i64 6) h166 fun v169=>
aC 4 v169 fun v170=>
aE v170 h166 fun v171=>
bJ v171 fun n172=>
(bif (!decide ((n172:Int)=2)) then
(J 5 [(2,x2),(4,x4),(5,x5),(6,(AV.i .i64 x6)),(192,(AV.b true))] h166)
else
(aB 5 x5 (AV.i .i64 6) h166 fun v174=>
aC 4 v174 fun v175=>
aE v175 h166 fun v176=>
aB 5 v176 (AV.i .i64 0) h166 fun v177=>
aD 5 v177 h166 fun v178=>
C Y33.id [v178,(AV.i .i64 0),(AV.i .i64 16),(AV.b true)] h166 fun v179 h180=>
asB v179 fun c181=>
(bif (!c181) then
(J 5 [(2,x2),(4,x4),(5,x5),(6,(AV.i .i64 x6)),(192,(AV.b true))] h180)
else
(aB 5 x5 (AV.i .i64 6) h180 fun v183=>
aC 4 v183 fun v184=>
aE v184 h180 fun v185=>
aB 5 v185 (AV.i .i64 1) h180 fun v186=>
aD 5 v186 h180 fun v187=>
C Y79.id [v187] h180 fun v188 h189=>
asB v188 fun c190=>
J 5 [(2,x2),(4,x4),(5,x5),(6,(AV.i .i64 x6)),(192,(AV.b (!c190)))] h189))))))))
theorem Y2.i3 {Q x2 x4 x5 x6 x9 x11 x154 h} (H:Y2.t3 Q x2 x4 x5 x6 x9 x11 x154 h (Y2.J Q)):Y2.p3 Q x2 x4 x5 x6 x9 x11 x154 h:=gR Y2.J Tryz.f26 Y2.dist [1,1,1,1,1,1,1,1,1,1,1,1,1,0,1] H
def Y2.t4 (Q:AV→aA→Prop) (x2 x4 x5:AV) (x6:Int) (x192:Bool) (h:aA) (J:JT):Prop:=
(bif x192 then
(aD 8 x4 h fun v192=>
aP 8 x2 v192 h fun h193=>
aD 8 x2 h193 fun v195=>
Q (AV.tu [v195,(AV.b false)]) h193)
else
(aB 5 x5 (AV.i .i64 6) h fun v197=>
aC 4 v197 fun v198=>
aE v198 h fun v199=>
aB 5 v199 (AV.i .i64 1) h fun v200=>
aC 3 v200 fun v201=>
aE v201 h fun v202=>
asS v202 fun l203=>
(bif (decide ((l203:List UInt8)=[])) then
(J 6 [(2,x2),(4,x4),(5,x5),(6,(AV.i .i64 x6)),(13,(AV.s l203)),(207,(AV.b true))] h)
else
(bN (AV.s l203) (AV.i .i64 0) fun n206=>
J 6 [(2,x2),(4,x4),(5,x5),(6,(AV.i .i64 x6)),(13,(AV.s l203)),(207,(AV.b (!decide ((n206:Int)=0))))] h))))
theorem Y2.i4 {Q x2 x4 x5 x6 x192 h} (H:Y2.t4 Q x2 x4 x5 x6 x192 h (Y2.J Q)):Y2.p4 Q x2 x4 x5 x6 x192 h:=gR Y2.J Tryz.f26 Y2.dist [1,1,1,1,1,1,1,1,1,1,1,1,1,1,1,1,0,1] H
def Y2.t5 (Q:AV→aA→Prop) (x2 x4 x5:AV) (x6:Int) (x13:List UInt8) (x207:Bool) (h:aA) (J:JT):Prop:=
(bif x207 then
(aD 8 x4 h fun v208=>
aP 8 x2 v208 h fun h209=>
aD 8 x2 h209 fun v211=>
Q (AV.tu [v211,(AV.b false)]) h209)
else
(bV (AV.s x13) (some (AV.i .i64 1)) none fun l213=>
aC 7 x4 fun v214=>
aP 1 v214 (AV.s l213) h fun h215=>
(bif (decide ((x6:Int)=7)) then
(aD 8 x4 h215 fun v218=>
aP 8 x2 v218 h215 fun h219=>
aD 8 x2 h219 fun v221=>
Q (AV.tu [v221,(AV.b true)]) h219)
else
(aB 5 x5 (AV.i .i64 7) h215 fun v223=>
aD 5 v223 h215 fun v224=>
C Y33.id [v224,(AV.i .i64 2),(AV.i .i64 3),(AV.b true)] h215 fun v225 h226=>
asB v225 fun c227=>
(bif (!c227) then
(J 7 [(2,x2),(4,x4),(5,x5),(237,(AV.b true))] h226)
else
(aB 5 x5 (AV.i .i64 7) h226 fun v229=>
aC 4 v229 fun v230=>
aE v230 h226 fun v231=>
bJ v231 fun n232=>
(bif (!decide ((n232:Int)=1)) then
(J 7 [(2,x2),(4,x4),(5,x5),(237,(AV.b true))] h226)
else
(aB 5 x5 (AV.i .i64 7) h226 fun v234=>
aC 4 v234 fun v235=>
aE v235 h226 fun v236=>
aB 5 v236 (AV.i .i64 0) h226 fun v237=>
aD 5 v237 h226 fun v238=>
C Y33.id [v238,(AV.i .i64 0),(AV.i .i64 16),(AV.b true)] h226 fun v239 h240=>
asB v239 fun c241=>
J 7 [(2,x2),(4,x4),(5,x5),(237,(AV.b (!c241)))] h240))))))))
theorem Y2.i5 {Q x2 x4 x5 x6 x13 x207 h} (H:Y2.t5 Q x2 x4 x5 x6 x13 x207 h (Y2.J Q)):Y2.p5 Q x2 x4 x5 x6 x13 x207 h:=gR Y2.J Tryz.f26 Y2.dist [1,1,1,1,1,1,1,1,1,1,1,1,1,1,1,1,1,1,0,1] H
def Y2.t6 (Q:AV→aA→Prop) (x2 x4 x5:AV) (x237:Bool) (h:aA) (J:JT):Prop:=
(bif x237 then
(aD 8 x4 h fun v243=>
aP 8 x2 v243 h fun h244=>
aD 8 x2 h244 fun v246=>
Q (AV.tu [v246,(AV.b false)]) h244)
else
(aD 8 x4 h fun v248=>
aB 5 x5 (AV.i .i64 7) h fun v249=>
aC 4 v249 fun v250=>
aE v250 h fun v251=>
aB 5 v251 (AV.i .i64 0) h fun v252=>
aC 4 v252 fun v253=>
aE v253 h fun v254=>
C Y1.id [v248,v254] h fun v255 h256=>
aB 5 v251 (AV.i .i64 0) h256 fun v257=>
(v252=v257 ∧
(aE v250 h256 fun v258=>
(v251=v258 ∧
(aB 5 x5 (AV.i .i64 7) h256 fun v259=>
(v249=v259 ∧
(aH 0 v255 fun v260=>
aH 1 v255 fun v261=>
asB v261 fun c262=>
aP 8 x2 v260 h256 fun h263=>
aD 8 x2 h263 fun v265=>
Q (AV.tu [v265,(AV.b c262)]) h263))))))))
theorem Y2.i6 {Q x2 x4 x5 x237 h} (H:Y2.t6 Q x2 x4 x5 x237 h (Y2.J Q)):Y2.p6 Q x2 x4 x5 x237 h:=gR Y2.J Tryz.f26 Y2.dist [1,1,1,1,1,1,1,1,1,1,1,1,1,1,1,1,1,1,1,1,1,0,1] H
def Y2.t (Q:AV→aA→Prop) (x0:AV) (h:aA) (J:JT):Prop:=
dQ (some 33) x0 h fun v0 h1=>
bS (some 25) [(AV.s []),(AV.s []),(AV.s []),(AV.i .i64 0),(AV.i .i64 0),(AV.sl none 0 none),(AV.b false),(AV.s [])] h1 fun v2 h3=>
bS (some 25) [(AV.s []),(AV.s []),(AV.s []),(AV.i .i64 0),(AV.i .i64 0),(AV.sl none 0 none),(AV.b false),(AV.s [])] h3 fun v5 h6=>
aC 4 v0 fun v8=>
aE v8 h6 fun v9=>
bJ v9 fun n11=>
aD 5 v0 h6 fun v13=>
C Y33.id [v13,(AV.i .i64 0),(AV.i .i64 16),(AV.b true)] h6 fun v14 h15=>
asB v14 fun c16=>
(bif (!c16) then
(J 1 [(2,v2),(4,v5),(5,v9),(6,(AV.i .i64 n11)),(28,(AV.b true))] h15)
else
((bif (decide ((n11:Int)<7)) then
(J 1 [(2,v2),(4,v5),(5,v9),(6,(AV.i .i64 n11)),(28,(AV.b true))] h15)
else
(J 1 [(2,v2),(4,v5),(5,v9),(6,(AV.i .i64 n11)),(28,(AV.b (decide ((8:Int)<n11))))] h15))))
theorem Y2.call {K x0 h} (H:Y2.t (aL h K) x0 h (Y2.J (aL h K))):C Y2.id [x0] h K:=
 gC Y2.J Tryz.func26 Y2.dist H
noncomputable def Y26.body:Code:=(Tryz.f27.body).getD .skip
def Y26.ann:Ann:=(sl [0,2,4] (sl [0,2,4] (sq [0,2,4] (.one (.seq 1 [0,2,4,16] lf (.br (sl [6] lf) (.seq 2 [0,2,4,35] lf (.br (sl [6] lf) (sl [0,2,4,54] (.br (sl [6] lf) (sl [0,2,4,57] (.br (sl [6] lf) lf))))))))) (sq [] (sl [0,2,4,7] (.one (.loop 3 [0,2,4,7] (sq [0,2,4,7] (sl [0,2,4,7,67] bl) (sq [0,2,4,7] (.one (sl [0,2,4,7,8] (sl [0,2,4,7,8,80] (.br (sl [6] lf) lf)))) lf))))) (sl [6] lf)))))
theorem Y26.dist:aV (places Y26.ann Y26.body)=true:=by kernel_rfl
noncomputable def Y26.J (Q:AV→aA→Prop):JT:=bY prog C Tryz.f27 Y26.ann Y26.body Q
def Y26.p1 (Q:AV→aA→Prop) (x0:AV) (x2:Int) (x4:AV) (x35:Bool) (h:aA):Prop:=Y26.J Q 2 [(0,x0),(2,(AV.i .i64 x2)),(4,x4),(35,(AV.b x35))] h
def Y26.p0 (Q:AV→aA→Prop) (x0:AV) (x2:Int) (x4:AV) (x16:Bool) (h:aA):Prop:=Y26.J Q 1 [(0,x0),(2,(AV.i .i64 x2)),(4,x4),(16,(AV.b x16))] h
def Y26.p2 (Q:AV→aA→Prop) (x0:AV) (x2:Int) (x4:AV) (x7:Int) (h:aA):Prop:=Y26.J Q 3 [(0,x0),(2,(AV.i .i64 x2)),(4,x4),(7,(AV.i .i64 x7))] h
def Y26.t1 (Q:AV→aA→Prop) (x0:AV) (x2:Int) (x4:AV) (x35:Bool) (h:aA) (J:JT):Prop:=
(bif x35 then
(Q (AV.i .i64 13) h)
else
((bif (decide ((24:Int)<x2)) then
(Q (AV.i .i64 9) h)
else
(cC x0 fun v55=>
aC 0 v55 fun v56=>
aE v56 h fun v57=>
asI .i64 v57 fun n58=>
(bif (decide ((256:Int)<n58)) then
(Q (AV.i .i64 3) h)
else
(J 3 [(0,x0),(2,(AV.i .i64 x2)),(4,x4),(7,(AV.i .i64 0))] h))))))
theorem Y26.i1 {Q x0 x2 x4 x35 h} (H:Y26.t1 Q x0 x2 x4 x35 h (Y26.J Q)):Y26.p1 Q x0 x2 x4 x35 h:=gR Y26.J Tryz.f27 Y26.dist [1,1,0,0,1,1,1] H
def Y26.t0 (Q:AV→aA→Prop) (x0:AV) (x2:Int) (x4:AV) (x16:Bool) (h:aA) (J:JT):Prop:=
(bif x16 then
(Q (AV.i .i64 4) h)
else
(aC 2 x4 fun v29=>
aE v29 h fun v30=>
asB v30 fun c31=>
(bif c31 then
(aC 3 x4 fun v32=>
aE v32 h fun v33=>
asS v33 fun l34=>
(bif (!(decide ((l34:List UInt8)=[]))) then
(J 2 [(0,x0),(2,(AV.i .i64 x2)),(4,x4),(35,(AV.b true))] h)
else
(aC 2 x4 fun v36=>
aE v36 h fun v37=>
asB v37 fun c38=>
(bif (!c38) then
(aC 4 x4 fun v39=>
aE v39 h fun v40=>
bJ v40 fun n41=>
J 2 [(0,x0),(2,(AV.i .i64 x2)),(4,x4),(35,(AV.b (decide ((0:Int)<n41))))] h)
else
(J 2 [(0,x0),(2,(AV.i .i64 x2)),(4,x4),(35,(AV.b false))] h)))))
else
(aC 2 x4 fun v44=>
aE v44 h fun v45=>
asB v45 fun c46=>
(bif (!c46) then
(aC 4 x4 fun v47=>
aE v47 h fun v48=>
bJ v48 fun n49=>
J 2 [(0,x0),(2,(AV.i .i64 x2)),(4,x4),(35,(AV.b (decide ((0:Int)<n49))))] h)
else
(J 2 [(0,x0),(2,(AV.i .i64 x2)),(4,x4),(35,(AV.b false))] h))))))
theorem Y26.i0 {Q x0 x2 x4 x16 h} (H:Y26.t0 Q x0 x2 x4 x16 h (Y26.J Q)):Y26.p0 Q x0 x2 x4 x16 h:=gR Y26.J Tryz.f27 Y26.dist [1,1,0,0,1] H
def Y26.t2 (Q:AV→aA→Prop) (x0:AV) (x2:Int) (x4:AV) (x7:Int) (h:aA) (J:JT):Prop:=
aC 4 x4 fun v63=>
aE v63 h fun v64=>
bJ v64 fun n65=>
(bif (decide ((x7:Int)<n65)) then
(aC 4 x4 fun v69=>
aE v69 h fun v70=>
aB 5 v70 (AV.i .i64 x7) h fun v71=>
aD 5 v71 h fun v72=>
aR (IntKind.wrap .i64 (x2+1)) fun n73=>
C Y26.id [x0,v72,(AV.i .i64 n73)] h fun v74 h75=>
asI .i64 v74 fun n76=>
(bif (!decide ((n76:Int)=0)) then
(Q (AV.i .i64 n76) h75)
else
(aR (IntKind.wrap .i64 (x7+1)) fun n81=>
J 3 [(0,x0),(2,(AV.i .i64 x2)),(4,x4),(7,(AV.i .i64 n81))] h75)))
else
(Q (AV.i .i64 0) h))
theorem Y26.i2 {Q x0 x2 x4 x7 h} (H:Y26.t2 Q x0 x2 x4 x7 h (Y26.J Q)):Y26.p2 Q x0 x2 x4 x7 h:=gH Y26.J Tryz.f27 Y26.dist [1,1,1,0,1,0] H
def Y26.t (Q:AV→aA→Prop) (x0 x1:AV) (x2:Int) (h:aA) (J:JT):Prop:=
dQ (some 33) x1 h fun v0 h1=>
cC x0 fun v3=>
aC 0 v3 fun v4=>
aE v4 h1 fun v5=>
asI .i64 v5 fun n6=>
aR (IntKind.wrap .i64 (n6+1)) fun n7=>
cC x0 fun v8=>
aC 0 v8 fun v9=>
aP 1 v9 (AV.i .i64 n7) h1 fun h10=>
aC 0 v0 fun v12=>
aE v12 h10 fun v13=>
asI .i64 v13 fun n14=>
(bif (decide ((n14:Int)<0)) then
(J 1 [(0,x0),(2,(AV.i .i64 x2)),(4,v0),(16,(AV.b true))] h10)
else
(aC 0 v0 fun v16=>
aE v16 h10 fun v17=>
asI .i64 v17 fun n18=>
(bif (decide ((3:Int)<n18)) then
(J 1 [(0,x0),(2,(AV.i .i64 x2)),(4,v0),(16,(AV.b true))] h10)
else
(aC 1 v0 fun v20=>
aE v20 h10 fun v21=>
asI .i64 v21 fun n22=>
(bif (decide ((n22:Int)<0)) then
(J 1 [(0,x0),(2,(AV.i .i64 x2)),(4,v0),(16,(AV.b true))] h10)
else
(aC 1 v0 fun v24=>
aE v24 h10 fun v25=>
asI .i64 v25 fun n26=>
J 1 [(0,x0),(2,(AV.i .i64 x2)),(4,v0),(16,(AV.b (decide ((30:Int)<n26))))] h10))))))
theorem Y26.call {K x0 x1 x2 h} (H:Y26.t (aL h K) x0 x1 x2 h (Y26.J (aL h K))):C Y26.id [x0,x1,(AV.i .i64 x2)] h K:=
 gC Y26.J Tryz.func27 Y26.dist H
end Go.Proofs.YtcdkpkkdolmfdaaGreatDoor
