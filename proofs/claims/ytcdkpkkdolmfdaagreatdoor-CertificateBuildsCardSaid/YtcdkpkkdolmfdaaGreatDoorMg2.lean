/- Lemmas (several texts in one). -/
import Derived.Test.YtcdkpkkdolmfdaaGreatDoorProg
import Derived.KernelRfl
import Derived.Test.YtcdkpkkdolmfdaaGreatDoorMg1
set_option linter.unusedVariables false
set_option linter.unusedSectionVars false
set_option maxRecDepth 100000
namespace Go.Proofs.YtcdkpkkdolmfdaaGreatDoor
open Go.GAM
noncomputable abbrev prog:Program:=Tryz.prog
class XR where
 X:bX
abbrev X [XR]:bX:=XR.X
abbrev C [XR]:bX:=gJ prog X
abbrev lf:Ann:=.leaf
def nn:Nat→Nat→Go.GAM.Ord→Go.GAM.Ord
 | _,0,o=>o
 | i,k+1,o=>.neu i (nn (i+1) k o)
abbrev bl:Ann:=.br .leaf .leaf
abbrev sl (l:List Nat) (x:Ann):Ann:=.seq 0 l .leaf x
abbrev sq (l:List Nat) (x y:Ann):Ann:=.seq 0 l x y
theorem gR [XR] {ann:Ann} {body:Code} (J:(AV→aA→Prop)→JT) (fn:Func) (hd:aT (places ann body)=true) {Q:AV→aA→Prop} {k:Nat} (p:List Nat) {e:Env} {h:aA} {a:JT→Prop} (H:a (J Q)) (hJ:J=b4 prog C fn ann body:=by exact rfl) (hl:tC (places ann body) k=some (p,false):=by kernel_rfl) (he:∀ j,a j=atJ prog C fn.ntmps j false p ann body e h (rG prog fn Q):=by intro j; kernel_rfl):J Q k e h:=by
 subst hJ
 exact aLW (qG X) hd hl (he _ ▸ H)
theorem gH [XR] {ann:Ann} {body:Code} (J:(AV→aA→Prop)→JT) (fn:Func) (hd:aT (places ann body)=true) {Q:AV→aA→Prop} {k:Nat} (p:List Nat) {e:Env} {h:aA} {a:JT→Prop} (H:a (J Q)) (hJ:J=b4 prog C fn ann body:=by exact rfl) (hl:tC (places ann body) k=some (p,true):=by kernel_rfl) (he:∀ j,a j=atJ prog C fn.ntmps j true p ann body e h (rG prog fn Q):=by intro j; kernel_rfl):J Q k e h:=by
 subst hJ
 exact aJE (qG X) hd hl (he _ ▸ H)
theorem gC [XR] {f:FuncId} {fn:Func} {ann:Ann} {body:Code} (J:(AV→aA→Prop)→JT) (hf:prog.funcs[f]? = some fn) (hd:aT (places ann body)=true) {args:List AV} {h:aA} {K:AV→aA→Prop} {a:JT→Prop} (H:a (J (aI h K))) (hJ:J=b4 prog C fn ann body:=by exact rfl) (hb:fn.body=some body:=by kernel_rfl) (hn:(fn.name == "runtime.NumGoroutine")=false:=by kernel_rfl) (ha:Nat.ble args.length fn.ntmps=true:=by kernel_rfl) (he:∀ j,a j=exJ prog C fn.ntmps j ann body (eY 0 args) h (rG prog fn (aI h K)):=by intro j; kernel_rfl):C f args h K:=by
 subst hJ
 exact aO4 hf hb hn hd ha (he _ ▸ H)
abbrev Y60.id:FuncId:=5
abbrev Y57.id:FuncId:=7
abbrev Y48.id:FuncId:=8
abbrev Y36.id:FuncId:=10
abbrev Y77.id:FuncId:=12
abbrev Y35.id:FuncId:=13
abbrev Y6.id:FuncId:=14
abbrev Y8.id:FuncId:=15
abbrev Y81.id:FuncId:=16
abbrev Y12.id:FuncId:=17
abbrev Y51.id:FuncId:=18
abbrev Y34.id:FuncId:=19
abbrev Y41.id:FuncId:=20
abbrev Y59.id:FuncId:=21
abbrev Y11.id:FuncId:=22
abbrev Y30.id:FuncId:=27
abbrev Y29.id:FuncId:=28
abbrev Y18.id:FuncId:=29
abbrev Y5.id:FuncId:=30
abbrev Y43.id:FuncId:=31
abbrev Y16.id:FuncId:=32
abbrev Y13.id:FuncId:=33
abbrev Y70.id:FuncId:=34
abbrev Y21.id:FuncId:=35
abbrev Y71.id:FuncId:=36
abbrev Y80.id:FuncId:=37
abbrev Y27.id:FuncId:=38
abbrev Y15.id:FuncId:=39
abbrev Y42.id:FuncId:=40
abbrev Y3.id:FuncId:=41
abbrev Y40.id:FuncId:=42
abbrev Y14.id:FuncId:=43
abbrev Y53.id:FuncId:=44
abbrev Y9.id:FuncId:=45
abbrev Y37.id:FuncId:=46
abbrev Y90.id:FuncId:=47
abbrev Y28.id:FuncId:=48
abbrev Y17.id:FuncId:=49
abbrev Y94.id:FuncId:=50
abbrev Y56.id:FuncId:=51
abbrev Y33.id:FuncId:=52
abbrev Y22.id:FuncId:=53
abbrev Y86.id:FuncId:=54
abbrev Y4.id:FuncId:=55
abbrev Y91.id:FuncId:=56
abbrev Y0.id:FuncId:=57
abbrev Y49.id:FuncId:=59
abbrev Y44.id:FuncId:=63
abbrev Y24.id:FuncId:=64
abbrev Y97.id:FuncId:=65
abbrev Y25.id:FuncId:=66
abbrev Y82.id:FuncId:=67
abbrev Y76.id:FuncId:=68
abbrev Y47.id:FuncId:=69
abbrev Y73.id:FuncId:=70
abbrev Y39.id:FuncId:=71
abbrev Y19.id:FuncId:=72
abbrev Y26.id:FuncId:=73
abbrev Y38.id:FuncId:=74
abbrev Y1.id:FuncId:=75
abbrev Y75.id:FuncId:=76
abbrev Y20.id:FuncId:=77
abbrev Y23.id:FuncId:=78
abbrev Y50.id:FuncId:=79
abbrev Y58.id:FuncId:=80
abbrev Y52.id:FuncId:=81
abbrev Y72.id:FuncId:=82
abbrev Y100.id:FuncId:=83
abbrev Y93.id:FuncId:=84
abbrev Y87.id:FuncId:=85
abbrev Y7.id:FuncId:=86
abbrev Y64.id:FuncId:=87
abbrev Y89.id:FuncId:=88
abbrev Y96.id:FuncId:=89
abbrev Y117.id:FuncId:=90
abbrev Y101.id:FuncId:=91
abbrev Y31.id:FuncId:=92
abbrev Y45.id:FuncId:=93
abbrev Y46.id:FuncId:=94
abbrev Y62.id:FuncId:=95
abbrev Y54.id:FuncId:=96
abbrev Y32.id:FuncId:=104
abbrev Y78.id:FuncId:=105
abbrev Y83.id:FuncId:=106
abbrev Y61.id:FuncId:=107
abbrev Y55.id:FuncId:=108
abbrev Y85.id:FuncId:=109
abbrev Y66.id:FuncId:=110
abbrev Y65.id:FuncId:=111
abbrev Y88.id:FuncId:=112
abbrev Y116.id:FuncId:=113
abbrev Y63.id:FuncId:=114
abbrev Y103.id:FuncId:=115
abbrev Y92.id:FuncId:=116
abbrev Y118.id:FuncId:=120
abbrev Y74.id:FuncId:=121
abbrev Y95.id:FuncId:=122
abbrev Y107.id:FuncId:=123
abbrev Y111.id:FuncId:=127
abbrev Y79.id:FuncId:=129
abbrev Y84.id:FuncId:=130
abbrev Y10.id:FuncId:=131
abbrev Y120.id:FuncId:=134
abbrev Y108.id:FuncId:=136
abbrev Y114.id:FuncId:=139
abbrev Y98.id:FuncId:=140
abbrev Y68.id:FuncId:=141
abbrev Y69.id:FuncId:=142
abbrev Y122.id:FuncId:=143
abbrev Y119.id:FuncId:=144
abbrev Y102.id:FuncId:=151
abbrev Y67.id:FuncId:=152
abbrev Y110.id:FuncId:=153
abbrev Y99.id:FuncId:=154
abbrev Y105.id:FuncId:=162
abbrev Y109.id:FuncId:=163
abbrev Y104.id:FuncId:=164
abbrev Y115.id:FuncId:=165
abbrev Y121.id:FuncId:=166
abbrev Y112.id:FuncId:=167
abbrev Y113.id:FuncId:=168
abbrev Y123.id:FuncId:=169
abbrev Y2.id:FuncId:=207
variable [XR]
noncomputable def Y57.body:Code:=(Tryz.f7.body).getD .skip
def Y57.ann:Ann:=(sl [] (sl [1,2] (sl [2,3,4] (sl [2,3,4,6] (.seq 1 [0] (.ord (nn 0 8 (.eff 8 (.eff 9 (nn 10 2 (.eff 12 (nn 13 7 .done) .stop)) .stop) .stop))) lf)))))
theorem Y57.dist:aT (places Y57.ann Y57.body)=true:=by kernel_rfl
noncomputable def Y57.J (Q:AV→aA→Prop):JT:=b4 prog C Tryz.f7 Y57.ann Y57.body Q
def Y57.p0 (Q:AV→aA→Prop) (x0:Bool) (h:aA):Prop:=Y57.J Q 1 [(0,(AV.b x0))] h
def Y57.t0 (Q:AV→aA→Prop) (x0:Bool) (h:aA) (J:JT):Prop:=
Q (AV.b x0) h
theorem Y57.i0 {Q x0 h} (H:Y57.t0 Q x0 h (Y57.J Q)):Y57.p0 Q x0 h:=gR Y57.J Tryz.f7 Y57.dist [1,1,1,1,1] H
def Y57.t (Q:AV→aA→Prop) (h:aA) (J:JT):Prop:=
C Y81.id [] h fun v1 h2=>
C Y6.id [v1] h2 fun v3 h4=>
aH 0 v3 fun v5=>
asS v5 fun l6=>
aH 1 v3 fun v7=>
asI .i64 v7 fun n8=>
C Y48.id [(AV.s l6)] h4 fun v10 h11=>
aH 0 v10 fun v12=>
aH 1 v10 fun v13=>
asI .i64 v13 fun n14=>
bV (some 25) [(AV.s []),(AV.s []),(AV.s []),(AV.i .i64 0),(AV.i .i64 0),(AV.sl none 0 none),(AV.b false),(AV.s [])] h11 fun v15 h16=>
aS 8 v15 v12 h16 fun h17=>
C Y12.id [(AV.s [67,78,61,97,61,98])] h17 fun v19 h20=>
aH 0 v19 fun v21=>
aH 1 v19 fun v22=>
asI .i64 v22 fun n23=>
bV (some 33) [(AV.i .i64 0),(AV.i .i64 0),(AV.b false),(AV.s []),(AV.sl none 0 none)] h20 fun v24 h25=>
aS 5 v24 v21 h25 fun h26=>
(bif (decide ((n8:Int)=0)) then
((bif (decide ((n14:Int)=0)) then
(aB 8 v15 h26 fun v28=>
C Y81.id [] h26 fun v29 h30=>
aB 8 v15 h30 fun v31=>
(v28=v31 ∧
(C Y36.id [v28,v29] h30 fun v32 h33=>
asB v32 fun c34=>
(bif c34 then
(C Y51.id [(AV.s [79,61,120,44,67,78,61,97,92,44,98])] h33 fun v35 h36=>
asS v35 fun l37=>
aB 8 v15 h36 fun v38=>
(v28=v38 ∧
((bif (decide ((l37:List UInt8)=[97,44,98])) then
(J 1 [(0,(AV.b (decide ((n23:Int)=5))))] h36)
else
(J 1 [(0,(AV.b false))] h36)))))
else
(J 1 [(0,(AV.b false))] h33)))))
else
(J 1 [(0,(AV.b false))] h26)))
else
(J 1 [(0,(AV.b false))] h26))
theorem Y57.call {K h} (H:Y57.t (aI h K) h (Y57.J (aI h K))):C Y57.id [] h K:=
 gC Y57.J Tryz.func7 Y57.dist H
noncomputable def Y48.body:Code:=(Tryz.f8.body).getD .skip
def Y48.ann:Ann:=(sl [0,2] (sq [0,2] (sl [0,2,11] (.br (sl [2,3] lf) lf)) (sl [2,4,5] (sq [2,4] (sl [2,4,5,19] (.br (sl [2,3] lf) lf)) (sl [2,6,7] (sq [2,6] (.seq 1 [2,6,69] (.ord (nn 0 7 (.eff 7 (nn 8 7 (.eff 15 (nn 16 7 (.eff 23 (nn 24 18 .done) .stop)) .stop)) .stop))) (.br (sl [2,3] lf) lf)) (sl [2,6,8] (sl [2,8] (sq [2,8] (sl [2,8,82] (.br (sl [2,3] lf) lf)) (sl [2,3] lf))))))))))
theorem Y48.dist:aT (places Y48.ann Y48.body)=true:=by kernel_rfl
noncomputable def Y48.J (Q:AV→aA→Prop):JT:=b4 prog C Tryz.f8 Y48.ann Y48.body Q
def Y48.p0 (Q:AV→aA→Prop) (x2 x6:AV) (x69:Bool) (h:aA):Prop:=Y48.J Q 1 [(2,x2),(6,x6),(69,(AV.b x69))] h
def Y48.t0 (Q:AV→aA→Prop) (x2 x6:AV) (x69:Bool) (h:aA) (J:JT):Prop:=
(bif x69 then
(aS 8 x2 (AV.ag [(AV.s []),(AV.s []),(AV.s []),(AV.i .i64 0),(AV.i .i64 0),(AV.sl none 0 none),(AV.b false),(AV.s [])]) h fun h74=>
aB 8 x2 h74 fun v76=>
Q (AV.tu [v76,(AV.i .i64 2)]) h74)
else
(eH (some 50) (AV.ag [(AV.s []),(AV.s []),(AV.s []),(AV.i .i64 0),(AV.i .i64 0),(AV.sl none 0 none),(AV.b false),(AV.s []),(AV.b false)]) h fun v78 h79=>
aE 5 x6 (AV.i .i64 0) h79 fun v81=>
aD 4 v81 fun v82=>
aC v82 h79 fun v83=>
C Y11.id [v78,v83] h79 fun v84 h85=>
cV v78 fun v87=>
aD 8 v87 fun v88=>
aC v88 h85 fun v89=>
asB v89 fun c90=>
(bif c90 then
(aS 8 x2 (AV.ag [(AV.s []),(AV.s []),(AV.s []),(AV.i .i64 0),(AV.i .i64 0),(AV.sl none 0 none),(AV.b false),(AV.s [])]) h85 fun h92=>
aB 8 x2 h92 fun v94=>
Q (AV.tu [v94,(AV.i .i64 2)]) h92)
else
(cV v78 fun v96=>
aD 0 v96 fun v97=>
aB 8 v97 h85 fun v98=>
aS 8 x2 v98 h85 fun h99=>
aB 8 x2 h99 fun v101=>
Q (AV.tu [v101,(AV.i .i64 0)]) h99))))
theorem Y48.i0 {Q x2 x6 x69 h} (H:Y48.t0 Q x2 x6 x69 h (Y48.J Q)):Y48.p0 Q x2 x6 x69 h:=gR Y48.J Tryz.f8 Y48.dist [1,1,1,1,1,0,1] H
def Y48.t (Q:AV→aA→Prop) (x0:List UInt8) (h:aA) (J:JT):Prop:=
bV (some 25) [(AV.s []),(AV.s []),(AV.s []),(AV.i .i64 0),(AV.i .i64 0),(AV.sl none 0 none),(AV.b false),(AV.s [])] h fun v0 h1=>
(bif (decide ((65535:Int)<(x0.length:Int))) then
(aS 8 v0 (AV.ag [(AV.s []),(AV.s []),(AV.s []),(AV.i .i64 0),(AV.i .i64 0),(AV.sl none 0 none),(AV.b false),(AV.s [])]) h1 fun h4=>
aB 8 v0 h4 fun v6=>
Q (AV.tu [v6,(AV.i .i64 3)]) h4)
else
(C Y34.id [(AV.s x0)] h1 fun v8 h9=>
aH 0 v8 fun v10=>
aH 1 v8 fun v11=>
asI .i64 v11 fun n12=>
bV (some 33) [(AV.i .i64 0),(AV.i .i64 0),(AV.b false),(AV.s []),(AV.sl none 0 none)] h9 fun v13 h14=>
aS 5 v13 v10 h14 fun h15=>
(bif (!decide ((n12:Int)=0)) then
(aS 8 v0 (AV.ag [(AV.s []),(AV.s []),(AV.s []),(AV.i .i64 0),(AV.i .i64 0),(AV.sl none 0 none),(AV.b false),(AV.s [])]) h15 fun h18=>
aB 8 v0 h18 fun v20=>
Q (AV.tu [v20,(AV.i .i64 n12)]) h18)
else
(aB 3 (bG h15 0) h15 fun v22=>
aB 5 v13 h15 fun v23=>
C Y41.id [v22,v23,(AV.i .i64 3)] h15 fun v24 h25=>
aH 0 v24 fun v26=>
aH 1 v24 fun v27=>
asB v27 fun c28=>
(bif (!c28) then
(J 1 [(2,v0),(6,v26),(69,(AV.b true))] h25)
else
(aB 3 (bG h25 0) h25 fun v31=>
aE 5 v26 (AV.i .i64 0) h25 fun v32=>
aB 5 v32 h25 fun v33=>
C Y59.id [v31,v33] h25 fun v34 h35=>
asB v34 fun c36=>
aE 5 v26 (AV.i .i64 0) h35 fun v37=>
(v32=v37 ∧
((bif (!c36) then
(J 1 [(2,v0),(6,v26),(69,(AV.b true))] h35)
else
(aB 3 (bG h35 0) h35 fun v39=>
aE 5 v26 (AV.i .i64 1) h35 fun v40=>
aB 5 v40 h35 fun v41=>
C Y59.id [v39,v41] h35 fun v42 h43=>
asB v42 fun c44=>
aE 5 v26 (AV.i .i64 1) h43 fun v45=>
(v40=v45 ∧
(aB 5 v32 h43 fun v46=>
(v33=v46 ∧
(aE 5 v26 (AV.i .i64 0) h43 fun v47=>
(v32=v47 ∧
(aB 3 (bG h43 0) h43 fun v48=>
(v31=v48 ∧
((bif (!c44) then
(J 1 [(2,v0),(6,v26),(69,(AV.b true))] h43)
else
(aB 3 (bG h43 1) h43 fun v50=>
aE 5 v26 (AV.i .i64 2) h43 fun v51=>
aB 5 v51 h43 fun v52=>
C Y59.id [v50,v52] h43 fun v53 h54=>
asB v53 fun c55=>
aE 5 v26 (AV.i .i64 2) h54 fun v56=>
(v51=v56 ∧
(aB 5 v40 h54 fun v57=>
(v41=v57 ∧
(aE 5 v26 (AV.i .i64 1) h54 fun v58=>
(v40=v58 ∧
(aB 3 (bG h54 0) h54 fun v59=>
(v39=v59 ∧
(aB 5 v32 h54 fun v60=>
(v33=v60 ∧
(aE 5 v26 (AV.i .i64 0) h54 fun v61=>
(v32=v61 ∧
(aB 3 (bG h54 0) h54 fun v62=>
(v31=v62 ∧
((bif (!c55) then
(J 1 [(2,v0),(6,v26),(69,(AV.b true))] h54)
else
(aE 5 v26 (AV.i .i64 0) h54 fun v64=>
aD 4 v64 fun v65=>
aC v65 h54 fun v66=>
bP v66 fun n67=>
(bif (decide ((n67:Int)<7)) then
(J 1 [(2,v0),(6,v26),(69,(AV.b true))] h54)
else
(aE 5 v26 (AV.i .i64 0) h54 fun v69=>
aD 4 v69 fun v70=>
aC v70 h54 fun v71=>
bP v71 fun n72=>
J 1 [(2,v0),(6,v26),(69,(AV.b (decide ((8:Int)<n72))))] h54))))))))))))))))))))))))))))))))))))))
theorem Y48.call {K x0 h} (H:Y48.t (aI h K) x0 h (Y48.J (aI h K))):C Y48.id [(AV.s x0)] h K:=
 gC Y48.J Tryz.func8 Y48.dist H
noncomputable def Y36.body:Code:=(Tryz.f10.body).getD .skip
def Y36.ann:Ann:=(sl [2,3] (sq [2,3] (.seq 1 [2,3,61] lf (.br (sl [4] lf) lf)) (sq [] (sl [2,3,5] (.one (.loop 2 [2,3,5] (sq [2,3,5] (sl [2,3,5,66] bl) (sq [2,3,5] (.one (sq [2,3,5,79] (.ord (nn 0 11 .done)) (.br (sl [4] lf) lf))) lf))))) (sl [4] lf))))
theorem Y36.dist:aT (places Y36.ann Y36.body)=true:=by kernel_rfl
noncomputable def Y36.J (Q:AV→aA→Prop):JT:=b4 prog C Tryz.f10 Y36.ann Y36.body Q
def Y36.p0 (Q:AV→aA→Prop) (x2 x3:AV) (x61:Bool) (h:aA):Prop:=Y36.J Q 1 [(2,x2),(3,x3),(61,(AV.b x61))] h
def Y36.p1 (Q:AV→aA→Prop) (x2 x3:AV) (x5:Int) (h:aA):Prop:=Y36.J Q 2 [(2,x2),(3,x3),(5,(AV.i .i64 x5))] h
def Y36.t0 (Q:AV→aA→Prop) (x2 x3:AV) (x61:Bool) (h:aA) (J:JT):Prop:=
(bif x61 then
(Q (AV.b false) h)
else
(J 2 [(2,x2),(3,x3),(5,(AV.i .i64 0))] h))
theorem Y36.i0 {Q x2 x3 x61 h} (H:Y36.t0 Q x2 x3 x61 h (Y36.J Q)):Y36.p0 Q x2 x3 x61 h:=gR Y36.J Tryz.f10 Y36.dist [1,0,1] H
def Y36.t1 (Q:AV→aA→Prop) (x2 x3:AV) (x5:Int) (h:aA) (J:JT):Prop:=
aD 5 x2 fun v64=>
aC v64 h fun v65=>
bP v65 fun n66=>
(bif (decide ((x5:Int)<n66)) then
(aD 5 x2 fun v70=>
aC v70 h fun v71=>
aE 1 v71 (AV.i .i64 x5) h fun v72=>
aC v72 h fun v73=>
asS v73 fun l74=>
aD 5 x3 fun v75=>
aC v75 h fun v76=>
aE 1 v76 (AV.i .i64 x5) h fun v77=>
aC v77 h fun v78=>
asS v78 fun l79=>
(bif (!(decide ((l74:List UInt8)=l79))) then
(Q (AV.b false) h)
else
(aQ (IntKind.wrap .i64 (x5+1)) fun n83=>
J 2 [(2,x2),(3,x3),(5,(AV.i .i64 n83))] h)))
else
(Q (AV.b true) h))
theorem Y36.i1 {Q x2 x3 x5 h} (H:Y36.t1 Q x2 x3 x5 h (Y36.J Q)):Y36.p1 Q x2 x3 x5 h:=gH Y36.J Tryz.f10 Y36.dist [1,1,0,1,0] H
def Y36.t (Q:AV→aA→Prop) (x0 x1:AV) (h:aA) (J:JT):Prop:=
eH (some 25) x0 h fun v0 h1=>
eH (some 25) x1 h1 fun v2 h3=>
aD 0 v0 fun v5=>
aC v5 h3 fun v6=>
asS v6 fun l7=>
aD 0 v2 fun v8=>
aC v8 h3 fun v9=>
asS v9 fun l10=>
(bif (!(decide ((l7:List UInt8)=l10))) then
(J 1 [(2,v0),(3,v2),(61,(AV.b true))] h3)
else
(aD 1 v0 fun v12=>
aC v12 h3 fun v13=>
asS v13 fun l14=>
aD 1 v2 fun v15=>
aC v15 h3 fun v16=>
asS v16 fun l17=>
(bif (!(decide ((l14:List UInt8)=l17))) then
(J 1 [(2,v0),(3,v2),(61,(AV.b true))] h3)
else
(aD 2 v0 fun v19=>
aC v19 h3 fun v20=>
asS v20 fun l21=>
aD 2 v2 fun v22=>
aC v22 h3 fun v23=>
asS v23 fun l24=>
(bif (!(decide ((l21:List UInt8)=l24))) then
(J 1 [(2,v0),(3,v2),(61,(AV.b true))] h3)
else
(aD 3 v0 fun v26=>
aC v26 h3 fun v27=>
asI .i64 v27 fun n28=>
aD 3 v2 fun v29=>
aC v29 h3 fun v30=>
asI .i64 v30 fun n31=>
(bif (!decide ((n28:Int)=n31)) then
(J 1 [(2,v0),(3,v2),(61,(AV.b true))] h3)
else
(aD 4 v0 fun v33=>
aC v33 h3 fun v34=>
asI .i64 v34 fun n35=>
aD 4 v2 fun v36=>
aC v36 h3 fun v37=>
asI .i64 v37 fun n38=>
(bif (!decide ((n35:Int)=n38)) then
(J 1 [(2,v0),(3,v2),(61,(AV.b true))] h3)
else
(aD 6 v0 fun v40=>
aC v40 h3 fun v41=>
asB v41 fun c42=>
aD 6 v2 fun v43=>
aC v43 h3 fun v44=>
asB v44 fun c45=>
(bif (!(c42 == c45)) then
(J 1 [(2,v0),(3,v2),(61,(AV.b true))] h3)
else
(aD 7 v0 fun v47=>
aC v47 h3 fun v48=>
asS v48 fun l49=>
aD 7 v2 fun v50=>
aC v50 h3 fun v51=>
asS v51 fun l52=>
(bif (!(decide ((l49:List UInt8)=l52))) then
(J 1 [(2,v0),(3,v2),(61,(AV.b true))] h3)
else
(aD 5 v0 fun v54=>
aC v54 h3 fun v55=>
bP v55 fun n56=>
aD 5 v2 fun v57=>
aC v57 h3 fun v58=>
bP v58 fun n59=>
J 1 [(2,v0),(3,v2),(61,(AV.b (!decide ((n56:Int)=n59))))] h3))))))))))))))
theorem Y36.call {K x0 x1 h} (H:Y36.t (aI h K) x0 x1 h (Y36.J (aI h K))):C Y36.id [x0,x1] h K:=
 gC Y36.J Tryz.func10 Y36.dist H
noncomputable def Y77.body:Code:=(Tryz.f12.body).getD .skip
def Y77.ann:Ann:=(sl [1] (sl [1,4] (sl [1,5] (sq [1] (sl [1,5,13] (.br (sl [2,3] lf) lf)) (sl [6] (sq [6] (sl [6,19] (.br (sl [2,3] lf) lf)) (sl [2,3] lf)))))))
theorem Y77.dist:aT (places Y77.ann Y77.body)=true:=by kernel_rfl
noncomputable def Y77.J (Q:AV→aA→Prop):JT:=b4 prog C Tryz.f12 Y77.ann Y77.body Q
def Y77.t (Q:AV→aA→Prop) (x0:AV) (h:aA) (J:JT):Prop:=
eH (some 33) x0 h fun v0 h1=>
eH (some 57) (AV.ag [(AV.i .i64 0)]) h1 fun v3 h4=>
aB 5 v0 h4 fun v6=>
C Y30.id [v3,v6,(AV.i .i64 1)] h4 fun v7 h8=>
asI .i64 v7 fun n9=>
(bif (!decide ((n9:Int)=0)) then
(Q (AV.tu [(AV.s []),(AV.i .i64 n9)]) h8)
else
(aB 5 v0 h8 fun v14=>
C Y29.id [v14] h8 fun v15 h16=>
asS v15 fun l17=>
(bif (decide ((65535:Int)<(l17.length:Int))) then
(Q (AV.tu [(AV.s []),(AV.i .i64 3)]) h16)
else
(Q (AV.tu [(AV.s l17),(AV.i .i64 0)]) h16))))
theorem Y77.call {K x0 h} (H:Y77.t (aI h K) x0 h (Y77.J (aI h K))):C Y77.id [x0] h K:=
 gC Y77.J Tryz.func12 Y77.dist H
noncomputable def Y35.body:Code:=(Tryz.f13.body).getD .skip
def Y35.ann:Ann:=(sl [1] (sq [1] (.seq 1 [1,31] lf (.br (sl [2] lf) lf)) (sq [] (sl [1,3] (.one (.loop 2 [1,3] (sq [1,3] (sl [1,3,36] bl) (sq [1,3] (.one (sl [1,3,45] (.br (sl [2] lf) lf))) lf))))) (sl [2] lf))))
theorem Y35.dist:aT (places Y35.ann Y35.body)=true:=by kernel_rfl
noncomputable def Y35.J (Q:AV→aA→Prop):JT:=b4 prog C Tryz.f13 Y35.ann Y35.body Q
def Y35.p0 (Q:AV→aA→Prop) (x1:AV) (x31:Bool) (h:aA):Prop:=Y35.J Q 1 [(1,x1),(31,(AV.b x31))] h
def Y35.p1 (Q:AV→aA→Prop) (x1:AV) (x3:Int) (h:aA):Prop:=Y35.J Q 2 [(1,x1),(3,(AV.i .i64 x3))] h
def Y35.t0 (Q:AV→aA→Prop) (x1:AV) (x31:Bool) (h:aA) (J:JT):Prop:=
(bif x31 then
(Q (AV.b false) h)
else
(J 2 [(1,x1),(3,(AV.i .i64 0))] h))
theorem Y35.i0 {Q x1 x31 h} (H:Y35.t0 Q x1 x31 h (Y35.J Q)):Y35.p0 Q x1 x31 h:=gR Y35.J Tryz.f13 Y35.dist [1,0,1] H
def Y35.t1 (Q:AV→aA→Prop) (x1:AV) (x3:Int) (h:aA) (J:JT):Prop:=
aD 5 x1 fun v26=>
aC v26 h fun v27=>
bP v27 fun n28=>
(bif (decide ((x3:Int)<n28)) then
(aD 5 x1 fun v32=>
aC v32 h fun v33=>
aE 1 v33 (AV.i .i64 x3) h fun v34=>
aC v34 h fun v35=>
asS v35 fun l36=>
(bif (decide ((100:Int)<(l36.length:Int))) then
(Q (AV.b false) h)
else
(aQ (IntKind.wrap .i64 (x3+1)) fun n40=>
J 2 [(1,x1),(3,(AV.i .i64 n40))] h)))
else
(Q (AV.b true) h))
theorem Y35.i1 {Q x1 x3 h} (H:Y35.t1 Q x1 x3 h (Y35.J Q)):Y35.p1 Q x1 x3 h:=gH Y35.J Tryz.f13 Y35.dist [1,1,0,1,0] H
def Y35.t (Q:AV→aA→Prop) (x0:AV) (h:aA) (J:JT):Prop:=
eH (some 25) x0 h fun v0 h1=>
aD 5 v0 fun v3=>
aC v3 h1 fun v4=>
bP v4 fun n5=>
(bif (decide ((20:Int)<n5)) then
(J 1 [(1,v0),(31,(AV.b true))] h1)
else
(aD 1 v0 fun v7=>
aC v7 h1 fun v8=>
asS v8 fun l9=>
(bif (decide ((2000:Int)<(l9.length:Int))) then
(J 1 [(1,v0),(31,(AV.b true))] h1)
else
(aD 2 v0 fun v11=>
aC v11 h1 fun v12=>
asS v12 fun l13=>
(bif (decide ((2000:Int)<(l13.length:Int))) then
(J 1 [(1,v0),(31,(AV.b true))] h1)
else
(aD 0 v0 fun v15=>
aC v15 h1 fun v16=>
asS v16 fun l17=>
(bif (decide ((2000:Int)<(l17.length:Int))) then
(J 1 [(1,v0),(31,(AV.b true))] h1)
else
(aD 7 v0 fun v19=>
aC v19 h1 fun v20=>
asS v20 fun l21=>
J 1 [(1,v0),(31,(AV.b (decide ((2000:Int)<(l21.length:Int)))))] h1))))))))
theorem Y35.call {K x0 h} (H:Y35.t (aI h K) x0 h (Y35.J (aI h K))):C Y35.id [x0] h K:=
 gC Y35.J Tryz.func13 Y35.dist H
noncomputable def Y6.body:Code:=(Tryz.f14.body).getD .skip
def Y6.ann:Ann:=(sl [1] (sq [1] (sl [1,4] (sl [1,4,27] (.br (sl [2,3] lf) lf))) (sl [1,5] (sl [1,7] (sl [1,7,8] (sl [1,7,8,10] (sl [1,7,8,10,12] (sq [1,7,14] (.ord (.neu 0 (nn 4 2 (nn 7 5 (nn 13 2 (nn 18 7 (.eff 1 (.eff 2 (.eff 3 (.eff 6 (.eff 12 (.eff 15 (.eff 16 (.eff 17 (.eff 25 (.eff 26 (.eff 27 (.eff 28 (.neu 29 .done) .stop) .stop) .stop) .stop) .stop) .stop) .stop) .stop) .stop) .stop) .stop) .stop))))))) (sl [1,7,14,15] (.seq 2 [1,7,14,15] (sl [1,7,14,15,87] (.br (sl [1,7,14,15,16] (sq [1,7,14,15,16] (sl [1,7,14,15,16,89,90,91] (.one (.loop 1 [1,7,14,15,16,89,90,91] (sl [1,7,14,15,16,89,90,91,92] (sq [1,7,14,15,16,89,90,91] bl (sq [1,7,14,15,16,89,90,91] (.one (sl [1,7,14,15,16,18,89,90,91] lf)) lf)))))) (sl [1,7,14,15,19,20] (sq [1,7,14,15,19] (sl [1,7,14,15,19,20,110] (.br (sl [2,3] lf) lf)) lf)))) lf)) (.seq 4 [1,7,14,15] (sl [1,7,14,15,117] (.br (.seq 3 [1,7,14,15,21,22] (.ord (nn 0 2 (.eff 2 (.eff 3 (.eff 4 (.eff 5 (nn 6 3 (.eff 9 (.eff 10 (.neu 11 .done) .stop) .stop)) (.eff 9 (.eff 5 (nn 6 3 (.eff 10 (.neu 11 .done) .stop)) .stop) .stop)) (.eff 9 (.eff 4 (.eff 5 (nn 6 3 (.eff 10 (.neu 11 .done) .stop)) .stop) .stop) .stop)) (.eff 9 (.eff 3 (.eff 4 (.eff 5 (nn 6 3 (.eff 10 (.neu 11 .done) .stop)) .stop) .stop) .stop) .stop)) (.eff 9 (.eff 2 (.eff 3 (.eff 4 (.eff 5 (nn 6 3 (.eff 10 (.neu 11 .done) .stop)) .stop) .stop) .stop) .stop) .stop)))) (sq [1,7,14,15,21] (sl [1,7,14,15,21,22,128] (.br (sl [2,3] lf) lf)) lf)) lf)) (.seq 5 [1,7,14] (sl [1,7,14,15,136] (.br (.ord (nn 0 4 (.eff 4 (.eff 5 (.eff 6 (.eff 7 (.eff 8 (.eff 9 .done .stop) .stop) .stop) .stop) .stop) .stop))) lf)) (sl [7,14,23] (sq [2,3] (.ord (nn 0 3 (nn 4 4 (.eff 3 (.eff 8 (.eff 9 (.eff 10 (.eff 11 (nn 12 4 .done) .stop) .stop) .stop) .stop) .stop)))) lf))))))))))))))
theorem Y6.dist:aT (places Y6.ann Y6.body)=true:=by kernel_rfl
noncomputable def Y6.J (Q:AV→aA→Prop):JT:=b4 prog C Tryz.f14 Y6.ann Y6.body Q
def Y6.p0 (Q:AV→aA→Prop) (x1 x7 x14 x15 x16 x89:AV) (x90 x91:Int) (h:aA):Prop:=Y6.J Q 1 [(1,x1),(7,x7),(14,x14),(15,x15),(16,x16),(89,x89),(90,(AV.i .i64 x90)),(91,(AV.i .i64 x91))] h
def Y6.p2 (Q:AV→aA→Prop) (x1 x7 x14 x15 x21:AV) (x22:Int) (h:aA):Prop:=Y6.J Q 3 [(1,x1),(7,x7),(14,x14),(15,x15),(21,x21),(22,(AV.i .i64 x22))] h
def Y6.p4 (Q:AV→aA→Prop) (x1 x7 x14:AV) (h:aA):Prop:=Y6.J Q 5 [(1,x1),(7,x7),(14,x14)] h
def Y6.p3 (Q:AV→aA→Prop) (x1 x7 x14 x15:AV) (h:aA):Prop:=Y6.J Q 4 [(1,x1),(7,x7),(14,x14),(15,x15)] h
def Y6.p1 (Q:AV→aA→Prop) (x1 x7 x14 x15:AV) (h:aA):Prop:=Y6.J Q 2 [(1,x1),(7,x7),(14,x14),(15,x15)] h
def Y6.t0 (Q:AV→aA→Prop) (x1 x7 x14 x15 x16 x89:AV) (x90 x91:Int) (h:aA) (J:JT):Prop:=
(bif (decide ((x91:Int)<x90)) then
(aE 1 x89 (AV.i .i64 x91) h fun v288=>
aC v288 h fun v289=>
asS v289 fun l290=>
aB 3 (bG h 4) h fun v292=>
C Y70.id [v292,(AV.s l290)] h fun v293 h294=>
aN 5 1 [(AV.i .i64 0),(AV.i .i64 0),(AV.b false),(AV.s []),(AV.sl none 0 none)] [(0,5,v293)] h294 fun v295 h296=>
bN none 5 64 x16 v295 h296 fun v297 h298=>
aQ (IntKind.wrap .i64 (x91+1)) fun n300=>
J 1 [(1,x1),(7,x7),(14,x14),(15,x15),(16,v297),(89,x89),(90,(AV.i .i64 x90)),(91,(AV.i .i64 n300))] h298)
else
(aB 3 (bG h 0) h fun v302=>
C Y43.id [v302,x16] h fun v303 h304=>
C Y71.id [(AV.s [50,46,53,46,50,57,46,49,55]),v303] h304 fun v305 h306=>
aH 0 v305 fun v307=>
aH 1 v305 fun v308=>
asI .i64 v308 fun n309=>
bV (some 33) [(AV.i .i64 0),(AV.i .i64 0),(AV.b false),(AV.s []),(AV.sl none 0 none)] h306 fun v310 h311=>
aS 5 v310 v307 h311 fun h312=>
(bif (!decide ((n309:Int)=0)) then
(Q (AV.tu [(AV.s []),(AV.i .i64 n309)]) h312)
else
(aB 5 v310 h312 fun v317=>
aN 5 1 [(AV.i .i64 0),(AV.i .i64 0),(AV.b false),(AV.s []),(AV.sl none 0 none)] [(0,5,v317)] h312 fun v318 h319=>
bN none 5 64 x15 v318 h319 fun v320 h321=>
J 2 [(1,x1),(7,x7),(14,x14),(15,v320)] h321))))
theorem Y6.i0 {Q x1 x7 x14 x15 x16 x89 x90 x91 h} (H:Y6.t0 Q x1 x7 x14 x15 x16 x89 x90 x91 h (Y6.J Q)):Y6.p0 Q x1 x7 x14 x15 x16 x89 x90 x91 h:=gH Y6.J Tryz.f14 Y6.dist [1,1,1,1,1,1,1,1,1,0,1,0,1,0,1,0] H
def Y6.t2 (Q:AV→aA→Prop) (x1 x7 x14 x15 x21:AV) (x22:Int) (h:aA) (J:JT):Prop:=
(bif (!decide ((x22:Int)=0)) then
(Q (AV.tu [(AV.s []),(AV.i .i64 x22)]) h)
else
(aB 5 x21 h fun v428=>
aN 5 1 [(AV.i .i64 0),(AV.i .i64 0),(AV.b false),(AV.s []),(AV.sl none 0 none)] [(0,5,v428)] h fun v429 h430=>
bN none 5 64 x15 v429 h430 fun v431 h432=>
J 4 [(1,x1),(7,x7),(14,x14),(15,v431)] h432))
theorem Y6.i2 {Q x1 x7 x14 x15 x21 x22 h} (H:Y6.t2 Q x1 x7 x14 x15 x21 x22 h (Y6.J Q)):Y6.p2 Q x1 x7 x14 x15 x21 x22 h:=gR Y6.J Tryz.f14 Y6.dist [1,1,1,1,1,1,1,1,1,1,0,1,0,1] H
def Y6.t4 (Q:AV→aA→Prop) (x1 x7 x14:AV) (h:aA) (J:JT):Prop:=
aD 7 x1 fun v459=>
aC v459 h fun v460=>
asS v460 fun l461=>
eC l461 [0,0,0,0,0,0,0,0] fun l462=>
bW (AV.s l462) none (some (AV.i .i64 8)) fun l463=>
aB 3 (bG h 0) h fun v465=>
aB 3 (bG h 0) h fun v466=>
aB 5 x7 h fun v467=>
aB 3 (bG h 1) h fun v468=>
eC [0] l463 fun l469=>
C Y43.id [v466,x14] h fun v470 h471=>
aB 3 (bG h471 1) h471 fun v472=>
(v468=v472 ∧
(aB 5 x7 h471 fun v473=>
(v467=v473 ∧
(aB 3 (bG h471 0) h471 fun v474=>
(v465=v474 ∧
(C Y70.id [v468,(AV.s l469)] h471 fun v475 h476=>
aB 5 x7 h476 fun v477=>
(v467=v477 ∧
(aB 3 (bG h476 0) h476 fun v478=>
(v466=v478 ∧
(aB 3 (bG h476 0) h476 fun v479=>
(v465=v479 ∧
(aN 5 3 [(AV.i .i64 0),(AV.i .i64 0),(AV.b false),(AV.s []),(AV.sl none 0 none),(AV.i .i64 0),(AV.i .i64 0),(AV.b false),(AV.s []),(AV.sl none 0 none),(AV.i .i64 0),(AV.i .i64 0),(AV.b false),(AV.s []),(AV.sl none 0 none)] [(0,5,v470),(5,5,v467),(10,5,v475)] h476 fun v480 h481=>
aB 3 (bG h481 1) h481 fun v482=>
(v468=v482 ∧
(aB 3 (bG h481 0) h481 fun v483=>
(v466=v483 ∧
(aB 3 (bG h481 0) h481 fun v484=>
(v465=v484 ∧
(C Y43.id [v465,v480] h481 fun v485 h486=>
aB 3 (bG h486 1) h486 fun v487=>
(v468=v487 ∧
(aB 5 x7 h486 fun v488=>
(v467=v488 ∧
(aB 3 (bG h486 0) h486 fun v489=>
(v466=v489 ∧
(C Y80.id [v485] h486 fun v490 h491=>
aB 3 (bG h491 1) h491 fun v492=>
(v468=v492 ∧
(aB 5 x7 h491 fun v493=>
(v467=v493 ∧
(aB 3 (bG h491 0) h491 fun v494=>
(v466=v494 ∧
(aB 3 (bG h491 0) h491 fun v495=>
(v465=v495 ∧
(aH 0 v490 fun v496=>
asS v496 fun l497=>
aH 1 v490 fun v498=>
asI .i64 v498 fun n499=>
Q (AV.tu [(AV.s l497),(AV.i .i64 n499)]) h491))))))))))))))))))))))))))))))))
theorem Y6.i4 {Q x1 x7 x14 h} (H:Y6.t4 Q x1 x7 x14 h (Y6.J Q)):Y6.p4 Q x1 x7 x14 h:=gR Y6.J Tryz.f14 Y6.dist [1,1,1,1,1,1,1,1,1,1,1,1] H
def Y6.t3 (Q:AV→aA→Prop) (x1 x7 x14 x15:AV) (h:aA) (J:JT):Prop:=
bP x15 fun n435=>
(bif (decide ((0:Int)<n435)) then
(aB 3 (bG h 6) h fun v437=>
aB 3 (bG h 0) h fun v438=>
C Y43.id [v438,x15] h fun v439 h440=>
aB 3 (bG h440 6) h440 fun v441=>
(v437=v441 ∧
(aN 5 1 [(AV.i .i64 0),(AV.i .i64 0),(AV.b false),(AV.s []),(AV.sl none 0 none)] [(0,5,v439)] h440 fun v442 h443=>
aB 3 (bG h443 0) h443 fun v444=>
(v438=v444 ∧
(aB 3 (bG h443 6) h443 fun v445=>
(v437=v445 ∧
(C Y43.id [v437,v442] h443 fun v446 h447=>
aB 3 (bG h447 0) h447 fun v448=>
(v438=v448 ∧
(aN 5 1 [(AV.i .i64 0),(AV.i .i64 0),(AV.b false),(AV.s []),(AV.sl none 0 none)] [(0,5,v446)] h447 fun v449 h450=>
aB 3 (bG h450 0) h450 fun v451=>
(v438=v451 ∧
(aB 3 (bG h450 6) h450 fun v452=>
(v437=v452 ∧
(bN none 5 64 x14 v449 h450 fun v453 h454=>
aB 3 (bG h454 0) h454 fun v455=>
(v438=v455 ∧
(aB 3 (bG h454 6) h454 fun v456=>
(v437=v456 ∧
(J 5 [(1,x1),(7,x7),(14,v453)] h454)))))))))))))))))
else
(J 5 [(1,x1),(7,x7),(14,x14)] h))
theorem Y6.i3 {Q x1 x7 x14 x15 h} (H:Y6.t3 Q x1 x7 x14 x15 h (Y6.J Q)):Y6.p3 Q x1 x7 x14 x15 h:=gR Y6.J Tryz.f14 Y6.dist [1,1,1,1,1,1,1,1,1,1,1] H
def Y6.t1 (Q:AV→aA→Prop) (x1 x7 x14 x15:AV) (h:aA) (J:JT):Prop:=
aD 6 x1 fun v324=>
aC v324 h fun v325=>
asB v325 fun c326=>
(bif c326 then
(aB 3 (bG h 0) h fun v328=>
aB 3 (bG h 5) h fun v329=>
((C Y70.id [v329,(AV.s [255])] h fun v330 h331=>
aB 3 (bG h331 0) h331 fun v332=>
(v328=v332 ∧
(((aN 5 1 [(AV.i .i64 0),(AV.i .i64 0),(AV.b false),(AV.s []),(AV.sl none 0 none)] [(0,5,v330)] h331 fun v333 h334=>
aB 3 (bG h334 5) h334 fun v335=>
(v329=v335 ∧
(aB 3 (bG h334 0) h334 fun v336=>
(v328=v336 ∧
(((C Y43.id [v328,v333] h334 fun v337 h338=>
aB 3 (bG h338 5) h338 fun v339=>
(v329=v339 ∧
(((C Y71.id [(AV.s [50,46,53,46,50,57,46,49,57]),v337] h338 fun v340 h341=>
aB 3 (bG h341 5) h341 fun v342=>
(v329=v342 ∧
(aB 3 (bG h341 0) h341 fun v343=>
(v328=v343 ∧
(aH 0 v340 fun v344=>
aH 1 v340 fun v345=>
asI .i64 v345 fun n346=>
bV (some 33) [(AV.i .i64 0),(AV.i .i64 0),(AV.b false),(AV.s []),(AV.sl none 0 none)] h341 fun v347 h348=>
aB 3 (bG h348 5) h348 fun v349=>
(v329=v349 ∧
(aB 3 (bG h348 0) h348 fun v350=>
(v328=v350 ∧
(aS 5 v347 v344 h348 fun h351=>
J 3 [(1,x1),(7,x7),(14,x14),(15,x15),(21,v347),(22,(AV.i .i64 n346))] h351))))))))) ∧
(bV (some 33) [(AV.i .i64 0),(AV.i .i64 0),(AV.b false),(AV.s []),(AV.sl none 0 none)] h338 fun v353 h354=>
aB 3 (bG h354 5) h354 fun v355=>
(v329=v355 ∧
(aB 3 (bG h354 0) h354 fun v356=>
(v328=v356 ∧
(C Y71.id [(AV.s [50,46,53,46,50,57,46,49,57]),v337] h354 fun v357 h358=>
aB 3 (bG h358 5) h358 fun v359=>
(v329=v359 ∧
(aB 3 (bG h358 0) h358 fun v360=>
(v328=v360 ∧
(aH 0 v357 fun v361=>
aH 1 v357 fun v362=>
asI .i64 v362 fun n363=>
aS 5 v353 v361 h358 fun h364=>
J 3 [(1,x1),(7,x7),(14,x14),(15,x15),(21,v353),(22,(AV.i .i64 n363))] h364))))))))))))) ∧
(bV (some 33) [(AV.i .i64 0),(AV.i .i64 0),(AV.b false),(AV.s []),(AV.sl none 0 none)] h334 fun v366 h367=>
aB 3 (bG h367 5) h367 fun v368=>
(v329=v368 ∧
(aB 3 (bG h367 0) h367 fun v369=>
(v328=v369 ∧
(C Y43.id [v328,v333] h367 fun v370 h371=>
aB 3 (bG h371 5) h371 fun v372=>
(v329=v372 ∧
(C Y71.id [(AV.s [50,46,53,46,50,57,46,49,57]),v370] h371 fun v373 h374=>
aB 3 (bG h374 5) h374 fun v375=>
(v329=v375 ∧
(aB 3 (bG h374 0) h374 fun v376=>
(v328=v376 ∧
(aH 0 v373 fun v377=>
aH 1 v373 fun v378=>
asI .i64 v378 fun n379=>
aS 5 v366 v377 h374 fun h380=>
J 3 [(1,x1),(7,x7),(14,x14),(15,x15),(21,v366),(22,(AV.i .i64 n379))] h380))))))))))))))))) ∧
(bV (some 33) [(AV.i .i64 0),(AV.i .i64 0),(AV.b false),(AV.s []),(AV.sl none 0 none)] h331 fun v382 h383=>
aB 3 (bG h383 5) h383 fun v384=>
(v329=v384 ∧
(aB 3 (bG h383 0) h383 fun v385=>
(v328=v385 ∧
(aN 5 1 [(AV.i .i64 0),(AV.i .i64 0),(AV.b false),(AV.s []),(AV.sl none 0 none)] [(0,5,v330)] h383 fun v386 h387=>
aB 3 (bG h387 5) h387 fun v388=>
(v329=v388 ∧
(aB 3 (bG h387 0) h387 fun v389=>
(v328=v389 ∧
(C Y43.id [v328,v386] h387 fun v390 h391=>
aB 3 (bG h391 5) h391 fun v392=>
(v329=v392 ∧
(C Y71.id [(AV.s [50,46,53,46,50,57,46,49,57]),v390] h391 fun v393 h394=>
aB 3 (bG h394 5) h394 fun v395=>
(v329=v395 ∧
(aB 3 (bG h394 0) h394 fun v396=>
(v328=v396 ∧
(aH 0 v393 fun v397=>
aH 1 v393 fun v398=>
asI .i64 v398 fun n399=>
aS 5 v382 v397 h394 fun h400=>
J 3 [(1,x1),(7,x7),(14,x14),(15,x15),(21,v382),(22,(AV.i .i64 n399))] h400))))))))))))))))))) ∧
(bV (some 33) [(AV.i .i64 0),(AV.i .i64 0),(AV.b false),(AV.s []),(AV.sl none 0 none)] h fun v402 h403=>
aB 3 (bG h403 5) h403 fun v404=>
(v329=v404 ∧
(aB 3 (bG h403 0) h403 fun v405=>
(v328=v405 ∧
(C Y70.id [v329,(AV.s [255])] h403 fun v406 h407=>
aB 3 (bG h407 0) h407 fun v408=>
(v328=v408 ∧
(aN 5 1 [(AV.i .i64 0),(AV.i .i64 0),(AV.b false),(AV.s []),(AV.sl none 0 none)] [(0,5,v406)] h407 fun v409 h410=>
aB 3 (bG h410 5) h410 fun v411=>
(v329=v411 ∧
(aB 3 (bG h410 0) h410 fun v412=>
(v328=v412 ∧
(C Y43.id [v328,v409] h410 fun v413 h414=>
aB 3 (bG h414 5) h414 fun v415=>
(v329=v415 ∧
(C Y71.id [(AV.s [50,46,53,46,50,57,46,49,57]),v413] h414 fun v416 h417=>
aB 3 (bG h417 5) h417 fun v418=>
(v329=v418 ∧
(aB 3 (bG h417 0) h417 fun v419=>
(v328=v419 ∧
(aH 0 v416 fun v420=>
aH 1 v416 fun v421=>
asI .i64 v421 fun n422=>
aS 5 v402 v420 h417 fun h423=>
J 3 [(1,x1),(7,x7),(14,x14),(15,x15),(21,v402),(22,(AV.i .i64 n422))] h423)))))))))))))))))))
else
(J 4 [(1,x1),(7,x7),(14,x14),(15,x15)] h))
theorem Y6.i1 {Q x1 x7 x14 x15 h} (H:Y6.t1 Q x1 x7 x14 x15 h (Y6.J Q)):Y6.p1 Q x1 x7 x14 x15 h:=gR Y6.J Tryz.f14 Y6.dist [1,1,1,1,1,1,1,1,1,1] H
def Y6.t (Q:AV→aA→Prop) (x0:AV) (h:aA) (J:JT):Prop:=
eH (some 25) x0 h fun v0 h1=>
aB 8 v0 h1 fun v3=>
C Y18.id [v3] h1 fun v4 h5=>
asI .i64 v4 fun n6=>
(bif (!decide ((n6:Int)=0)) then
(Q (AV.tu [(AV.s []),(AV.i .i64 n6)]) h5)
else
(C Y5.id [(AV.s [49,46,50,46,56,52,48,46,49,48,48,52,53,46,52,46,51,46,50])] h5 fun v11 h12=>
aH 0 v11 fun v13=>
aH 1 v11 fun v14=>
asI .i64 v14 fun n15=>
bV (some 33) [(AV.i .i64 0),(AV.i .i64 0),(AV.b false),(AV.s []),(AV.sl none 0 none)] h12 fun v16 h17=>
aS 5 v16 v13 h17 fun h18=>
aB 3 (bG h18 0) h18 fun v20=>
aB 5 v16 h18 fun v21=>
aN 5 1 [(AV.i .i64 0),(AV.i .i64 0),(AV.b false),(AV.s []),(AV.sl none 0 none)] [(0,5,v21)] h18 fun v22 h23=>
C Y43.id [v20,v22] h23 fun v24 h25=>
bV (some 33) [(AV.i .i64 0),(AV.i .i64 0),(AV.b false),(AV.s []),(AV.sl none 0 none)] h25 fun v26 h27=>
aS 5 v26 v24 h27 fun h28=>
aD 0 v0 fun v30=>
aC v30 h28 fun v31=>
asS v31 fun l32=>
C Y16.id [(AV.s l32)] h28 fun v33 h34=>
aH 0 v33 fun v35=>
asS v35 fun l36=>
aH 1 v33 fun v37=>
asB v37 fun c38=>
aD 1 v0 fun v40=>
aC v40 h34 fun v41=>
asS v41 fun l42=>
C Y12.id [(AV.s l42)] h34 fun v43 h44=>
aH 0 v43 fun v45=>
aH 1 v43 fun v46=>
asI .i64 v46 fun n47=>
bV (some 33) [(AV.i .i64 0),(AV.i .i64 0),(AV.b false),(AV.s []),(AV.sl none 0 none)] h44 fun v48 h49=>
aS 5 v48 v45 h49 fun h50=>
aD 2 v0 fun v52=>
aC v52 h50 fun v53=>
asS v53 fun l54=>
C Y12.id [(AV.s l54)] h50 fun v55 h56=>
aH 0 v55 fun v57=>
aH 1 v55 fun v58=>
asI .i64 v58 fun n59=>
bV (some 33) [(AV.i .i64 0),(AV.i .i64 0),(AV.b false),(AV.s []),(AV.sl none 0 none)] h56 fun v60 h61=>
aS 5 v60 v57 h61 fun h62=>
aB 3 (bG h62 2) h62 fun v64=>
aB 3 (bG h62 3) h62 fun v65=>
aB 5 v26 h62 fun v66=>
aB 5 v48 h62 fun v67=>
aB 3 (bG h62 0) h62 fun v68=>
aD 3 v0 fun v69=>
aC v69 h62 fun v70=>
asI .i64 v70 fun n71=>
aD 4 v0 fun v72=>
aC v72 h62 fun v73=>
asI .i64 v73 fun n74=>
aB 5 v60 h62 fun v75=>
aB 3 (bG h62 0) h62 fun v76=>
aB 5 v26 h62 fun v77=>
aB 3 (bG h62 1) h62 fun v78=>
aD 7 v0 fun v79=>
aC v79 h62 fun v80=>
asS v80 fun l81=>
eC [0] l81 fun l82=>
C Y13.id [(AV.i .i64 2)] h62 fun v83 h84=>
aC v79 h84 fun v85=>
asS v85 fun l86=>
((AV.s l81)=(AV.s l86) ∧
(aB 3 (bG h84 1) h84 fun v87=>
(v78=v87 ∧
(aB 5 v26 h84 fun v88=>
(v77=v88 ∧
(aB 3 (bG h84 0) h84 fun v89=>
(v76=v89 ∧
(aB 5 v60 h84 fun v90=>
(v75=v90 ∧
(aC v72 h84 fun v91=>
asI .i64 v91 fun n92=>
((AV.i .i64 n74)=(AV.i .i64 n92) ∧
(aC v69 h84 fun v93=>
asI .i64 v93 fun n94=>
((AV.i .i64 n71)=(AV.i .i64 n94) ∧
(aB 3 (bG h84 0) h84 fun v95=>
(v68=v95 ∧
(aB 5 v48 h84 fun v96=>
(v67=v96 ∧
(aB 5 v26 h84 fun v97=>
(v66=v97 ∧
(aB 3 (bG h84 3) h84 fun v98=>
(v65=v98 ∧
(aB 3 (bG h84 2) h84 fun v99=>
(v64=v99 ∧
(aN 5 1 [(AV.i .i64 0),(AV.i .i64 0),(AV.b false),(AV.s []),(AV.sl none 0 none)] [(0,5,v83)] h84 fun v100 h101=>
aC v79 h101 fun v102=>
asS v102 fun l103=>
((AV.s l81)=(AV.s l103) ∧
(aB 3 (bG h101 1) h101 fun v104=>
(v78=v104 ∧
(aB 5 v26 h101 fun v105=>
(v77=v105 ∧
(aB 3 (bG h101 0) h101 fun v106=>
(v76=v106 ∧
(aB 5 v60 h101 fun v107=>
(v75=v107 ∧
(aC v72 h101 fun v108=>
asI .i64 v108 fun n109=>
((AV.i .i64 n74)=(AV.i .i64 n109) ∧
(aC v69 h101 fun v110=>
asI .i64 v110 fun n111=>
((AV.i .i64 n71)=(AV.i .i64 n111) ∧
(aB 3 (bG h101 0) h101 fun v112=>
(v68=v112 ∧
(aB 5 v48 h101 fun v113=>
(v67=v113 ∧
(aB 5 v26 h101 fun v114=>
(v66=v114 ∧
(aB 3 (bG h101 3) h101 fun v115=>
(v65=v115 ∧
(aB 3 (bG h101 2) h101 fun v116=>
(v64=v116 ∧
(C Y43.id [v64,v100] h101 fun v117 h118=>
aC v79 h118 fun v119=>
asS v119 fun l120=>
((AV.s l81)=(AV.s l120) ∧
(aB 3 (bG h118 1) h118 fun v121=>
(v78=v121 ∧
(aB 5 v26 h118 fun v122=>
(v77=v122 ∧
(aB 3 (bG h118 0) h118 fun v123=>
(v76=v123 ∧
(aB 5 v60 h118 fun v124=>
(v75=v124 ∧
(aC v72 h118 fun v125=>
asI .i64 v125 fun n126=>
((AV.i .i64 n74)=(AV.i .i64 n126) ∧
(aC v69 h118 fun v127=>
asI .i64 v127 fun n128=>
((AV.i .i64 n71)=(AV.i .i64 n128) ∧
(aB 3 (bG h118 0) h118 fun v129=>
(v68=v129 ∧
(aB 5 v48 h118 fun v130=>
(v67=v130 ∧
(aB 5 v26 h118 fun v131=>
(v66=v131 ∧
(aB 3 (bG h118 3) h118 fun v132=>
(v65=v132 ∧
(C Y70.id [v65,(AV.s l36)] h118 fun v133 h134=>
aC v79 h134 fun v135=>
asS v135 fun l136=>
((AV.s l81)=(AV.s l136) ∧
(aB 3 (bG h134 1) h134 fun v137=>
(v78=v137 ∧
(aB 5 v26 h134 fun v138=>
(v77=v138 ∧
(aB 3 (bG h134 0) h134 fun v139=>
(v76=v139 ∧
(aB 5 v60 h134 fun v140=>
(v75=v140 ∧
(aC v72 h134 fun v141=>
asI .i64 v141 fun n142=>
((AV.i .i64 n74)=(AV.i .i64 n142) ∧
(aC v69 h134 fun v143=>
asI .i64 v143 fun n144=>
((AV.i .i64 n71)=(AV.i .i64 n144) ∧
(aB 3 (bG h134 0) h134 fun v145=>
(v68=v145 ∧
(aB 5 v48 h134 fun v146=>
(v67=v146 ∧
(aB 5 v26 h134 fun v147=>
(v66=v147 ∧
(aB 3 (bG h134 2) h134 fun v148=>
(v64=v148 ∧
(C Y21.id [(AV.i .i64 n71)] h134 fun v149 h150=>
aC v79 h150 fun v151=>
asS v151 fun l152=>
((AV.s l81)=(AV.s l152) ∧
(aB 3 (bG h150 1) h150 fun v153=>
(v78=v153 ∧
(aB 5 v26 h150 fun v154=>
(v77=v154 ∧
(aB 3 (bG h150 0) h150 fun v155=>
(v76=v155 ∧
(aB 5 v60 h150 fun v156=>
(v75=v156 ∧
(aC v72 h150 fun v157=>
asI .i64 v157 fun n158=>
((AV.i .i64 n74)=(AV.i .i64 n158) ∧
(aB 3 (bG h150 0) h150 fun v159=>
(v68=v159 ∧
(aB 5 v48 h150 fun v160=>
(v67=v160 ∧
(aB 5 v26 h150 fun v161=>
(v66=v161 ∧
(aB 3 (bG h150 3) h150 fun v162=>
(v65=v162 ∧
(aB 3 (bG h150 2) h150 fun v163=>
(v64=v163 ∧
(C Y21.id [(AV.i .i64 n74)] h150 fun v164 h165=>
aC v79 h165 fun v166=>
asS v166 fun l167=>
((AV.s l81)=(AV.s l167) ∧
(aB 3 (bG h165 1) h165 fun v168=>
(v78=v168 ∧
(aB 5 v26 h165 fun v169=>
(v77=v169 ∧
(aB 3 (bG h165 0) h165 fun v170=>
(v76=v170 ∧
(aB 5 v60 h165 fun v171=>
(v75=v171 ∧
(aC v69 h165 fun v172=>
asI .i64 v172 fun n173=>
((AV.i .i64 n71)=(AV.i .i64 n173) ∧
(aB 3 (bG h165 0) h165 fun v174=>
(v68=v174 ∧
(aB 5 v48 h165 fun v175=>
(v67=v175 ∧
(aB 5 v26 h165 fun v176=>
(v66=v176 ∧
(aB 3 (bG h165 3) h165 fun v177=>
(v65=v177 ∧
(aB 3 (bG h165 2) h165 fun v178=>
(v64=v178 ∧
(aN 5 2 [(AV.i .i64 0),(AV.i .i64 0),(AV.b false),(AV.s []),(AV.sl none 0 none),(AV.i .i64 0),(AV.i .i64 0),(AV.b false),(AV.s []),(AV.sl none 0 none)] [(0,5,v149),(5,5,v164)] h165 fun v179 h180=>
aC v79 h180 fun v181=>
asS v181 fun l182=>
((AV.s l81)=(AV.s l182) ∧
(aB 3 (bG h180 1) h180 fun v183=>
(v78=v183 ∧
(aB 5 v26 h180 fun v184=>
(v77=v184 ∧
(aB 3 (bG h180 0) h180 fun v185=>
(v76=v185 ∧
(aB 5 v60 h180 fun v186=>
(v75=v186 ∧
(aC v72 h180 fun v187=>
asI .i64 v187 fun n188=>
((AV.i .i64 n74)=(AV.i .i64 n188) ∧
(aC v69 h180 fun v189=>
asI .i64 v189 fun n190=>
((AV.i .i64 n71)=(AV.i .i64 n190) ∧
(aB 3 (bG h180 0) h180 fun v191=>
(v68=v191 ∧
(aB 5 v48 h180 fun v192=>
(v67=v192 ∧
(aB 5 v26 h180 fun v193=>
(v66=v193 ∧
(aB 3 (bG h180 3) h180 fun v194=>
(v65=v194 ∧
(aB 3 (bG h180 2) h180 fun v195=>
(v64=v195 ∧
(C Y43.id [v68,v179] h180 fun v196 h197=>
aC v79 h197 fun v198=>
asS v198 fun l199=>
((AV.s l81)=(AV.s l199) ∧
(aB 3 (bG h197 1) h197 fun v200=>
(v78=v200 ∧
(aB 5 v26 h197 fun v201=>
(v77=v201 ∧
(aB 3 (bG h197 0) h197 fun v202=>
(v76=v202 ∧
(aB 5 v60 h197 fun v203=>
(v75=v203 ∧
(aC v72 h197 fun v204=>
asI .i64 v204 fun n205=>
((AV.i .i64 n74)=(AV.i .i64 n205) ∧
(aC v69 h197 fun v206=>
asI .i64 v206 fun n207=>
((AV.i .i64 n71)=(AV.i .i64 n207) ∧
(aB 5 v48 h197 fun v208=>
(v67=v208 ∧
(aB 5 v26 h197 fun v209=>
(v66=v209 ∧
(aB 3 (bG h197 3) h197 fun v210=>
(v65=v210 ∧
(aB 3 (bG h197 2) h197 fun v211=>
(v64=v211 ∧
(C Y70.id [v78,(AV.s l82)] h197 fun v212 h213=>
aC v79 h213 fun v214=>
asS v214 fun l215=>
((AV.s l81)=(AV.s l215) ∧
(aB 5 v26 h213 fun v216=>
(v77=v216 ∧
(aB 3 (bG h213 0) h213 fun v217=>
(v76=v217 ∧
(aB 5 v60 h213 fun v218=>
(v75=v218 ∧
(aC v72 h213 fun v219=>
asI .i64 v219 fun n220=>
((AV.i .i64 n74)=(AV.i .i64 n220) ∧
(aC v69 h213 fun v221=>
asI .i64 v221 fun n222=>
((AV.i .i64 n71)=(AV.i .i64 n222) ∧
(aB 3 (bG h213 0) h213 fun v223=>
(v68=v223 ∧
(aB 5 v48 h213 fun v224=>
(v67=v224 ∧
(aB 5 v26 h213 fun v225=>
(v66=v225 ∧
(aB 3 (bG h213 3) h213 fun v226=>
(v65=v226 ∧
(aB 3 (bG h213 2) h213 fun v227=>
(v64=v227 ∧
(aN 5 2 [(AV.i .i64 0),(AV.i .i64 0),(AV.b false),(AV.s []),(AV.sl none 0 none),(AV.i .i64 0),(AV.i .i64 0),(AV.b false),(AV.s []),(AV.sl none 0 none)] [(0,5,v77),(5,5,v212)] h213 fun v228 h229=>
aC v79 h229 fun v230=>
asS v230 fun l231=>
((AV.s l81)=(AV.s l231) ∧
(aB 3 (bG h229 1) h229 fun v232=>
(v78=v232 ∧
(aB 3 (bG h229 0) h229 fun v233=>
(v76=v233 ∧
(aB 5 v60 h229 fun v234=>
(v75=v234 ∧
(aC v72 h229 fun v235=>
asI .i64 v235 fun n236=>
((AV.i .i64 n74)=(AV.i .i64 n236) ∧
(aC v69 h229 fun v237=>
asI .i64 v237 fun n238=>
((AV.i .i64 n71)=(AV.i .i64 n238) ∧
(aB 3 (bG h229 0) h229 fun v239=>
(v68=v239 ∧
(aB 5 v48 h229 fun v240=>
(v67=v240 ∧
(aB 5 v26 h229 fun v241=>
(v66=v241 ∧
(aB 3 (bG h229 3) h229 fun v242=>
(v65=v242 ∧
(aB 3 (bG h229 2) h229 fun v243=>
(v64=v243 ∧
(C Y43.id [v76,v228] h229 fun v244 h245=>
aC v79 h245 fun v246=>
asS v246 fun l247=>
((AV.s l81)=(AV.s l247) ∧
(aB 3 (bG h245 1) h245 fun v248=>
(v78=v248 ∧
(aB 5 v26 h245 fun v249=>
(v77=v249 ∧
(aB 5 v60 h245 fun v250=>
(v75=v250 ∧
(aC v72 h245 fun v251=>
asI .i64 v251 fun n252=>
((AV.i .i64 n74)=(AV.i .i64 n252) ∧
(aC v69 h245 fun v253=>
asI .i64 v253 fun n254=>
((AV.i .i64 n71)=(AV.i .i64 n254) ∧
(aB 3 (bG h245 0) h245 fun v255=>
(v68=v255 ∧
(aB 5 v48 h245 fun v256=>
(v67=v256 ∧
(aB 5 v26 h245 fun v257=>
(v66=v257 ∧
(aB 3 (bG h245 3) h245 fun v258=>
(v65=v258 ∧
(aB 3 (bG h245 2) h245 fun v259=>
(v64=v259 ∧
(aN 5 7 [(AV.i .i64 0),(AV.i .i64 0),(AV.b false),(AV.s []),(AV.sl none 0 none),(AV.i .i64 0),(AV.i .i64 0),(AV.b false),(AV.s []),(AV.sl none 0 none),(AV.i .i64 0),(AV.i .i64 0),(AV.b false),(AV.s []),(AV.sl none 0 none),(AV.i .i64 0),(AV.i .i64 0),(AV.b false),(AV.s []),(AV.sl none 0 none),(AV.i .i64 0),(AV.i .i64 0),(AV.b false),(AV.s []),(AV.sl none 0 none),(AV.i .i64 0),(AV.i .i64 0),(AV.b false),(AV.s []),(AV.sl none 0 none),(AV.i .i64 0),(AV.i .i64 0),(AV.b false),(AV.s []),(AV.sl none 0 none)] [(0,5,v117),(5,5,v133),(10,5,v66),(15,5,v67),(20,5,v196),(25,5,v75),(30,5,v244)] h245 fun v260 h261=>
aC v79 h261 fun v262=>
asS v262 fun l263=>
((AV.s l81)=(AV.s l263) ∧
(aB 3 (bG h261 1) h261 fun v264=>
(v78=v264 ∧
(aB 5 v26 h261 fun v265=>
(v77=v265 ∧
(aB 3 (bG h261 0) h261 fun v266=>
(v76=v266 ∧
(aC v72 h261 fun v267=>
asI .i64 v267 fun n268=>
((AV.i .i64 n74)=(AV.i .i64 n268) ∧
(aC v69 h261 fun v269=>
asI .i64 v269 fun n270=>
((AV.i .i64 n71)=(AV.i .i64 n270) ∧
(aB 3 (bG h261 0) h261 fun v271=>
(v68=v271 ∧
(aB 3 (bG h261 3) h261 fun v272=>
(v65=v272 ∧
(aB 3 (bG h261 2) h261 fun v273=>
(v64=v273 ∧
(aD 5 v0 fun v276=>
aC v276 h261 fun v277=>
bP v277 fun n278=>
(bif (decide ((0:Int)<n278)) then
(aD 5 v0 fun v281=>
aC v281 h261 fun v282=>
bP v282 fun n283=>
J 1 [(1,v0),(7,v26),(14,v260),(15,(AV.sl none 0 none)),(16,(AV.sl none 0 none)),(89,v282),(90,(AV.i .i64 n283)),(91,(AV.i .i64 0))] h261)
else
(J 2 [(1,v0),(7,v26),(14,v260),(15,(AV.sl none 0 none))] h261))))))))))))))))))))))))))))))))))))))))))))))))))))))))))))))))))))))))))))))))))))))))))))))))))))))))))))))))))))))))))))))))))))))))))))))))))))))))))))))))))))))))))))))))))))))))))))))))))))))))))))))))))))))))))))))))))))))))))))))))))))))))))))))))))))))))))))))
theorem Y6.call {K x0 h} (H:Y6.t (aI h K) x0 h (Y6.J (aI h K))):C Y6.id [x0] h K:=
 gC Y6.J Tryz.func14 Y6.dist H
noncomputable def Y8.body:Code:=(Tryz.f15.body).getD .skip
def Y8.ann:Ann:=(sl [1] (sq [1] (sl [1,4] (sl [1,4,30] (.br (sl [2,3] lf) lf))) (sl [1,5] (sl [1,5,7] (sl [1,5,7,9] (sl [1,5,7,9,11] (sl [1,5,7,9,13] (.seq 1 [1,13,14] (.ord (.neu 3 (nn 5 4 (nn 10 2 (nn 15 5 (.eff 0 (.eff 1 (.neu 2 (.eff 4 (.eff 9 (.eff 12 (.eff 13 (.eff 14 (.eff 20 (.eff 21 (.eff 22 (.eff 23 (.neu 24 .done) .stop) .stop) .stop) .stop) .stop) .stop) .stop) .stop) .stop)) (.eff 4 (.eff 1 (.neu 2 (.eff 9 (.eff 12 (.eff 13 (.eff 14 (.eff 20 (.eff 21 (.eff 22 (.eff 23 (.neu 24 .done) .stop) .stop) .stop) .stop) .stop) .stop) .stop) .stop)) (.eff 9 (.eff 1 (.neu 2 (.eff 12 (.eff 13 (.eff 14 (.eff 20 (.eff 21 (.eff 22 (.eff 23 (.neu 24 .done) .stop) .stop) .stop) .stop) .stop) .stop) .stop)) (.eff 12 (.eff 1 (.neu 2 (.eff 13 (.eff 14 (.eff 20 (.eff 21 (.eff 22 (.eff 23 (.neu 24 .done) .stop) .stop) .stop) .stop) .stop) .stop)) (.eff 13 (.eff 1 (.neu 2 (.eff 14 (.eff 20 (.eff 21 (.eff 22 (.eff 23 (.neu 24 .done) .stop) .stop) .stop) .stop) .stop)) (.eff 14 (.eff 1 (.neu 2 (.eff 20 (.eff 21 (.eff 22 (.eff 23 (.neu 24 .done) .stop) .stop) .stop) .stop)) (.eff 20 (.eff 1 (.neu 2 (.eff 21 (.eff 22 (.eff 23 (.neu 24 .done) .stop) .stop) .stop)) (.eff 21 (.eff 1 (.neu 2 (.eff 22 (.eff 23 (.neu 24 .done) .stop) .stop)) (.eff 22 (.eff 1 (.neu 2 (.eff 23 (.neu 24 .done) .stop)) .stop) .stop)) .stop)) .stop)) .stop)) .stop)) .stop)) .stop)) .stop)) .stop)))))) (sl [1,13,14,15] (.seq 3 [1,13,14,15] (sl [1,13,14,15,84] (.br (sl [1,13,14,15,16] (sq [1,13,14,15,16] (sl [1,13,14,15,16,17] (.one (.loop 2 [1,13,14,15,16,17] (sq [1,13,14,15,16,17] (sl [1,13,14,15,16,17,89] bl) (sq [1,13,14,15,16,17] (.one lf) lf))))) (sl [1,13,14,15,18,19] (sq [1,13,14,15,18] (sl [1,13,14,15,18,19,108] (.br (sl [2,3] lf) lf)) (sl [1,13,14,15,18,20] (.ord (nn 0 3 (.eff 3 (.eff 4 (.eff 5 (.eff 6 (.eff 7 (.eff 8 .done .stop) .stop) .stop) .stop) .stop) .stop)))))))) lf)) (.seq 4 [1,13,14,15] (sl [1,13,14,15,123] (.br (sl [1,13,14,15,22] (sl [1,13,14,15,22,24] (.ord (nn 0 3 (.eff 3 (.eff 4 (.eff 5 (.eff 6 (.eff 7 (.eff 8 .done .stop) .stop) .stop) .stop) .stop) .stop))))) lf)) (.seq 5 [1,13,14] (sl [1,13,14,15,145] bl) (sl [13,14,26] (sq [2,3] (.ord (.neu 0 (nn 2 4 (.eff 1 (.eff 6 (.eff 7 (.eff 8 (.eff 9 (nn 10 4 .done) .stop) .stop) .stop) .stop) .stop)))) lf))))))))))))))
theorem Y8.dist:aT (places Y8.ann Y8.body)=true:=by kernel_rfl
noncomputable def Y8.J (Q:AV→aA→Prop):JT:=b4 prog C Tryz.f15 Y8.ann Y8.body Q
def Y8.p1 (Q:AV→aA→Prop) (x1 x13 x14 x15 x16:AV) (x17:Int) (h:aA):Prop:=Y8.J Q 2 [(1,x1),(13,x13),(14,x14),(15,x15),(16,x16),(17,(AV.i .i64 x17))] h
def Y8.p4 (Q:AV→aA→Prop) (x1 x13 x14:AV) (h:aA):Prop:=Y8.J Q 5 [(1,x1),(13,x13),(14,x14)] h
def Y8.p3 (Q:AV→aA→Prop) (x1 x13 x14 x15:AV) (h:aA):Prop:=Y8.J Q 4 [(1,x1),(13,x13),(14,x14),(15,x15)] h
def Y8.p2 (Q:AV→aA→Prop) (x1 x13 x14 x15:AV) (h:aA):Prop:=Y8.J Q 3 [(1,x1),(13,x13),(14,x14),(15,x15)] h
def Y8.p0 (Q:AV→aA→Prop) (x1 x13 x14:AV) (h:aA):Prop:=Y8.J Q 1 [(1,x1),(13,x13),(14,x14)] h
def Y8.t1 (Q:AV→aA→Prop) (x1 x13 x14 x15 x16:AV) (x17:Int) (h:aA) (J:JT):Prop:=
aD 5 x1 fun v809=>
aC v809 h fun v810=>
bP v810 fun n811=>
(bif (decide ((x17:Int)<n811)) then
(aD 5 x1 fun v815=>
aC v815 h fun v816=>
aE 1 v816 (AV.i .i64 x17) h fun v817=>
aC v817 h fun v818=>
asS v818 fun l819=>
C Y53.id [(AV.i .i64 2),(AV.i .i64 2),(AV.s l819)] h fun v820 h821=>
aN 5 1 [(AV.i .i64 0),(AV.i .i64 0),(AV.b false),(AV.s []),(AV.sl none 0 none)] [(0,5,v820)] h821 fun v822 h823=>
bN none 5 64 x16 v822 h823 fun v824 h825=>
aQ (IntKind.wrap .i64 (x17+1)) fun n827=>
J 2 [(1,x1),(13,x13),(14,x14),(15,x15),(16,v824),(17,(AV.i .i64 n827))] h825)
else
(C Y40.id [x16] h fun v829 h830=>
C Y77.id [v829] h830 fun v831 h832=>
aH 0 v831 fun v833=>
asS v833 fun l834=>
aH 1 v831 fun v835=>
asI .i64 v835 fun n836=>
(bif (!decide ((n836:Int)=0)) then
(Q (AV.tu [(AV.s []),(AV.i .i64 n836)]) h832)
else
(C Y3.id [(AV.s [50,46,53,46,50,57,46,49,55])] h832 fun v841 h842=>
aH 0 v841 fun v843=>
aH 1 v841 fun v844=>
asI .i64 v844 fun n845=>
bV (some 33) [(AV.i .i64 0),(AV.i .i64 0),(AV.b false),(AV.s []),(AV.sl none 0 none)] h842 fun v846 h847=>
aS 5 v846 v843 h847 fun h848=>
aB 5 v846 h848 fun v850=>
C Y53.id [(AV.i .i64 0),(AV.i .i64 4),(AV.s l834)] h848 fun v851 h852=>
aB 5 v846 h852 fun v853=>
(v850=v853 ∧
(aN 5 2 [(AV.i .i64 0),(AV.i .i64 0),(AV.b false),(AV.s []),(AV.sl none 0 none),(AV.i .i64 0),(AV.i .i64 0),(AV.b false),(AV.s []),(AV.sl none 0 none)] [(0,5,v850),(5,5,v851)] h852 fun v854 h855=>
C Y40.id [v854] h855 fun v856 h857=>
aB 5 v846 h857 fun v858=>
(v850=v858 ∧
(aN 5 1 [(AV.i .i64 0),(AV.i .i64 0),(AV.b false),(AV.s []),(AV.sl none 0 none)] [(0,5,v856)] h857 fun v859 h860=>
aB 5 v846 h860 fun v861=>
(v850=v861 ∧
(bN none 5 64 x15 v859 h860 fun v862 h863=>
aB 5 v846 h863 fun v864=>
(v850=v864 ∧
(J 3 [(1,x1),(13,x13),(14,x14),(15,v862)] h863))))))))))))
theorem Y8.i1 {Q x1 x13 x14 x15 x16 x17 h} (H:Y8.t1 Q x1 x13 x14 x15 x16 x17 h (Y8.J Q)):Y8.p1 Q x1 x13 x14 x15 x16 x17 h:=gH Y8.J Tryz.f15 Y8.dist [1,1,1,1,1,1,1,1,1,0,1,0,1,0,1,0] H
def Y8.t4 (Q:AV→aA→Prop) (x1 x13 x14:AV) (h:aA) (J:JT):Prop:=
aD 7 x1 fun v923=>
aC v923 h fun v924=>
asS v924 fun l925=>
eC l925 [0,0,0,0,0,0,0,0] fun l926=>
aB 5 x13 h fun v928=>
bW (AV.s l926) none (some (AV.i .i64 8)) fun l929=>
eC [0] l929 fun l930=>
C Y40.id [x14] h fun v931 h932=>
aB 5 x13 h932 fun v933=>
(v928=v933 ∧
(C Y53.id [(AV.i .i64 0),(AV.i .i64 3),(AV.s l930)] h932 fun v934 h935=>
aB 5 x13 h935 fun v936=>
(v928=v936 ∧
(aN 5 3 [(AV.i .i64 0),(AV.i .i64 0),(AV.b false),(AV.s []),(AV.sl none 0 none),(AV.i .i64 0),(AV.i .i64 0),(AV.b false),(AV.s []),(AV.sl none 0 none),(AV.i .i64 0),(AV.i .i64 0),(AV.b false),(AV.s []),(AV.sl none 0 none)] [(0,5,v931),(5,5,v928),(10,5,v934)] h935 fun v937 h938=>
C Y40.id [v937] h938 fun v939 h940=>
aB 5 x13 h940 fun v941=>
(v928=v941 ∧
(C Y77.id [v939] h940 fun v942 h943=>
aB 5 x13 h943 fun v944=>
(v928=v944 ∧
(aH 0 v942 fun v945=>
asS v945 fun l946=>
aH 1 v942 fun v947=>
asI .i64 v947 fun n948=>
Q (AV.tu [(AV.s l946),(AV.i .i64 n948)]) h943))))))))
theorem Y8.i4 {Q x1 x13 x14 h} (H:Y8.t4 Q x1 x13 x14 h (Y8.J Q)):Y8.p4 Q x1 x13 x14 h:=gR Y8.J Tryz.f15 Y8.dist [1,1,1,1,1,1,1,1,1,1,1,1] H
def Y8.t3 (Q:AV→aA→Prop) (x1 x13 x14 x15:AV) (h:aA) (J:JT):Prop:=
bP x15 fun n910=>
(bif (decide ((0:Int)<n910)) then
(C Y40.id [x15] h fun v912 h913=>
aN 5 1 [(AV.i .i64 0),(AV.i .i64 0),(AV.b false),(AV.s []),(AV.sl none 0 none)] [(0,5,v912)] h913 fun v914 h915=>
dO [(AV.i .i64 0),(AV.i .i64 0),(AV.b false),(AV.s []),(AV.sl none 0 none)] [(0,1,(AV.i .i64 2)),(1,1,(AV.i .i64 3)),(2,1,(AV.b true)),(4,1,v914)] fun v916=>
aN 5 1 [(AV.i .i64 0),(AV.i .i64 0),(AV.b false),(AV.s []),(AV.sl none 0 none)] [(0,5,v916)] h915 fun v917 h918=>
bN none 5 64 x14 v917 h918 fun v919 h920=>
J 5 [(1,x1),(13,x13),(14,v919)] h920)
else
(J 5 [(1,x1),(13,x13),(14,x14)] h))
theorem Y8.i3 {Q x1 x13 x14 x15 h} (H:Y8.t3 Q x1 x13 x14 x15 h (Y8.J Q)):Y8.p3 Q x1 x13 x14 x15 h:=gR Y8.J Tryz.f15 Y8.dist [1,1,1,1,1,1,1,1,1,1,1] H
def Y8.t2 (Q:AV→aA→Prop) (x1 x13 x14 x15:AV) (h:aA) (J:JT):Prop:=
aD 6 x1 fun v867=>
aC v867 h fun v868=>
asB v868 fun c869=>
(bif c869 then
(C Y53.id [(AV.i .i64 0),(AV.i .i64 1),(AV.s [255])] h fun v871 h872=>
aN 5 1 [(AV.i .i64 0),(AV.i .i64 0),(AV.b false),(AV.s []),(AV.sl none 0 none)] [(0,5,v871)] h872 fun v873 h874=>
C Y40.id [v873] h874 fun v875 h876=>
C Y77.id [v875] h876 fun v877 h878=>
aH 0 v877 fun v879=>
asS v879 fun l880=>
aH 1 v877 fun v881=>
asI .i64 v881 fun n882=>
C Y3.id [(AV.s [50,46,53,46,50,57,46,49,57])] h878 fun v884 h885=>
aH 0 v884 fun v886=>
aH 1 v884 fun v887=>
asI .i64 v887 fun n888=>
bV (some 33) [(AV.i .i64 0),(AV.i .i64 0),(AV.b false),(AV.s []),(AV.sl none 0 none)] h885 fun v889 h890=>
aS 5 v889 v886 h890 fun h891=>
aB 5 v889 h891 fun v893=>
C Y53.id [(AV.i .i64 0),(AV.i .i64 4),(AV.s l880)] h891 fun v894 h895=>
aB 5 v889 h895 fun v896=>
(v893=v896 ∧
(aN 5 2 [(AV.i .i64 0),(AV.i .i64 0),(AV.b false),(AV.s []),(AV.sl none 0 none),(AV.i .i64 0),(AV.i .i64 0),(AV.b false),(AV.s []),(AV.sl none 0 none)] [(0,5,v893),(5,5,v894)] h895 fun v897 h898=>
C Y40.id [v897] h898 fun v899 h900=>
aB 5 v889 h900 fun v901=>
(v893=v901 ∧
(aN 5 1 [(AV.i .i64 0),(AV.i .i64 0),(AV.b false),(AV.s []),(AV.sl none 0 none)] [(0,5,v899)] h900 fun v902 h903=>
aB 5 v889 h903 fun v904=>
(v893=v904 ∧
(bN none 5 64 x15 v902 h903 fun v905 h906=>
aB 5 v889 h906 fun v907=>
(v893=v907 ∧
(J 4 [(1,x1),(13,x13),(14,x14),(15,v905)] h906)))))))))
else
(J 4 [(1,x1),(13,x13),(14,x14),(15,x15)] h))
theorem Y8.i2 {Q x1 x13 x14 x15 h} (H:Y8.t2 Q x1 x13 x14 x15 h (Y8.J Q)):Y8.p2 Q x1 x13 x14 x15 h:=gR Y8.J Tryz.f15 Y8.dist [1,1,1,1,1,1,1,1,1,1] H
def Y8.t0 (Q:AV→aA→Prop) (x1 x13 x14:AV) (h:aA) (J:JT):Prop:=
aD 5 x1 fun v803=>
aC v803 h fun v804=>
bP v804 fun n805=>
(bif (decide ((0:Int)<n805)) then
(J 2 [(1,x1),(13,x13),(14,x14),(15,(AV.sl none 0 none)),(16,(AV.sl none 0 none)),(17,(AV.i .i64 0))] h)
else
(J 3 [(1,x1),(13,x13),(14,x14),(15,(AV.sl none 0 none))] h))
theorem Y8.i0 {Q x1 x13 x14 h} (H:Y8.t0 Q x1 x13 x14 h (Y8.J Q)):Y8.p0 Q x1 x13 x14 h:=gR Y8.J Tryz.f15 Y8.dist [1,1,1,1,1,1,1,1] H
def Y8.t (Q:AV→aA→Prop) (x0:AV) (h:aA) (J:JT):Prop:=
eH (some 25) x0 h fun v0 h1=>
aB 8 v0 h1 fun v3=>
C Y27.id [v3] h1 fun v4 h5=>
asI .i64 v4 fun n6=>
(bif (!decide ((n6:Int)=0)) then
(Q (AV.tu [(AV.s []),(AV.i .i64 n6)]) h5)
else
(aD 0 v0 fun v11=>
aC v11 h5 fun v12=>
asS v12 fun l13=>
C Y15.id [(AV.s l13)] h5 fun v14 h15=>
aH 0 v14 fun v16=>
asS v16 fun l17=>
aH 1 v14 fun v18=>
asB v18 fun c19=>
aD 1 v0 fun v21=>
aC v21 h15 fun v22=>
asS v22 fun l23=>
C Y42.id [(AV.s l23)] h15 fun v24 h25=>
aH 0 v24 fun v26=>
aH 1 v24 fun v27=>
asI .i64 v27 fun n28=>
bV (some 33) [(AV.i .i64 0),(AV.i .i64 0),(AV.b false),(AV.s []),(AV.sl none 0 none)] h25 fun v29 h30=>
aS 5 v29 v26 h30 fun h31=>
aD 2 v0 fun v33=>
aC v33 h31 fun v34=>
asS v34 fun l35=>
C Y42.id [(AV.s l35)] h31 fun v36 h37=>
aH 0 v36 fun v38=>
aH 1 v36 fun v39=>
asI .i64 v39 fun n40=>
bV (some 33) [(AV.i .i64 0),(AV.i .i64 0),(AV.b false),(AV.s []),(AV.sl none 0 none)] h37 fun v41 h42=>
aS 5 v41 v38 h42 fun h43=>
C Y3.id [(AV.s [49,46,50,46,56,52,48,46,49,48,48,52,53,46,52,46,51,46,50])] h43 fun v45 h46=>
aH 0 v45 fun v47=>
aH 1 v45 fun v48=>
asI .i64 v48 fun n49=>
bV (some 33) [(AV.i .i64 0),(AV.i .i64 0),(AV.b false),(AV.s []),(AV.sl none 0 none)] h46 fun v50 h51=>
aS 5 v50 v47 h51 fun h52=>
aB 5 v50 h52 fun v54=>
aN 5 1 [(AV.i .i64 0),(AV.i .i64 0),(AV.b false),(AV.s []),(AV.sl none 0 none)] [(0,5,v54)] h52 fun v55 h56=>
C Y40.id [v55] h56 fun v57 h58=>
bV (some 33) [(AV.i .i64 0),(AV.i .i64 0),(AV.b false),(AV.s []),(AV.sl none 0 none)] h58 fun v59 h60=>
aS 5 v59 v57 h60 fun h61=>
aB 5 v59 h61 fun v63=>
aB 5 v29 h61 fun v64=>
aD 3 v0 fun v65=>
aC v65 h61 fun v66=>
asI .i64 v66 fun n67=>
aD 4 v0 fun v68=>
aC v68 h61 fun v69=>
asI .i64 v69 fun n70=>
aB 5 v41 h61 fun v71=>
aB 5 v59 h61 fun v72=>
aD 7 v0 fun v73=>
aC v73 h61 fun v74=>
asS v74 fun l75=>
eC [0] l75 fun l76=>
C Y14.id [(AV.i .i64 2)] h61 fun v77 h78=>
aC v73 h78 fun v79=>
asS v79 fun l80=>
((AV.s l75)=(AV.s l80) ∧
(aB 5 v59 h78 fun v81=>
(v72=v81 ∧
(aB 5 v41 h78 fun v82=>
(v71=v82 ∧
(aC v68 h78 fun v83=>
asI .i64 v83 fun n84=>
((AV.i .i64 n70)=(AV.i .i64 n84) ∧
(aC v65 h78 fun v85=>
asI .i64 v85 fun n86=>
((AV.i .i64 n67)=(AV.i .i64 n86) ∧
(aB 5 v29 h78 fun v87=>
(v64=v87 ∧
(aB 5 v59 h78 fun v88=>
(v63=v88 ∧
(((aN 5 1 [(AV.i .i64 0),(AV.i .i64 0),(AV.b false),(AV.s []),(AV.sl none 0 none)] [(0,5,v77)] h78 fun v89 h90=>
aC v73 h90 fun v91=>
asS v91 fun l92=>
((AV.s l75)=(AV.s l92) ∧
(aB 5 v59 h90 fun v93=>
(v72=v93 ∧
(aB 5 v41 h90 fun v94=>
(v71=v94 ∧
(aC v68 h90 fun v95=>
asI .i64 v95 fun n96=>
((AV.i .i64 n70)=(AV.i .i64 n96) ∧
(aC v65 h90 fun v97=>
asI .i64 v97 fun n98=>
((AV.i .i64 n67)=(AV.i .i64 n98) ∧
(aB 5 v29 h90 fun v99=>
(v64=v99 ∧
(aB 5 v59 h90 fun v100=>
(v63=v100 ∧
(dO [(AV.i .i64 0),(AV.i .i64 0),(AV.b false),(AV.s []),(AV.sl none 0 none)] [(0,1,(AV.i .i64 2)),(1,1,(AV.i .i64 0)),(2,1,(AV.b true)),(4,1,v89)] fun v101=>
C Y53.id [(AV.i .i64 0),(AV.i .i64 2),(AV.s l17)] h90 fun v102 h103=>
aC v73 h103 fun v104=>
asS v104 fun l105=>
((AV.s l75)=(AV.s l105) ∧
(aB 5 v59 h103 fun v106=>
(v72=v106 ∧
(aB 5 v41 h103 fun v107=>
(v71=v107 ∧
(aC v68 h103 fun v108=>
asI .i64 v108 fun n109=>
((AV.i .i64 n70)=(AV.i .i64 n109) ∧
(aC v65 h103 fun v110=>
asI .i64 v110 fun n111=>
((AV.i .i64 n67)=(AV.i .i64 n111) ∧
(aB 5 v29 h103 fun v112=>
(v64=v112 ∧
(aB 5 v59 h103 fun v113=>
(v63=v113 ∧
(C Y9.id [(AV.i .i64 n67)] h103 fun v114 h115=>
aC v73 h115 fun v116=>
asS v116 fun l117=>
((AV.s l75)=(AV.s l117) ∧
(aB 5 v59 h115 fun v118=>
(v72=v118 ∧
(aB 5 v41 h115 fun v119=>
(v71=v119 ∧
(aC v68 h115 fun v120=>
asI .i64 v120 fun n121=>
((AV.i .i64 n70)=(AV.i .i64 n121) ∧
(aB 5 v29 h115 fun v122=>
(v64=v122 ∧
(aB 5 v59 h115 fun v123=>
(v63=v123 ∧
(C Y9.id [(AV.i .i64 n70)] h115 fun v124 h125=>
aC v73 h125 fun v126=>
asS v126 fun l127=>
((AV.s l75)=(AV.s l127) ∧
(aB 5 v59 h125 fun v128=>
(v72=v128 ∧
(aB 5 v41 h125 fun v129=>
(v71=v129 ∧
(aC v65 h125 fun v130=>
asI .i64 v130 fun n131=>
((AV.i .i64 n67)=(AV.i .i64 n131) ∧
(aB 5 v29 h125 fun v132=>
(v64=v132 ∧
(aB 5 v59 h125 fun v133=>
(v63=v133 ∧
(aN 5 2 [(AV.i .i64 0),(AV.i .i64 0),(AV.b false),(AV.s []),(AV.sl none 0 none),(AV.i .i64 0),(AV.i .i64 0),(AV.b false),(AV.s []),(AV.sl none 0 none)] [(0,5,v114),(5,5,v124)] h125 fun v134 h135=>
aC v73 h135 fun v136=>
asS v136 fun l137=>
((AV.s l75)=(AV.s l137) ∧
(aB 5 v59 h135 fun v138=>
(v72=v138 ∧
(aB 5 v41 h135 fun v139=>
(v71=v139 ∧
(aC v68 h135 fun v140=>
asI .i64 v140 fun n141=>
((AV.i .i64 n70)=(AV.i .i64 n141) ∧
(aC v65 h135 fun v142=>
asI .i64 v142 fun n143=>
((AV.i .i64 n67)=(AV.i .i64 n143) ∧
(aB 5 v29 h135 fun v144=>
(v64=v144 ∧
(aB 5 v59 h135 fun v145=>
(v63=v145 ∧
(C Y40.id [v134] h135 fun v146 h147=>
aC v73 h147 fun v148=>
asS v148 fun l149=>
((AV.s l75)=(AV.s l149) ∧
(aB 5 v59 h147 fun v150=>
(v72=v150 ∧
(aB 5 v41 h147 fun v151=>
(v71=v151 ∧
(aC v68 h147 fun v152=>
asI .i64 v152 fun n153=>
((AV.i .i64 n70)=(AV.i .i64 n153) ∧
(aC v65 h147 fun v154=>
asI .i64 v154 fun n155=>
((AV.i .i64 n67)=(AV.i .i64 n155) ∧
(aB 5 v29 h147 fun v156=>
(v64=v156 ∧
(aB 5 v59 h147 fun v157=>
(v63=v157 ∧
(C Y53.id [(AV.i .i64 0),(AV.i .i64 3),(AV.s l76)] h147 fun v158 h159=>
aC v73 h159 fun v160=>
asS v160 fun l161=>
((AV.s l75)=(AV.s l161) ∧
(aB 5 v59 h159 fun v162=>
(v72=v162 ∧
(aB 5 v41 h159 fun v163=>
(v71=v163 ∧
(aC v68 h159 fun v164=>
asI .i64 v164 fun n165=>
((AV.i .i64 n70)=(AV.i .i64 n165) ∧
(aC v65 h159 fun v166=>
asI .i64 v166 fun n167=>
((AV.i .i64 n67)=(AV.i .i64 n167) ∧
(aB 5 v29 h159 fun v168=>
(v64=v168 ∧
(aB 5 v59 h159 fun v169=>
(v63=v169 ∧
(aN 5 2 [(AV.i .i64 0),(AV.i .i64 0),(AV.b false),(AV.s []),(AV.sl none 0 none),(AV.i .i64 0),(AV.i .i64 0),(AV.b false),(AV.s []),(AV.sl none 0 none)] [(0,5,v72),(5,5,v158)] h159 fun v170 h171=>
aC v73 h171 fun v172=>
asS v172 fun l173=>
((AV.s l75)=(AV.s l173) ∧
(aB 5 v41 h171 fun v174=>
(v71=v174 ∧
(aC v68 h171 fun v175=>
asI .i64 v175 fun n176=>
((AV.i .i64 n70)=(AV.i .i64 n176) ∧
(aC v65 h171 fun v177=>
asI .i64 v177 fun n178=>
((AV.i .i64 n67)=(AV.i .i64 n178) ∧
(aB 5 v29 h171 fun v179=>
(v64=v179 ∧
(aB 5 v59 h171 fun v180=>
(v63=v180 ∧
(C Y40.id [v170] h171 fun v181 h182=>
aC v73 h182 fun v183=>
asS v183 fun l184=>
((AV.s l75)=(AV.s l184) ∧
(aB 5 v59 h182 fun v185=>
(v72=v185 ∧
(aB 5 v41 h182 fun v186=>
(v71=v186 ∧
(aC v68 h182 fun v187=>
asI .i64 v187 fun n188=>
((AV.i .i64 n70)=(AV.i .i64 n188) ∧
(aC v65 h182 fun v189=>
asI .i64 v189 fun n190=>
((AV.i .i64 n67)=(AV.i .i64 n190) ∧
(aB 5 v29 h182 fun v191=>
(v64=v191 ∧
(aB 5 v59 h182 fun v192=>
(v63=v192 ∧
(aN 5 7 [(AV.i .i64 0),(AV.i .i64 0),(AV.b false),(AV.s []),(AV.sl none 0 none),(AV.i .i64 0),(AV.i .i64 0),(AV.b false),(AV.s []),(AV.sl none 0 none),(AV.i .i64 0),(AV.i .i64 0),(AV.b false),(AV.s []),(AV.sl none 0 none),(AV.i .i64 0),(AV.i .i64 0),(AV.b false),(AV.s []),(AV.sl none 0 none),(AV.i .i64 0),(AV.i .i64 0),(AV.b false),(AV.s []),(AV.sl none 0 none),(AV.i .i64 0),(AV.i .i64 0),(AV.b false),(AV.s []),(AV.sl none 0 none),(AV.i .i64 0),(AV.i .i64 0),(AV.b false),(AV.s []),(AV.sl none 0 none)] [(0,5,v101),(5,5,v102),(10,5,v63),(15,5,v64),(20,5,v146),(25,5,v71),(30,5,v181)] h182 fun v193 h194=>
aC v73 h194 fun v195=>
asS v195 fun l196=>
((AV.s l75)=(AV.s l196) ∧
(aB 5 v59 h194 fun v197=>
(v72=v197 ∧
(aC v68 h194 fun v198=>
asI .i64 v198 fun n199=>
((AV.i .i64 n70)=(AV.i .i64 n199) ∧
(aC v65 h194 fun v200=>
asI .i64 v200 fun n201=>
((AV.i .i64 n67)=(AV.i .i64 n201) ∧
(J 1 [(1,v0),(13,v59),(14,v193)] h194))))))))))))))))))))))))))))))))))))))))))))))))))))))))))))))))))))))))))))))))))))))))))))))))))))))))))))))))))))))))))))))))) ∧
(C Y53.id [(AV.i .i64 0),(AV.i .i64 2),(AV.s l17)] h78 fun v203 h204=>
aC v73 h204 fun v205=>
asS v205 fun l206=>
((AV.s l75)=(AV.s l206) ∧
(aB 5 v59 h204 fun v207=>
(v72=v207 ∧
(aB 5 v41 h204 fun v208=>
(v71=v208 ∧
(aC v68 h204 fun v209=>
asI .i64 v209 fun n210=>
((AV.i .i64 n70)=(AV.i .i64 n210) ∧
(aC v65 h204 fun v211=>
asI .i64 v211 fun n212=>
((AV.i .i64 n67)=(AV.i .i64 n212) ∧
(aB 5 v29 h204 fun v213=>
(v64=v213 ∧
(aB 5 v59 h204 fun v214=>
(v63=v214 ∧
(((aN 5 1 [(AV.i .i64 0),(AV.i .i64 0),(AV.b false),(AV.s []),(AV.sl none 0 none)] [(0,5,v77)] h204 fun v215 h216=>
aC v73 h216 fun v217=>
asS v217 fun l218=>
((AV.s l75)=(AV.s l218) ∧
(aB 5 v59 h216 fun v219=>
(v72=v219 ∧
(aB 5 v41 h216 fun v220=>
(v71=v220 ∧
(aC v68 h216 fun v221=>
asI .i64 v221 fun n222=>
((AV.i .i64 n70)=(AV.i .i64 n222) ∧
(aC v65 h216 fun v223=>
asI .i64 v223 fun n224=>
((AV.i .i64 n67)=(AV.i .i64 n224) ∧
(aB 5 v29 h216 fun v225=>
(v64=v225 ∧
(aB 5 v59 h216 fun v226=>
(v63=v226 ∧
(dO [(AV.i .i64 0),(AV.i .i64 0),(AV.b false),(AV.s []),(AV.sl none 0 none)] [(0,1,(AV.i .i64 2)),(1,1,(AV.i .i64 0)),(2,1,(AV.b true)),(4,1,v215)] fun v227=>
C Y9.id [(AV.i .i64 n67)] h216 fun v228 h229=>
aC v73 h229 fun v230=>
asS v230 fun l231=>
((AV.s l75)=(AV.s l231) ∧
(aB 5 v59 h229 fun v232=>
(v72=v232 ∧
(aB 5 v41 h229 fun v233=>
(v71=v233 ∧
(aC v68 h229 fun v234=>
asI .i64 v234 fun n235=>
((AV.i .i64 n70)=(AV.i .i64 n235) ∧
(aB 5 v29 h229 fun v236=>
(v64=v236 ∧
(aB 5 v59 h229 fun v237=>
(v63=v237 ∧
(C Y9.id [(AV.i .i64 n70)] h229 fun v238 h239=>
aC v73 h239 fun v240=>
asS v240 fun l241=>
((AV.s l75)=(AV.s l241) ∧
(aB 5 v59 h239 fun v242=>
(v72=v242 ∧
(aB 5 v41 h239 fun v243=>
(v71=v243 ∧
(aC v65 h239 fun v244=>
asI .i64 v244 fun n245=>
((AV.i .i64 n67)=(AV.i .i64 n245) ∧
(aB 5 v29 h239 fun v246=>
(v64=v246 ∧
(aB 5 v59 h239 fun v247=>
(v63=v247 ∧
(aN 5 2 [(AV.i .i64 0),(AV.i .i64 0),(AV.b false),(AV.s []),(AV.sl none 0 none),(AV.i .i64 0),(AV.i .i64 0),(AV.b false),(AV.s []),(AV.sl none 0 none)] [(0,5,v228),(5,5,v238)] h239 fun v248 h249=>
aC v73 h249 fun v250=>
asS v250 fun l251=>
((AV.s l75)=(AV.s l251) ∧
(aB 5 v59 h249 fun v252=>
(v72=v252 ∧
(aB 5 v41 h249 fun v253=>
(v71=v253 ∧
(aC v68 h249 fun v254=>
asI .i64 v254 fun n255=>
((AV.i .i64 n70)=(AV.i .i64 n255) ∧
(aC v65 h249 fun v256=>
asI .i64 v256 fun n257=>
((AV.i .i64 n67)=(AV.i .i64 n257) ∧
(aB 5 v29 h249 fun v258=>
(v64=v258 ∧
(aB 5 v59 h249 fun v259=>
(v63=v259 ∧
(C Y40.id [v248] h249 fun v260 h261=>
aC v73 h261 fun v262=>
asS v262 fun l263=>
((AV.s l75)=(AV.s l263) ∧
(aB 5 v59 h261 fun v264=>
(v72=v264 ∧
(aB 5 v41 h261 fun v265=>
(v71=v265 ∧
(aC v68 h261 fun v266=>
asI .i64 v266 fun n267=>
((AV.i .i64 n70)=(AV.i .i64 n267) ∧
(aC v65 h261 fun v268=>
asI .i64 v268 fun n269=>
((AV.i .i64 n67)=(AV.i .i64 n269) ∧
(aB 5 v29 h261 fun v270=>
(v64=v270 ∧
(aB 5 v59 h261 fun v271=>
(v63=v271 ∧
(C Y53.id [(AV.i .i64 0),(AV.i .i64 3),(AV.s l76)] h261 fun v272 h273=>
aC v73 h273 fun v274=>
asS v274 fun l275=>
((AV.s l75)=(AV.s l275) ∧
(aB 5 v59 h273 fun v276=>
(v72=v276 ∧
(aB 5 v41 h273 fun v277=>
(v71=v277 ∧
(aC v68 h273 fun v278=>
asI .i64 v278 fun n279=>
((AV.i .i64 n70)=(AV.i .i64 n279) ∧
(aC v65 h273 fun v280=>
asI .i64 v280 fun n281=>
((AV.i .i64 n67)=(AV.i .i64 n281) ∧
(aB 5 v29 h273 fun v282=>
(v64=v282 ∧
(aB 5 v59 h273 fun v283=>
(v63=v283 ∧
(aN 5 2 [(AV.i .i64 0),(AV.i .i64 0),(AV.b false),(AV.s []),(AV.sl none 0 none),(AV.i .i64 0),(AV.i .i64 0),(AV.b false),(AV.s []),(AV.sl none 0 none)] [(0,5,v72),(5,5,v272)] h273 fun v284 h285=>
aC v73 h285 fun v286=>
asS v286 fun l287=>
((AV.s l75)=(AV.s l287) ∧
(aB 5 v41 h285 fun v288=>
(v71=v288 ∧
(aC v68 h285 fun v289=>
asI .i64 v289 fun n290=>
((AV.i .i64 n70)=(AV.i .i64 n290) ∧
(aC v65 h285 fun v291=>
asI .i64 v291 fun n292=>
((AV.i .i64 n67)=(AV.i .i64 n292) ∧
(aB 5 v29 h285 fun v293=>
(v64=v293 ∧
(aB 5 v59 h285 fun v294=>
(v63=v294 ∧
(C Y40.id [v284] h285 fun v295 h296=>
aC v73 h296 fun v297=>
asS v297 fun l298=>
((AV.s l75)=(AV.s l298) ∧
(aB 5 v59 h296 fun v299=>
(v72=v299 ∧
(aB 5 v41 h296 fun v300=>
(v71=v300 ∧
(aC v68 h296 fun v301=>
asI .i64 v301 fun n302=>
((AV.i .i64 n70)=(AV.i .i64 n302) ∧
(aC v65 h296 fun v303=>
asI .i64 v303 fun n304=>
((AV.i .i64 n67)=(AV.i .i64 n304) ∧
(aB 5 v29 h296 fun v305=>
(v64=v305 ∧
(aB 5 v59 h296 fun v306=>
(v63=v306 ∧
(aN 5 7 [(AV.i .i64 0),(AV.i .i64 0),(AV.b false),(AV.s []),(AV.sl none 0 none),(AV.i .i64 0),(AV.i .i64 0),(AV.b false),(AV.s []),(AV.sl none 0 none),(AV.i .i64 0),(AV.i .i64 0),(AV.b false),(AV.s []),(AV.sl none 0 none),(AV.i .i64 0),(AV.i .i64 0),(AV.b false),(AV.s []),(AV.sl none 0 none),(AV.i .i64 0),(AV.i .i64 0),(AV.b false),(AV.s []),(AV.sl none 0 none),(AV.i .i64 0),(AV.i .i64 0),(AV.b false),(AV.s []),(AV.sl none 0 none),(AV.i .i64 0),(AV.i .i64 0),(AV.b false),(AV.s []),(AV.sl none 0 none)] [(0,5,v227),(5,5,v203),(10,5,v63),(15,5,v64),(20,5,v260),(25,5,v71),(30,5,v295)] h296 fun v307 h308=>
aC v73 h308 fun v309=>
asS v309 fun l310=>
((AV.s l75)=(AV.s l310) ∧
(aB 5 v59 h308 fun v311=>
(v72=v311 ∧
(aC v68 h308 fun v312=>
asI .i64 v312 fun n313=>
((AV.i .i64 n70)=(AV.i .i64 n313) ∧
(aC v65 h308 fun v314=>
asI .i64 v314 fun n315=>
((AV.i .i64 n67)=(AV.i .i64 n315) ∧
(J 1 [(1,v0),(13,v59),(14,v307)] h308))))))))))))))))))))))))))))))))))))))))))))))))))))))))))))))))))))))))))))))))))))))))))))))))))))))))))))))))))) ∧
(C Y9.id [(AV.i .i64 n67)] h204 fun v317 h318=>
aC v73 h318 fun v319=>
asS v319 fun l320=>
((AV.s l75)=(AV.s l320) ∧
(aB 5 v59 h318 fun v321=>
(v72=v321 ∧
(aB 5 v41 h318 fun v322=>
(v71=v322 ∧
(aC v68 h318 fun v323=>
asI .i64 v323 fun n324=>
((AV.i .i64 n70)=(AV.i .i64 n324) ∧
(aB 5 v29 h318 fun v325=>
(v64=v325 ∧
(aB 5 v59 h318 fun v326=>
(v63=v326 ∧
(((aN 5 1 [(AV.i .i64 0),(AV.i .i64 0),(AV.b false),(AV.s []),(AV.sl none 0 none)] [(0,5,v77)] h318 fun v327 h328=>
aC v73 h328 fun v329=>
asS v329 fun l330=>
((AV.s l75)=(AV.s l330) ∧
(aB 5 v59 h328 fun v331=>
(v72=v331 ∧
(aB 5 v41 h328 fun v332=>
(v71=v332 ∧
(aC v68 h328 fun v333=>
asI .i64 v333 fun n334=>
((AV.i .i64 n70)=(AV.i .i64 n334) ∧
(aC v65 h328 fun v335=>
asI .i64 v335 fun n336=>
((AV.i .i64 n67)=(AV.i .i64 n336) ∧
(aB 5 v29 h328 fun v337=>
(v64=v337 ∧
(aB 5 v59 h328 fun v338=>
(v63=v338 ∧
(dO [(AV.i .i64 0),(AV.i .i64 0),(AV.b false),(AV.s []),(AV.sl none 0 none)] [(0,1,(AV.i .i64 2)),(1,1,(AV.i .i64 0)),(2,1,(AV.b true)),(4,1,v327)] fun v339=>
C Y9.id [(AV.i .i64 n70)] h328 fun v340 h341=>
aC v73 h341 fun v342=>
asS v342 fun l343=>
((AV.s l75)=(AV.s l343) ∧
(aB 5 v59 h341 fun v344=>
(v72=v344 ∧
(aB 5 v41 h341 fun v345=>
(v71=v345 ∧
(aC v65 h341 fun v346=>
asI .i64 v346 fun n347=>
((AV.i .i64 n67)=(AV.i .i64 n347) ∧
(aB 5 v29 h341 fun v348=>
(v64=v348 ∧
(aB 5 v59 h341 fun v349=>
(v63=v349 ∧
(aN 5 2 [(AV.i .i64 0),(AV.i .i64 0),(AV.b false),(AV.s []),(AV.sl none 0 none),(AV.i .i64 0),(AV.i .i64 0),(AV.b false),(AV.s []),(AV.sl none 0 none)] [(0,5,v317),(5,5,v340)] h341 fun v350 h351=>
aC v73 h351 fun v352=>
asS v352 fun l353=>
((AV.s l75)=(AV.s l353) ∧
(aB 5 v59 h351 fun v354=>
(v72=v354 ∧
(aB 5 v41 h351 fun v355=>
(v71=v355 ∧
(aC v68 h351 fun v356=>
asI .i64 v356 fun n357=>
((AV.i .i64 n70)=(AV.i .i64 n357) ∧
(aC v65 h351 fun v358=>
asI .i64 v358 fun n359=>
((AV.i .i64 n67)=(AV.i .i64 n359) ∧
(aB 5 v29 h351 fun v360=>
(v64=v360 ∧
(aB 5 v59 h351 fun v361=>
(v63=v361 ∧
(C Y40.id [v350] h351 fun v362 h363=>
aC v73 h363 fun v364=>
asS v364 fun l365=>
((AV.s l75)=(AV.s l365) ∧
(aB 5 v59 h363 fun v366=>
(v72=v366 ∧
(aB 5 v41 h363 fun v367=>
(v71=v367 ∧
(aC v68 h363 fun v368=>
asI .i64 v368 fun n369=>
((AV.i .i64 n70)=(AV.i .i64 n369) ∧
(aC v65 h363 fun v370=>
asI .i64 v370 fun n371=>
((AV.i .i64 n67)=(AV.i .i64 n371) ∧
(aB 5 v29 h363 fun v372=>
(v64=v372 ∧
(aB 5 v59 h363 fun v373=>
(v63=v373 ∧
(C Y53.id [(AV.i .i64 0),(AV.i .i64 3),(AV.s l76)] h363 fun v374 h375=>
aC v73 h375 fun v376=>
asS v376 fun l377=>
((AV.s l75)=(AV.s l377) ∧
(aB 5 v59 h375 fun v378=>
(v72=v378 ∧
(aB 5 v41 h375 fun v379=>
(v71=v379 ∧
(aC v68 h375 fun v380=>
asI .i64 v380 fun n381=>
((AV.i .i64 n70)=(AV.i .i64 n381) ∧
(aC v65 h375 fun v382=>
asI .i64 v382 fun n383=>
((AV.i .i64 n67)=(AV.i .i64 n383) ∧
(aB 5 v29 h375 fun v384=>
(v64=v384 ∧
(aB 5 v59 h375 fun v385=>
(v63=v385 ∧
(aN 5 2 [(AV.i .i64 0),(AV.i .i64 0),(AV.b false),(AV.s []),(AV.sl none 0 none),(AV.i .i64 0),(AV.i .i64 0),(AV.b false),(AV.s []),(AV.sl none 0 none)] [(0,5,v72),(5,5,v374)] h375 fun v386 h387=>
aC v73 h387 fun v388=>
asS v388 fun l389=>
((AV.s l75)=(AV.s l389) ∧
(aB 5 v41 h387 fun v390=>
(v71=v390 ∧
(aC v68 h387 fun v391=>
asI .i64 v391 fun n392=>
((AV.i .i64 n70)=(AV.i .i64 n392) ∧
(aC v65 h387 fun v393=>
asI .i64 v393 fun n394=>
((AV.i .i64 n67)=(AV.i .i64 n394) ∧
(aB 5 v29 h387 fun v395=>
(v64=v395 ∧
(aB 5 v59 h387 fun v396=>
(v63=v396 ∧
(C Y40.id [v386] h387 fun v397 h398=>
aC v73 h398 fun v399=>
asS v399 fun l400=>
((AV.s l75)=(AV.s l400) ∧
(aB 5 v59 h398 fun v401=>
(v72=v401 ∧
(aB 5 v41 h398 fun v402=>
(v71=v402 ∧
(aC v68 h398 fun v403=>
asI .i64 v403 fun n404=>
((AV.i .i64 n70)=(AV.i .i64 n404) ∧
(aC v65 h398 fun v405=>
asI .i64 v405 fun n406=>
((AV.i .i64 n67)=(AV.i .i64 n406) ∧
(aB 5 v29 h398 fun v407=>
(v64=v407 ∧
(aB 5 v59 h398 fun v408=>
(v63=v408 ∧
(aN 5 7 [(AV.i .i64 0),(AV.i .i64 0),(AV.b false),(AV.s []),(AV.sl none 0 none),(AV.i .i64 0),(AV.i .i64 0),(AV.b false),(AV.s []),(AV.sl none 0 none),(AV.i .i64 0),(AV.i .i64 0),(AV.b false),(AV.s []),(AV.sl none 0 none),(AV.i .i64 0),(AV.i .i64 0),(AV.b false),(AV.s []),(AV.sl none 0 none),(AV.i .i64 0),(AV.i .i64 0),(AV.b false),(AV.s []),(AV.sl none 0 none),(AV.i .i64 0),(AV.i .i64 0),(AV.b false),(AV.s []),(AV.sl none 0 none),(AV.i .i64 0),(AV.i .i64 0),(AV.b false),(AV.s []),(AV.sl none 0 none)] [(0,5,v339),(5,5,v203),(10,5,v63),(15,5,v64),(20,5,v362),(25,5,v71),(30,5,v397)] h398 fun v409 h410=>
aC v73 h410 fun v411=>
asS v411 fun l412=>
((AV.s l75)=(AV.s l412) ∧
(aB 5 v59 h410 fun v413=>
(v72=v413 ∧
(aC v68 h410 fun v414=>
asI .i64 v414 fun n415=>
((AV.i .i64 n70)=(AV.i .i64 n415) ∧
(aC v65 h410 fun v416=>
asI .i64 v416 fun n417=>
((AV.i .i64 n67)=(AV.i .i64 n417) ∧
(J 1 [(1,v0),(13,v59),(14,v409)] h410))))))))))))))))))))))))))))))))))))))))))))))))))))))))))))))))))))))))))))))))))))))))))))))))))))))) ∧
(C Y9.id [(AV.i .i64 n70)] h318 fun v419 h420=>
aC v73 h420 fun v421=>
asS v421 fun l422=>
((AV.s l75)=(AV.s l422) ∧
(aB 5 v59 h420 fun v423=>
(v72=v423 ∧
(aB 5 v41 h420 fun v424=>
(v71=v424 ∧
(aC v65 h420 fun v425=>
asI .i64 v425 fun n426=>
((AV.i .i64 n67)=(AV.i .i64 n426) ∧
(aB 5 v29 h420 fun v427=>
(v64=v427 ∧
(aB 5 v59 h420 fun v428=>
(v63=v428 ∧
(((aN 5 1 [(AV.i .i64 0),(AV.i .i64 0),(AV.b false),(AV.s []),(AV.sl none 0 none)] [(0,5,v77)] h420 fun v429 h430=>
aC v73 h430 fun v431=>
asS v431 fun l432=>
((AV.s l75)=(AV.s l432) ∧
(aB 5 v59 h430 fun v433=>
(v72=v433 ∧
(aB 5 v41 h430 fun v434=>
(v71=v434 ∧
(aC v68 h430 fun v435=>
asI .i64 v435 fun n436=>
((AV.i .i64 n70)=(AV.i .i64 n436) ∧
(aC v65 h430 fun v437=>
asI .i64 v437 fun n438=>
((AV.i .i64 n67)=(AV.i .i64 n438) ∧
(aB 5 v29 h430 fun v439=>
(v64=v439 ∧
(aB 5 v59 h430 fun v440=>
(v63=v440 ∧
(dO [(AV.i .i64 0),(AV.i .i64 0),(AV.b false),(AV.s []),(AV.sl none 0 none)] [(0,1,(AV.i .i64 2)),(1,1,(AV.i .i64 0)),(2,1,(AV.b true)),(4,1,v429)] fun v441=>
aN 5 2 [(AV.i .i64 0),(AV.i .i64 0),(AV.b false),(AV.s []),(AV.sl none 0 none),(AV.i .i64 0),(AV.i .i64 0),(AV.b false),(AV.s []),(AV.sl none 0 none)] [(0,5,v317),(5,5,v419)] h430 fun v442 h443=>
aC v73 h443 fun v444=>
asS v444 fun l445=>
((AV.s l75)=(AV.s l445) ∧
(aB 5 v59 h443 fun v446=>
(v72=v446 ∧
(aB 5 v41 h443 fun v447=>
(v71=v447 ∧
(aC v68 h443 fun v448=>
asI .i64 v448 fun n449=>
((AV.i .i64 n70)=(AV.i .i64 n449) ∧
(aC v65 h443 fun v450=>
asI .i64 v450 fun n451=>
((AV.i .i64 n67)=(AV.i .i64 n451) ∧
(aB 5 v29 h443 fun v452=>
(v64=v452 ∧
(aB 5 v59 h443 fun v453=>
(v63=v453 ∧
(C Y40.id [v442] h443 fun v454 h455=>
aC v73 h455 fun v456=>
asS v456 fun l457=>
((AV.s l75)=(AV.s l457) ∧
(aB 5 v59 h455 fun v458=>
(v72=v458 ∧
(aB 5 v41 h455 fun v459=>
(v71=v459 ∧
(aC v68 h455 fun v460=>
asI .i64 v460 fun n461=>
((AV.i .i64 n70)=(AV.i .i64 n461) ∧
(aC v65 h455 fun v462=>
asI .i64 v462 fun n463=>
((AV.i .i64 n67)=(AV.i .i64 n463) ∧
(aB 5 v29 h455 fun v464=>
(v64=v464 ∧
(aB 5 v59 h455 fun v465=>
(v63=v465 ∧
(C Y53.id [(AV.i .i64 0),(AV.i .i64 3),(AV.s l76)] h455 fun v466 h467=>
aC v73 h467 fun v468=>
asS v468 fun l469=>
((AV.s l75)=(AV.s l469) ∧
(aB 5 v59 h467 fun v470=>
(v72=v470 ∧
(aB 5 v41 h467 fun v471=>
(v71=v471 ∧
(aC v68 h467 fun v472=>
asI .i64 v472 fun n473=>
((AV.i .i64 n70)=(AV.i .i64 n473) ∧
(aC v65 h467 fun v474=>
asI .i64 v474 fun n475=>
((AV.i .i64 n67)=(AV.i .i64 n475) ∧
(aB 5 v29 h467 fun v476=>
(v64=v476 ∧
(aB 5 v59 h467 fun v477=>
(v63=v477 ∧
(aN 5 2 [(AV.i .i64 0),(AV.i .i64 0),(AV.b false),(AV.s []),(AV.sl none 0 none),(AV.i .i64 0),(AV.i .i64 0),(AV.b false),(AV.s []),(AV.sl none 0 none)] [(0,5,v72),(5,5,v466)] h467 fun v478 h479=>
aC v73 h479 fun v480=>
asS v480 fun l481=>
((AV.s l75)=(AV.s l481) ∧
(aB 5 v41 h479 fun v482=>
(v71=v482 ∧
(aC v68 h479 fun v483=>
asI .i64 v483 fun n484=>
((AV.i .i64 n70)=(AV.i .i64 n484) ∧
(aC v65 h479 fun v485=>
asI .i64 v485 fun n486=>
((AV.i .i64 n67)=(AV.i .i64 n486) ∧
(aB 5 v29 h479 fun v487=>
(v64=v487 ∧
(aB 5 v59 h479 fun v488=>
(v63=v488 ∧
(C Y40.id [v478] h479 fun v489 h490=>
aC v73 h490 fun v491=>
asS v491 fun l492=>
((AV.s l75)=(AV.s l492) ∧
(aB 5 v59 h490 fun v493=>
(v72=v493 ∧
(aB 5 v41 h490 fun v494=>
(v71=v494 ∧
(aC v68 h490 fun v495=>
asI .i64 v495 fun n496=>
((AV.i .i64 n70)=(AV.i .i64 n496) ∧
(aC v65 h490 fun v497=>
asI .i64 v497 fun n498=>
((AV.i .i64 n67)=(AV.i .i64 n498) ∧
(aB 5 v29 h490 fun v499=>
(v64=v499 ∧
(aB 5 v59 h490 fun v500=>
(v63=v500 ∧
(aN 5 7 [(AV.i .i64 0),(AV.i .i64 0),(AV.b false),(AV.s []),(AV.sl none 0 none),(AV.i .i64 0),(AV.i .i64 0),(AV.b false),(AV.s []),(AV.sl none 0 none),(AV.i .i64 0),(AV.i .i64 0),(AV.b false),(AV.s []),(AV.sl none 0 none),(AV.i .i64 0),(AV.i .i64 0),(AV.b false),(AV.s []),(AV.sl none 0 none),(AV.i .i64 0),(AV.i .i64 0),(AV.b false),(AV.s []),(AV.sl none 0 none),(AV.i .i64 0),(AV.i .i64 0),(AV.b false),(AV.s []),(AV.sl none 0 none),(AV.i .i64 0),(AV.i .i64 0),(AV.b false),(AV.s []),(AV.sl none 0 none)] [(0,5,v441),(5,5,v203),(10,5,v63),(15,5,v64),(20,5,v454),(25,5,v71),(30,5,v489)] h490 fun v501 h502=>
aC v73 h502 fun v503=>
asS v503 fun l504=>
((AV.s l75)=(AV.s l504) ∧
(aB 5 v59 h502 fun v505=>
(v72=v505 ∧
(aC v68 h502 fun v506=>
asI .i64 v506 fun n507=>
((AV.i .i64 n70)=(AV.i .i64 n507) ∧
(aC v65 h502 fun v508=>
asI .i64 v508 fun n509=>
((AV.i .i64 n67)=(AV.i .i64 n509) ∧
(J 1 [(1,v0),(13,v59),(14,v501)] h502))))))))))))))))))))))))))))))))))))))))))))))))))))))))))))))))))))))))))))))))))))))))))) ∧
(aN 5 2 [(AV.i .i64 0),(AV.i .i64 0),(AV.b false),(AV.s []),(AV.sl none 0 none),(AV.i .i64 0),(AV.i .i64 0),(AV.b false),(AV.s []),(AV.sl none 0 none)] [(0,5,v317),(5,5,v419)] h420 fun v511 h512=>
aC v73 h512 fun v513=>
asS v513 fun l514=>
((AV.s l75)=(AV.s l514) ∧
(aB 5 v59 h512 fun v515=>
(v72=v515 ∧
(aB 5 v41 h512 fun v516=>
(v71=v516 ∧
(aC v68 h512 fun v517=>
asI .i64 v517 fun n518=>
((AV.i .i64 n70)=(AV.i .i64 n518) ∧
(aC v65 h512 fun v519=>
asI .i64 v519 fun n520=>
((AV.i .i64 n67)=(AV.i .i64 n520) ∧
(aB 5 v29 h512 fun v521=>
(v64=v521 ∧
(aB 5 v59 h512 fun v522=>
(v63=v522 ∧
(((aN 5 1 [(AV.i .i64 0),(AV.i .i64 0),(AV.b false),(AV.s []),(AV.sl none 0 none)] [(0,5,v77)] h512 fun v523 h524=>
aC v73 h524 fun v525=>
asS v525 fun l526=>
((AV.s l75)=(AV.s l526) ∧
(aB 5 v59 h524 fun v527=>
(v72=v527 ∧
(aB 5 v41 h524 fun v528=>
(v71=v528 ∧
(aC v68 h524 fun v529=>
asI .i64 v529 fun n530=>
((AV.i .i64 n70)=(AV.i .i64 n530) ∧
(aC v65 h524 fun v531=>
asI .i64 v531 fun n532=>
((AV.i .i64 n67)=(AV.i .i64 n532) ∧
(aB 5 v29 h524 fun v533=>
(v64=v533 ∧
(aB 5 v59 h524 fun v534=>
(v63=v534 ∧
(dO [(AV.i .i64 0),(AV.i .i64 0),(AV.b false),(AV.s []),(AV.sl none 0 none)] [(0,1,(AV.i .i64 2)),(1,1,(AV.i .i64 0)),(2,1,(AV.b true)),(4,1,v523)] fun v535=>
C Y40.id [v511] h524 fun v536 h537=>
aC v73 h537 fun v538=>
asS v538 fun l539=>
((AV.s l75)=(AV.s l539) ∧
(aB 5 v59 h537 fun v540=>
(v72=v540 ∧
(aB 5 v41 h537 fun v541=>
(v71=v541 ∧
(aC v68 h537 fun v542=>
asI .i64 v542 fun n543=>
((AV.i .i64 n70)=(AV.i .i64 n543) ∧
(aC v65 h537 fun v544=>
asI .i64 v544 fun n545=>
((AV.i .i64 n67)=(AV.i .i64 n545) ∧
(aB 5 v29 h537 fun v546=>
(v64=v546 ∧
(aB 5 v59 h537 fun v547=>
(v63=v547 ∧
(C Y53.id [(AV.i .i64 0),(AV.i .i64 3),(AV.s l76)] h537 fun v548 h549=>
aC v73 h549 fun v550=>
asS v550 fun l551=>
((AV.s l75)=(AV.s l551) ∧
(aB 5 v59 h549 fun v552=>
(v72=v552 ∧
(aB 5 v41 h549 fun v553=>
(v71=v553 ∧
(aC v68 h549 fun v554=>
asI .i64 v554 fun n555=>
((AV.i .i64 n70)=(AV.i .i64 n555) ∧
(aC v65 h549 fun v556=>
asI .i64 v556 fun n557=>
((AV.i .i64 n67)=(AV.i .i64 n557) ∧
(aB 5 v29 h549 fun v558=>
(v64=v558 ∧
(aB 5 v59 h549 fun v559=>
(v63=v559 ∧
(aN 5 2 [(AV.i .i64 0),(AV.i .i64 0),(AV.b false),(AV.s []),(AV.sl none 0 none),(AV.i .i64 0),(AV.i .i64 0),(AV.b false),(AV.s []),(AV.sl none 0 none)] [(0,5,v72),(5,5,v548)] h549 fun v560 h561=>
aC v73 h561 fun v562=>
asS v562 fun l563=>
((AV.s l75)=(AV.s l563) ∧
(aB 5 v41 h561 fun v564=>
(v71=v564 ∧
(aC v68 h561 fun v565=>
asI .i64 v565 fun n566=>
((AV.i .i64 n70)=(AV.i .i64 n566) ∧
(aC v65 h561 fun v567=>
asI .i64 v567 fun n568=>
((AV.i .i64 n67)=(AV.i .i64 n568) ∧
(aB 5 v29 h561 fun v569=>
(v64=v569 ∧
(aB 5 v59 h561 fun v570=>
(v63=v570 ∧
(C Y40.id [v560] h561 fun v571 h572=>
aC v73 h572 fun v573=>
asS v573 fun l574=>
((AV.s l75)=(AV.s l574) ∧
(aB 5 v59 h572 fun v575=>
(v72=v575 ∧
(aB 5 v41 h572 fun v576=>
(v71=v576 ∧
(aC v68 h572 fun v577=>
asI .i64 v577 fun n578=>
((AV.i .i64 n70)=(AV.i .i64 n578) ∧
(aC v65 h572 fun v579=>
asI .i64 v579 fun n580=>
((AV.i .i64 n67)=(AV.i .i64 n580) ∧
(aB 5 v29 h572 fun v581=>
(v64=v581 ∧
(aB 5 v59 h572 fun v582=>
(v63=v582 ∧
(aN 5 7 [(AV.i .i64 0),(AV.i .i64 0),(AV.b false),(AV.s []),(AV.sl none 0 none),(AV.i .i64 0),(AV.i .i64 0),(AV.b false),(AV.s []),(AV.sl none 0 none),(AV.i .i64 0),(AV.i .i64 0),(AV.b false),(AV.s []),(AV.sl none 0 none),(AV.i .i64 0),(AV.i .i64 0),(AV.b false),(AV.s []),(AV.sl none 0 none),(AV.i .i64 0),(AV.i .i64 0),(AV.b false),(AV.s []),(AV.sl none 0 none),(AV.i .i64 0),(AV.i .i64 0),(AV.b false),(AV.s []),(AV.sl none 0 none),(AV.i .i64 0),(AV.i .i64 0),(AV.b false),(AV.s []),(AV.sl none 0 none)] [(0,5,v535),(5,5,v203),(10,5,v63),(15,5,v64),(20,5,v536),(25,5,v71),(30,5,v571)] h572 fun v583 h584=>
aC v73 h584 fun v585=>
asS v585 fun l586=>
((AV.s l75)=(AV.s l586) ∧
(aB 5 v59 h584 fun v587=>
(v72=v587 ∧
(aC v68 h584 fun v588=>
asI .i64 v588 fun n589=>
((AV.i .i64 n70)=(AV.i .i64 n589) ∧
(aC v65 h584 fun v590=>
asI .i64 v590 fun n591=>
((AV.i .i64 n67)=(AV.i .i64 n591) ∧
(J 1 [(1,v0),(13,v59),(14,v583)] h584))))))))))))))))))))))))))))))))))))))))))))))))))))))))))))))))))))))))))))) ∧
(C Y40.id [v511] h512 fun v593 h594=>
aC v73 h594 fun v595=>
asS v595 fun l596=>
((AV.s l75)=(AV.s l596) ∧
(aB 5 v59 h594 fun v597=>
(v72=v597 ∧
(aB 5 v41 h594 fun v598=>
(v71=v598 ∧
(aC v68 h594 fun v599=>
asI .i64 v599 fun n600=>
((AV.i .i64 n70)=(AV.i .i64 n600) ∧
(aC v65 h594 fun v601=>
asI .i64 v601 fun n602=>
((AV.i .i64 n67)=(AV.i .i64 n602) ∧
(aB 5 v29 h594 fun v603=>
(v64=v603 ∧
(aB 5 v59 h594 fun v604=>
(v63=v604 ∧
(((aN 5 1 [(AV.i .i64 0),(AV.i .i64 0),(AV.b false),(AV.s []),(AV.sl none 0 none)] [(0,5,v77)] h594 fun v605 h606=>
aC v73 h606 fun v607=>
asS v607 fun l608=>
((AV.s l75)=(AV.s l608) ∧
(aB 5 v59 h606 fun v609=>
(v72=v609 ∧
(aB 5 v41 h606 fun v610=>
(v71=v610 ∧
(aC v68 h606 fun v611=>
asI .i64 v611 fun n612=>
((AV.i .i64 n70)=(AV.i .i64 n612) ∧
(aC v65 h606 fun v613=>
asI .i64 v613 fun n614=>
((AV.i .i64 n67)=(AV.i .i64 n614) ∧
(aB 5 v29 h606 fun v615=>
(v64=v615 ∧
(aB 5 v59 h606 fun v616=>
(v63=v616 ∧
(dO [(AV.i .i64 0),(AV.i .i64 0),(AV.b false),(AV.s []),(AV.sl none 0 none)] [(0,1,(AV.i .i64 2)),(1,1,(AV.i .i64 0)),(2,1,(AV.b true)),(4,1,v605)] fun v617=>
C Y53.id [(AV.i .i64 0),(AV.i .i64 3),(AV.s l76)] h606 fun v618 h619=>
aC v73 h619 fun v620=>
asS v620 fun l621=>
((AV.s l75)=(AV.s l621) ∧
(aB 5 v59 h619 fun v622=>
(v72=v622 ∧
(aB 5 v41 h619 fun v623=>
(v71=v623 ∧
(aC v68 h619 fun v624=>
asI .i64 v624 fun n625=>
((AV.i .i64 n70)=(AV.i .i64 n625) ∧
(aC v65 h619 fun v626=>
asI .i64 v626 fun n627=>
((AV.i .i64 n67)=(AV.i .i64 n627) ∧
(aB 5 v29 h619 fun v628=>
(v64=v628 ∧
(aB 5 v59 h619 fun v629=>
(v63=v629 ∧
(aN 5 2 [(AV.i .i64 0),(AV.i .i64 0),(AV.b false),(AV.s []),(AV.sl none 0 none),(AV.i .i64 0),(AV.i .i64 0),(AV.b false),(AV.s []),(AV.sl none 0 none)] [(0,5,v72),(5,5,v618)] h619 fun v630 h631=>
aC v73 h631 fun v632=>
asS v632 fun l633=>
((AV.s l75)=(AV.s l633) ∧
(aB 5 v41 h631 fun v634=>
(v71=v634 ∧
(aC v68 h631 fun v635=>
asI .i64 v635 fun n636=>
((AV.i .i64 n70)=(AV.i .i64 n636) ∧
(aC v65 h631 fun v637=>
asI .i64 v637 fun n638=>
((AV.i .i64 n67)=(AV.i .i64 n638) ∧
(aB 5 v29 h631 fun v639=>
(v64=v639 ∧
(aB 5 v59 h631 fun v640=>
(v63=v640 ∧
(C Y40.id [v630] h631 fun v641 h642=>
aC v73 h642 fun v643=>
asS v643 fun l644=>
((AV.s l75)=(AV.s l644) ∧
(aB 5 v59 h642 fun v645=>
(v72=v645 ∧
(aB 5 v41 h642 fun v646=>
(v71=v646 ∧
(aC v68 h642 fun v647=>
asI .i64 v647 fun n648=>
((AV.i .i64 n70)=(AV.i .i64 n648) ∧
(aC v65 h642 fun v649=>
asI .i64 v649 fun n650=>
((AV.i .i64 n67)=(AV.i .i64 n650) ∧
(aB 5 v29 h642 fun v651=>
(v64=v651 ∧
(aB 5 v59 h642 fun v652=>
(v63=v652 ∧
(aN 5 7 [(AV.i .i64 0),(AV.i .i64 0),(AV.b false),(AV.s []),(AV.sl none 0 none),(AV.i .i64 0),(AV.i .i64 0),(AV.b false),(AV.s []),(AV.sl none 0 none),(AV.i .i64 0),(AV.i .i64 0),(AV.b false),(AV.s []),(AV.sl none 0 none),(AV.i .i64 0),(AV.i .i64 0),(AV.b false),(AV.s []),(AV.sl none 0 none),(AV.i .i64 0),(AV.i .i64 0),(AV.b false),(AV.s []),(AV.sl none 0 none),(AV.i .i64 0),(AV.i .i64 0),(AV.b false),(AV.s []),(AV.sl none 0 none),(AV.i .i64 0),(AV.i .i64 0),(AV.b false),(AV.s []),(AV.sl none 0 none)] [(0,5,v617),(5,5,v203),(10,5,v63),(15,5,v64),(20,5,v593),(25,5,v71),(30,5,v641)] h642 fun v653 h654=>
aC v73 h654 fun v655=>
asS v655 fun l656=>
((AV.s l75)=(AV.s l656) ∧
(aB 5 v59 h654 fun v657=>
(v72=v657 ∧
(aC v68 h654 fun v658=>
asI .i64 v658 fun n659=>
((AV.i .i64 n70)=(AV.i .i64 n659) ∧
(aC v65 h654 fun v660=>
asI .i64 v660 fun n661=>
((AV.i .i64 n67)=(AV.i .i64 n661) ∧
(J 1 [(1,v0),(13,v59),(14,v653)] h654))))))))))))))))))))))))))))))))))))))))))))))))))))))))))))))) ∧
(C Y53.id [(AV.i .i64 0),(AV.i .i64 3),(AV.s l76)] h594 fun v663 h664=>
aC v73 h664 fun v665=>
asS v665 fun l666=>
((AV.s l75)=(AV.s l666) ∧
(aB 5 v59 h664 fun v667=>
(v72=v667 ∧
(aB 5 v41 h664 fun v668=>
(v71=v668 ∧
(aC v68 h664 fun v669=>
asI .i64 v669 fun n670=>
((AV.i .i64 n70)=(AV.i .i64 n670) ∧
(aC v65 h664 fun v671=>
asI .i64 v671 fun n672=>
((AV.i .i64 n67)=(AV.i .i64 n672) ∧
(aB 5 v29 h664 fun v673=>
(v64=v673 ∧
(aB 5 v59 h664 fun v674=>
(v63=v674 ∧
(((aN 5 1 [(AV.i .i64 0),(AV.i .i64 0),(AV.b false),(AV.s []),(AV.sl none 0 none)] [(0,5,v77)] h664 fun v675 h676=>
aC v73 h676 fun v677=>
asS v677 fun l678=>
((AV.s l75)=(AV.s l678) ∧
(aB 5 v59 h676 fun v679=>
(v72=v679 ∧
(aB 5 v41 h676 fun v680=>
(v71=v680 ∧
(aC v68 h676 fun v681=>
asI .i64 v681 fun n682=>
((AV.i .i64 n70)=(AV.i .i64 n682) ∧
(aC v65 h676 fun v683=>
asI .i64 v683 fun n684=>
((AV.i .i64 n67)=(AV.i .i64 n684) ∧
(aB 5 v29 h676 fun v685=>
(v64=v685 ∧
(aB 5 v59 h676 fun v686=>
(v63=v686 ∧
(dO [(AV.i .i64 0),(AV.i .i64 0),(AV.b false),(AV.s []),(AV.sl none 0 none)] [(0,1,(AV.i .i64 2)),(1,1,(AV.i .i64 0)),(2,1,(AV.b true)),(4,1,v675)] fun v687=>
aN 5 2 [(AV.i .i64 0),(AV.i .i64 0),(AV.b false),(AV.s []),(AV.sl none 0 none),(AV.i .i64 0),(AV.i .i64 0),(AV.b false),(AV.s []),(AV.sl none 0 none)] [(0,5,v72),(5,5,v663)] h676 fun v688 h689=>
aC v73 h689 fun v690=>
asS v690 fun l691=>
((AV.s l75)=(AV.s l691) ∧
(aB 5 v41 h689 fun v692=>
(v71=v692 ∧
(aC v68 h689 fun v693=>
asI .i64 v693 fun n694=>
((AV.i .i64 n70)=(AV.i .i64 n694) ∧
(aC v65 h689 fun v695=>
asI .i64 v695 fun n696=>
((AV.i .i64 n67)=(AV.i .i64 n696) ∧
(aB 5 v29 h689 fun v697=>
(v64=v697 ∧
(aB 5 v59 h689 fun v698=>
(v63=v698 ∧
(C Y40.id [v688] h689 fun v699 h700=>
aC v73 h700 fun v701=>
asS v701 fun l702=>
((AV.s l75)=(AV.s l702) ∧
(aB 5 v59 h700 fun v703=>
(v72=v703 ∧
(aB 5 v41 h700 fun v704=>
(v71=v704 ∧
(aC v68 h700 fun v705=>
asI .i64 v705 fun n706=>
((AV.i .i64 n70)=(AV.i .i64 n706) ∧
(aC v65 h700 fun v707=>
asI .i64 v707 fun n708=>
((AV.i .i64 n67)=(AV.i .i64 n708) ∧
(aB 5 v29 h700 fun v709=>
(v64=v709 ∧
(aB 5 v59 h700 fun v710=>
(v63=v710 ∧
(aN 5 7 [(AV.i .i64 0),(AV.i .i64 0),(AV.b false),(AV.s []),(AV.sl none 0 none),(AV.i .i64 0),(AV.i .i64 0),(AV.b false),(AV.s []),(AV.sl none 0 none),(AV.i .i64 0),(AV.i .i64 0),(AV.b false),(AV.s []),(AV.sl none 0 none),(AV.i .i64 0),(AV.i .i64 0),(AV.b false),(AV.s []),(AV.sl none 0 none),(AV.i .i64 0),(AV.i .i64 0),(AV.b false),(AV.s []),(AV.sl none 0 none),(AV.i .i64 0),(AV.i .i64 0),(AV.b false),(AV.s []),(AV.sl none 0 none),(AV.i .i64 0),(AV.i .i64 0),(AV.b false),(AV.s []),(AV.sl none 0 none)] [(0,5,v687),(5,5,v203),(10,5,v63),(15,5,v64),(20,5,v593),(25,5,v71),(30,5,v699)] h700 fun v711 h712=>
aC v73 h712 fun v713=>
asS v713 fun l714=>
((AV.s l75)=(AV.s l714) ∧
(aB 5 v59 h712 fun v715=>
(v72=v715 ∧
(aC v68 h712 fun v716=>
asI .i64 v716 fun n717=>
((AV.i .i64 n70)=(AV.i .i64 n717) ∧
(aC v65 h712 fun v718=>
asI .i64 v718 fun n719=>
((AV.i .i64 n67)=(AV.i .i64 n719) ∧
(J 1 [(1,v0),(13,v59),(14,v711)] h712))))))))))))))))))))))))))))))))))))))))))))))))) ∧
(aN 5 2 [(AV.i .i64 0),(AV.i .i64 0),(AV.b false),(AV.s []),(AV.sl none 0 none),(AV.i .i64 0),(AV.i .i64 0),(AV.b false),(AV.s []),(AV.sl none 0 none)] [(0,5,v72),(5,5,v663)] h664 fun v721 h722=>
aC v73 h722 fun v723=>
asS v723 fun l724=>
((AV.s l75)=(AV.s l724) ∧
(aB 5 v41 h722 fun v725=>
(v71=v725 ∧
(aC v68 h722 fun v726=>
asI .i64 v726 fun n727=>
((AV.i .i64 n70)=(AV.i .i64 n727) ∧
(aC v65 h722 fun v728=>
asI .i64 v728 fun n729=>
((AV.i .i64 n67)=(AV.i .i64 n729) ∧
(aB 5 v29 h722 fun v730=>
(v64=v730 ∧
(aB 5 v59 h722 fun v731=>
(v63=v731 ∧
(((aN 5 1 [(AV.i .i64 0),(AV.i .i64 0),(AV.b false),(AV.s []),(AV.sl none 0 none)] [(0,5,v77)] h722 fun v732 h733=>
aC v73 h733 fun v734=>
asS v734 fun l735=>
((AV.s l75)=(AV.s l735) ∧
(aB 5 v59 h733 fun v736=>
(v72=v736 ∧
(aB 5 v41 h733 fun v737=>
(v71=v737 ∧
(aC v68 h733 fun v738=>
asI .i64 v738 fun n739=>
((AV.i .i64 n70)=(AV.i .i64 n739) ∧
(aC v65 h733 fun v740=>
asI .i64 v740 fun n741=>
((AV.i .i64 n67)=(AV.i .i64 n741) ∧
(aB 5 v29 h733 fun v742=>
(v64=v742 ∧
(aB 5 v59 h733 fun v743=>
(v63=v743 ∧
(dO [(AV.i .i64 0),(AV.i .i64 0),(AV.b false),(AV.s []),(AV.sl none 0 none)] [(0,1,(AV.i .i64 2)),(1,1,(AV.i .i64 0)),(2,1,(AV.b true)),(4,1,v732)] fun v744=>
C Y40.id [v721] h733 fun v745 h746=>
aC v73 h746 fun v747=>
asS v747 fun l748=>
((AV.s l75)=(AV.s l748) ∧
(aB 5 v59 h746 fun v749=>
(v72=v749 ∧
(aB 5 v41 h746 fun v750=>
(v71=v750 ∧
(aC v68 h746 fun v751=>
asI .i64 v751 fun n752=>
((AV.i .i64 n70)=(AV.i .i64 n752) ∧
(aC v65 h746 fun v753=>
asI .i64 v753 fun n754=>
((AV.i .i64 n67)=(AV.i .i64 n754) ∧
(aB 5 v29 h746 fun v755=>
(v64=v755 ∧
(aB 5 v59 h746 fun v756=>
(v63=v756 ∧
(aN 5 7 [(AV.i .i64 0),(AV.i .i64 0),(AV.b false),(AV.s []),(AV.sl none 0 none),(AV.i .i64 0),(AV.i .i64 0),(AV.b false),(AV.s []),(AV.sl none 0 none),(AV.i .i64 0),(AV.i .i64 0),(AV.b false),(AV.s []),(AV.sl none 0 none),(AV.i .i64 0),(AV.i .i64 0),(AV.b false),(AV.s []),(AV.sl none 0 none),(AV.i .i64 0),(AV.i .i64 0),(AV.b false),(AV.s []),(AV.sl none 0 none),(AV.i .i64 0),(AV.i .i64 0),(AV.b false),(AV.s []),(AV.sl none 0 none),(AV.i .i64 0),(AV.i .i64 0),(AV.b false),(AV.s []),(AV.sl none 0 none)] [(0,5,v744),(5,5,v203),(10,5,v63),(15,5,v64),(20,5,v593),(25,5,v71),(30,5,v745)] h746 fun v757 h758=>
aC v73 h758 fun v759=>
asS v759 fun l760=>
((AV.s l75)=(AV.s l760) ∧
(aB 5 v59 h758 fun v761=>
(v72=v761 ∧
(aC v68 h758 fun v762=>
asI .i64 v762 fun n763=>
((AV.i .i64 n70)=(AV.i .i64 n763) ∧
(aC v65 h758 fun v764=>
asI .i64 v764 fun n765=>
((AV.i .i64 n67)=(AV.i .i64 n765) ∧
(J 1 [(1,v0),(13,v59),(14,v757)] h758))))))))))))))))))))))))))))))))))))) ∧
(C Y40.id [v721] h722 fun v767 h768=>
aC v73 h768 fun v769=>
asS v769 fun l770=>
((AV.s l75)=(AV.s l770) ∧
(aB 5 v59 h768 fun v771=>
(v72=v771 ∧
(aB 5 v41 h768 fun v772=>
(v71=v772 ∧
(aC v68 h768 fun v773=>
asI .i64 v773 fun n774=>
((AV.i .i64 n70)=(AV.i .i64 n774) ∧
(aC v65 h768 fun v775=>
asI .i64 v775 fun n776=>
((AV.i .i64 n67)=(AV.i .i64 n776) ∧
(aB 5 v29 h768 fun v777=>
(v64=v777 ∧
(aB 5 v59 h768 fun v778=>
(v63=v778 ∧
(aN 5 1 [(AV.i .i64 0),(AV.i .i64 0),(AV.b false),(AV.s []),(AV.sl none 0 none)] [(0,5,v77)] h768 fun v779 h780=>
aC v73 h780 fun v781=>
asS v781 fun l782=>
((AV.s l75)=(AV.s l782) ∧
(aB 5 v59 h780 fun v783=>
(v72=v783 ∧
(aB 5 v41 h780 fun v784=>
(v71=v784 ∧
(aC v68 h780 fun v785=>
asI .i64 v785 fun n786=>
((AV.i .i64 n70)=(AV.i .i64 n786) ∧
(aC v65 h780 fun v787=>
asI .i64 v787 fun n788=>
((AV.i .i64 n67)=(AV.i .i64 n788) ∧
(aB 5 v29 h780 fun v789=>
(v64=v789 ∧
(aB 5 v59 h780 fun v790=>
(v63=v790 ∧
(dO [(AV.i .i64 0),(AV.i .i64 0),(AV.b false),(AV.s []),(AV.sl none 0 none)] [(0,1,(AV.i .i64 2)),(1,1,(AV.i .i64 0)),(2,1,(AV.b true)),(4,1,v779)] fun v791=>
aN 5 7 [(AV.i .i64 0),(AV.i .i64 0),(AV.b false),(AV.s []),(AV.sl none 0 none),(AV.i .i64 0),(AV.i .i64 0),(AV.b false),(AV.s []),(AV.sl none 0 none),(AV.i .i64 0),(AV.i .i64 0),(AV.b false),(AV.s []),(AV.sl none 0 none),(AV.i .i64 0),(AV.i .i64 0),(AV.b false),(AV.s []),(AV.sl none 0 none),(AV.i .i64 0),(AV.i .i64 0),(AV.b false),(AV.s []),(AV.sl none 0 none),(AV.i .i64 0),(AV.i .i64 0),(AV.b false),(AV.s []),(AV.sl none 0 none),(AV.i .i64 0),(AV.i .i64 0),(AV.b false),(AV.s []),(AV.sl none 0 none)] [(0,5,v791),(5,5,v203),(10,5,v63),(15,5,v64),(20,5,v593),(25,5,v71),(30,5,v767)] h780 fun v792 h793=>
aC v73 h793 fun v794=>
asS v794 fun l795=>
((AV.s l75)=(AV.s l795) ∧
(aB 5 v59 h793 fun v796=>
(v72=v796 ∧
(aC v68 h793 fun v797=>
asI .i64 v797 fun n798=>
((AV.i .i64 n70)=(AV.i .i64 n798) ∧
(aC v65 h793 fun v799=>
asI .i64 v799 fun n800=>
((AV.i .i64 n67)=(AV.i .i64 n800) ∧
(J 1 [(1,v0),(13,v59),(14,v792)] h793))))))))))))))))))))))))))))))))))))))))))))))))))))))))))))))))))))))))))))))))))))))))))))))))))))))))))))))))))))))))))))))))))))))))))))))))))))))))))))))))
theorem Y8.call {K x0 h} (H:Y8.t (aI h K) x0 h (Y8.J (aI h K))):C Y8.id [x0] h K:=
 gC Y8.J Tryz.func15 Y8.dist H
noncomputable def Y81.body:Code:=(Tryz.f16.body).getD .skip
def Y81.ann:Ann:=(sl [0] (sl [0] lf))
theorem Y81.dist:aT (places Y81.ann Y81.body)=true:=by kernel_rfl
noncomputable def Y81.J (Q:AV→aA→Prop):JT:=b4 prog C Tryz.f16 Y81.ann Y81.body Q
def Y81.t (Q:AV→aA→Prop) (h:aA) (J:JT):Prop:=
bV (some 25) [(AV.s []),(AV.s []),(AV.s []),(AV.i .i64 0),(AV.i .i64 0),(AV.sl none 0 none),(AV.b false),(AV.s [])] h fun v0 h1=>
aN 1 2 [(AV.s []),(AV.s [])] [(0,1,(AV.s [120])),(1,1,(AV.s [42,46,121]))] h1 fun v3 h4=>
dO [(AV.s []),(AV.s []),(AV.s []),(AV.i .i64 0),(AV.i .i64 0),(AV.sl none 0 none),(AV.b false),(AV.s [])] [(0,1,(AV.s [48,48])),(1,1,(AV.s [67,78,61,97,44,79,61,98])),(2,1,(AV.s [67,78,61,120])),(3,1,(AV.i .i64 5)),(4,1,(AV.i .i64 2600000000)),(5,1,v3),(6,1,(AV.b true)),(7,1,(AV.s [107,101,121]))] fun v5=>
aS 8 v0 v5 h4 fun h6=>
aB 8 v0 h6 fun v8=>
Q v8 h6
theorem Y81.call {K h} (H:Y81.t (aI h K) h (Y81.J (aI h K))):C Y81.id [] h K:=
 gC Y81.J Tryz.func16 Y81.dist H
noncomputable def Y12.body:Code:=(Tryz.f17.body).getD .skip
def Y12.ann:Ann:=(sl [0,2] (sq [0,2] (sl [0,2,18] (.br (sl [2,3] lf) lf)) (sl [0,2,4] (sq [0,2,4] (sl [0,2,4,23] (.br (sl [2,3] lf) lf)) (sq [0,2,4] (sl [0,2,4,26,27,28] (.one (.loop 1 [0,2,4,26,27,28] (sl [0,2,4,26,27,28,29] (sq [0,2,4,26,27,28] bl (sq [0,2,4,26,27,28] (.one (sl [0,2,4,6,26,27,28] (sl [0,2,4,7,8,26,27,28] (sl [0,2,4,7,8,26,27,28,38,39,40] (.one (.loop 2 [0,2,4,7,8,26,27,28,38,39,40] (sl [0,2,4,7,8,26,27,28,38,39,40,41] (sq [0,2,4,7,8,26,27,28,38,39,40] bl (.seq 3 [0,2,4,7,8,26,27,28,38,39,40] (.one (sl [0,2,4,7,8,11,26,27,28,38,39,40] (sl [0,2,4,7,8,11,26,27,28,38,39,40,47] (.br (sl [0,2,4,7,8,12,26,27,28,38,39,40] (.ord (nn 0 7 (.eff 7 (.eff 8 (.eff 9 (.eff 10 (.eff 11 (.eff 12 (.eff 13 (.eff 14 (.neu 15 (.eff 16 .done .stop)) .stop) .stop) .stop) .stop) .stop) .stop) .stop) .stop)))) lf)))) lf))))))))) lf)))))) (sq [2,4] (sl [0,2,4,14,15] (.seq 4 [2,4,83] lf (.br (sl [2,3] lf) lf))) (sl [2,3] lf)))))))
theorem Y12.dist:aT (places Y12.ann Y12.body)=true:=by kernel_rfl
noncomputable def Y12.J (Q:AV→aA→Prop):JT:=b4 prog C Tryz.f17 Y12.ann Y12.body Q
def Y12.p2 (Q:AV→aA→Prop) (x0:List UInt8) (x2 x4:AV) (x7 x8:List UInt8) (x26:AV) (x27 x28:Int) (x38:AV) (x39 x40:Int) (h:aA):Prop:=Y12.J Q 3 [(0,(AV.s x0)),(2,x2),(4,x4),(7,(AV.s x7)),(8,(AV.s x8)),(26,x26),(27,(AV.i .i64 x27)),(28,(AV.i .i64 x28)),(38,x38),(39,(AV.i .i64 x39)),(40,(AV.i .i64 x40))] h
def Y12.p1 (Q:AV→aA→Prop) (x0:List UInt8) (x2 x4:AV) (x7 x8:List UInt8) (x26:AV) (x27 x28:Int) (x38:AV) (x39 x40:Int) (h:aA):Prop:=Y12.J Q 2 [(0,(AV.s x0)),(2,x2),(4,x4),(7,(AV.s x7)),(8,(AV.s x8)),(26,x26),(27,(AV.i .i64 x27)),(28,(AV.i .i64 x28)),(38,x38),(39,(AV.i .i64 x39)),(40,(AV.i .i64 x40))] h
def Y12.p0 (Q:AV→aA→Prop) (x0:List UInt8) (x2 x4 x26:AV) (x27 x28:Int) (h:aA):Prop:=Y12.J Q 1 [(0,(AV.s x0)),(2,x2),(4,x4),(26,x26),(27,(AV.i .i64 x27)),(28,(AV.i .i64 x28))] h
def Y12.p3 (Q:AV→aA→Prop) (x2 x4:AV) (x83:Bool) (h:aA):Prop:=Y12.J Q 4 [(2,x2),(4,x4),(83,(AV.b x83))] h
def Y12.t2 (Q:AV→aA→Prop) (x0:List UInt8) (x2 x4:AV) (x7 x8:List UInt8) (x26:AV) (x27 x28:Int) (x38:AV) (x39 x40:Int) (h:aA) (J:JT):Prop:=
aQ (IntKind.wrap .i64 (x40+1)) fun n123=>
J 2 [(0,(AV.s x0)),(2,x2),(4,x4),(7,(AV.s x7)),(8,(AV.s x8)),(26,x26),(27,(AV.i .i64 x27)),(28,(AV.i .i64 x28)),(38,x38),(39,(AV.i .i64 x39)),(40,(AV.i .i64 n123))] h
theorem Y12.i2 {Q x0 x2 x4 x7 x8 x26 x27 x28 x38 x39 x40 h} (H:Y12.t2 Q x0 x2 x4 x7 x8 x26 x27 x28 x38 x39 x40 h (Y12.J Q)):Y12.p2 Q x0 x2 x4 x7 x8 x26 x27 x28 x38 x39 x40 h:=gR Y12.J Tryz.f17 Y12.dist [1,1,1,1,0,1,0,0,1,1,0,0,1,1,1,0,0,1,1,1] H
def Y12.t1 (Q:AV→aA→Prop) (x0:List UInt8) (x2 x4:AV) (x7 x8:List UInt8) (x26:AV) (x27 x28:Int) (x38:AV) (x39 x40:Int) (h:aA) (J:JT):Prop:=
(bif (decide ((x40:Int)<x39)) then
(aE 2 x38 (AV.i .i64 x40) h fun v47=>
aB 2 v47 h fun v48=>
bV (some 74) [(AV.s []),(AV.s [])] h fun v49 h50=>
aS 2 v49 v48 h50 fun h51=>
aD 0 v49 fun v53=>
aC v53 h51 fun v54=>
asS v54 fun l55=>
(bif (decide ((l55:List UInt8)=x7)) then
(aD 1 v49 fun v57=>
aC v57 h51 fun v58=>
asS v58 fun l59=>
C Y5.id [(AV.s l59)] h51 fun v60 h61=>
aH 0 v60 fun v62=>
aH 1 v60 fun v63=>
asI .i64 v63 fun n64=>
bV (some 33) [(AV.i .i64 0),(AV.i .i64 0),(AV.b false),(AV.s []),(AV.sl none 0 none)] h61 fun v65 h66=>
aS 5 v65 v62 h66 fun h67=>
aD 4 x4 fun v69=>
aC v69 h67 fun v70=>
aB 3 (bG h67 8) h67 fun v71=>
aB 3 (bG h67 0) h67 fun v72=>
aB 5 v65 h67 fun v73=>
C Y28.id [(AV.s x8)] h67 fun v74 h75=>
asS v74 fun l76=>
aB 5 v65 h75 fun v77=>
(v73=v77 ∧
(aB 3 (bG h75 0) h75 fun v78=>
(v72=v78 ∧
(aB 3 (bG h75 8) h75 fun v79=>
(v71=v79 ∧
(aC v69 h75 fun v80=>
(v70=v80 ∧
(C Y70.id [(AV.ag [(AV.i .i64 0),(AV.i .i64 12),(AV.b false)]),(AV.s l76)] h75 fun v81 h82=>
aB 5 v65 h82 fun v83=>
(v73=v83 ∧
(aB 3 (bG h82 0) h82 fun v84=>
(v72=v84 ∧
(aB 3 (bG h82 8) h82 fun v85=>
(v71=v85 ∧
(aC v69 h82 fun v86=>
(v70=v86 ∧
(aN 5 2 [(AV.i .i64 0),(AV.i .i64 0),(AV.b false),(AV.s []),(AV.sl none 0 none),(AV.i .i64 0),(AV.i .i64 0),(AV.b false),(AV.s []),(AV.sl none 0 none)] [(0,5,v73),(5,5,v81)] h82 fun v87 h88=>
aB 3 (bG h88 0) h88 fun v89=>
(v72=v89 ∧
(aB 3 (bG h88 8) h88 fun v90=>
(v71=v90 ∧
(aC v69 h88 fun v91=>
(v70=v91 ∧
(C Y43.id [v72,v87] h88 fun v92 h93=>
aB 5 v65 h93 fun v94=>
(v73=v94 ∧
(aB 3 (bG h93 8) h93 fun v95=>
(v71=v95 ∧
(aC v69 h93 fun v96=>
(v70=v96 ∧
(aN 5 1 [(AV.i .i64 0),(AV.i .i64 0),(AV.b false),(AV.s []),(AV.sl none 0 none)] [(0,5,v92)] h93 fun v97 h98=>
aB 5 v65 h98 fun v99=>
(v73=v99 ∧
(aB 3 (bG h98 0) h98 fun v100=>
(v72=v100 ∧
(aB 3 (bG h98 8) h98 fun v101=>
(v71=v101 ∧
(aC v69 h98 fun v102=>
(v70=v102 ∧
(C Y43.id [v71,v97] h98 fun v103 h104=>
aB 5 v65 h104 fun v105=>
(v73=v105 ∧
(aB 3 (bG h104 0) h104 fun v106=>
(v72=v106 ∧
(aC v69 h104 fun v107=>
(v70=v107 ∧
(aN 5 1 [(AV.i .i64 0),(AV.i .i64 0),(AV.b false),(AV.s []),(AV.sl none 0 none)] [(0,5,v103)] h104 fun v108 h109=>
aB 5 v65 h109 fun v110=>
(v73=v110 ∧
(aB 3 (bG h109 0) h109 fun v111=>
(v72=v111 ∧
(aB 3 (bG h109 8) h109 fun v112=>
(v71=v112 ∧
(aC v69 h109 fun v113=>
(v70=v113 ∧
(bN none 5 64 v70 v108 h109 fun v114 h115=>
aB 5 v65 h115 fun v116=>
(v73=v116 ∧
(aB 3 (bG h115 0) h115 fun v117=>
(v72=v117 ∧
(aB 3 (bG h115 8) h115 fun v118=>
(v71=v118 ∧
(aD 4 x4 fun v119=>
aS 1 v119 v114 h115 fun h120=>
J 3 [(0,(AV.s x0)),(2,x2),(4,x4),(7,(AV.s x7)),(8,(AV.s x8)),(26,x26),(27,(AV.i .i64 x27)),(28,(AV.i .i64 x28)),(38,x38),(39,(AV.i .i64 x39)),(40,(AV.i .i64 x40))] h120)))))))))))))))))))))))))))))))))))))))))))))))))))))))))
else
(J 3 [(0,(AV.s x0)),(2,x2),(4,x4),(7,(AV.s x7)),(8,(AV.s x8)),(26,x26),(27,(AV.i .i64 x27)),(28,(AV.i .i64 x28)),(38,x38),(39,(AV.i .i64 x39)),(40,(AV.i .i64 x40))] h51)))
else
(aQ (IntKind.wrap .i64 (x28+1)) fun n125=>
J 1 [(0,(AV.s x0)),(2,x2),(4,x4),(26,x26),(27,(AV.i .i64 x27)),(28,(AV.i .i64 n125))] h))
theorem Y12.i1 {Q x0 x2 x4 x7 x8 x26 x27 x28 x38 x39 x40 h} (H:Y12.t1 Q x0 x2 x4 x7 x8 x26 x27 x28 x38 x39 x40 h (Y12.J Q)):Y12.p1 Q x0 x2 x4 x7 x8 x26 x27 x28 x38 x39 x40 h:=gH Y12.J Tryz.f17 Y12.dist [1,1,1,1,0,1,0,0,1,1,0,0,1,1,1,0] H
def Y12.t0 (Q:AV→aA→Prop) (x0:List UInt8) (x2 x4 x26:AV) (x27 x28:Int) (h:aA) (J:JT):Prop:=
(bif (decide ((x28:Int)<x27)) then
(aE 1 x26 (AV.i .i64 x28) h fun v28=>
aC v28 h fun v29=>
asS v29 fun l30=>
C Y90.id [(AV.s l30),(AV.s [61])] h fun v32 h33=>
aH 0 v32 fun v34=>
asS v34 fun l35=>
aH 1 v32 fun v36=>
asS v36 fun l37=>
aH 2 v32 fun v38=>
asB v38 fun c39=>
aC (bG h33 7) h33 fun v41=>
bP v41 fun n42=>
J 2 [(0,(AV.s x0)),(2,x2),(4,x4),(7,(AV.s l35)),(8,(AV.s l37)),(26,x26),(27,(AV.i .i64 x27)),(28,(AV.i .i64 x28)),(38,v41),(39,(AV.i .i64 n42)),(40,(AV.i .i64 0))] h33)
else
(aB 5 x4 h fun v127=>
C Y17.id [v127] h fun v128 h129=>
aH 0 v128 fun v130=>
asS v130 fun l131=>
aH 1 v128 fun v132=>
asI .i64 v132 fun n133=>
(bif (!decide ((n133:Int)=0)) then
(J 4 [(2,x2),(4,x4),(83,(AV.b true))] h129)
else
(J 4 [(2,x2),(4,x4),(83,(AV.b (!(decide ((l131:List UInt8)=x0)))))] h129))))
theorem Y12.i0 {Q x0 x2 x4 x26 x27 x28 h} (H:Y12.t0 Q x0 x2 x4 x26 x27 x28 h (Y12.J Q)):Y12.p0 Q x0 x2 x4 x26 x27 x28 h:=gH Y12.J Tryz.f17 Y12.dist [1,1,1,1,0,1,0] H
def Y12.t3 (Q:AV→aA→Prop) (x2 x4:AV) (x83:Bool) (h:aA) (J:JT):Prop:=
(bif x83 then
(aS 5 x2 (AV.ag [(AV.i .i64 0),(AV.i .i64 0),(AV.b false),(AV.s []),(AV.sl none 0 none)]) h fun h137=>
aB 5 x2 h137 fun v139=>
Q (AV.tu [v139,(AV.i .i64 5)]) h137)
else
(aB 5 x4 h fun v141=>
aS 5 x2 v141 h fun h142=>
aB 5 x2 h142 fun v144=>
Q (AV.tu [v144,(AV.i .i64 0)]) h142))
theorem Y12.i3 {Q x2 x4 x83 h} (H:Y12.t3 Q x2 x4 x83 h (Y12.J Q)):Y12.p3 Q x2 x4 x83 h:=gR Y12.J Tryz.f17 Y12.dist [1,1,1,1,1,0,1,1] H
def Y12.t (Q:AV→aA→Prop) (x0:List UInt8) (h:aA) (J:JT):Prop:=
bV (some 33) [(AV.i .i64 0),(AV.i .i64 0),(AV.b false),(AV.s []),(AV.sl none 0 none)] h fun v0 h1=>
(bif (decide ((512:Int)<(x0.length:Int))) then
(aS 5 v0 (AV.ag [(AV.i .i64 0),(AV.i .i64 0),(AV.b false),(AV.s []),(AV.sl none 0 none)]) h1 fun h4=>
aB 5 v0 h4 fun v6=>
Q (AV.tu [v6,(AV.i .i64 3)]) h4)
else
(aB 3 (bG h1 0) h1 fun v8=>
C Y43.id [v8,(AV.sl none 0 none)] h1 fun v9 h10=>
bV (some 33) [(AV.i .i64 0),(AV.i .i64 0),(AV.b false),(AV.s []),(AV.sl none 0 none)] h10 fun v11 h12=>
aS 5 v11 v9 h12 fun h13=>
(bif (decide ((x0:List UInt8)=[])) then
(aB 5 v11 h13 fun v16=>
aS 5 v0 v16 h13 fun h17=>
aB 5 v0 h17 fun v19=>
Q (AV.tu [v19,(AV.i .i64 0)]) h17)
else
(C Y37.id [(AV.s x0)] h13 fun v21 h22=>
bP v21 fun n23=>
J 1 [(0,(AV.s x0)),(2,v0),(4,v11),(26,v21),(27,(AV.i .i64 n23)),(28,(AV.i .i64 0))] h22))))
theorem Y12.call {K x0 h} (H:Y12.t (aI h K) x0 h (Y12.J (aI h K))):C Y12.id [(AV.s x0)] h K:=
 gC Y12.J Tryz.func17 Y12.dist H
noncomputable def Y51.body:Code:=(Tryz.f18.body).getD .skip
def Y51.ann:Ann:=(sl [0] (sq [0] (sl [0,4] (sl [0,15] (.br (sl [2] lf) lf))) (sq [] (sl [17,18,19] (.one (.loop 1 [17,18,19] (sl [17,18,19,20] (sq [17,18,19] bl (sq [17,18,19] (.one (sl [6,17,18,19] (sl [7,8,17,18,19] (sl [7,17,18,19,28] (.br (sl [2] lf) lf))))) lf)))))) (sl [2] lf))))
theorem Y51.dist:aT (places Y51.ann Y51.body)=true:=by kernel_rfl
noncomputable def Y51.J (Q:AV→aA→Prop):JT:=b4 prog C Tryz.f18 Y51.ann Y51.body Q
def Y51.p0 (Q:AV→aA→Prop) (x17:AV) (x18 x19:Int) (h:aA):Prop:=Y51.J Q 1 [(17,x17),(18,(AV.i .i64 x18)),(19,(AV.i .i64 x19))] h
def Y51.t0 (Q:AV→aA→Prop) (x17:AV) (x18 x19:Int) (h:aA) (J:JT):Prop:=
(bif (decide ((x19:Int)<x18)) then
(aE 1 x17 (AV.i .i64 x19) h fun v20=>
aC v20 h fun v21=>
asS v21 fun l22=>
C Y94.id [(AV.s l22),(AV.s [67,78,61])] h fun v24 h25=>
aH 0 v24 fun v26=>
asS v26 fun l27=>
aH 1 v24 fun v28=>
asB v28 fun c29=>
(bif c29 then
(C Y28.id [(AV.s l27)] h25 fun v32 h33=>
asS v32 fun l34=>
Q (AV.s l34) h33)
else
(aQ (IntKind.wrap .i64 (x19+1)) fun n37=>
J 1 [(17,x17),(18,(AV.i .i64 x18)),(19,(AV.i .i64 n37))] h25)))
else
(Q (AV.s []) h))
theorem Y51.i0 {Q x17 x18 x19 h} (H:Y51.t0 Q x17 x18 x19 h (Y51.J Q)):Y51.p0 Q x17 x18 x19 h:=gH Y51.J Tryz.f18 Y51.dist [1,1,0,1,0] H
def Y51.t (Q:AV→aA→Prop) (x0:List UInt8) (h:aA) (J:JT):Prop:=
C Y12.id [(AV.s x0)] h fun v1 h2=>
aH 0 v1 fun v3=>
aH 1 v1 fun v4=>
asI .i64 v4 fun n5=>
bV (some 33) [(AV.i .i64 0),(AV.i .i64 0),(AV.b false),(AV.s []),(AV.sl none 0 none)] h2 fun v6 h7=>
aS 5 v6 v3 h7 fun h8=>
(bif (!decide ((n5:Int)=0)) then
(Q (AV.s []) h8)
else
(C Y37.id [(AV.s x0)] h8 fun v13 h14=>
bP v13 fun n15=>
J 1 [(17,v13),(18,(AV.i .i64 n15)),(19,(AV.i .i64 0))] h14))
theorem Y51.call {K x0 h} (H:Y51.t (aI h K) x0 h (Y51.J (aI h K))):C Y51.id [(AV.s x0)] h K:=
 gC Y51.J Tryz.func18 Y51.dist H
noncomputable def Y34.body:Code:=(Tryz.f19.body).getD .skip
def Y34.ann:Ann:=(sl [0,2] (sq [0,2] (sl [0,2,10] (.br (sl [2,3] lf) lf)) (sl [0,2,4] (sl [2,5,6,7] (.seq 2 [2,5,7] (.seq 1 [2,5,7,26] lf bl) (sq [2,5] (sl [2,5,7,28] (.br (sl [2,3] lf) lf)) (sl [2,3] lf)))))))
theorem Y34.dist:aT (places Y34.ann Y34.body)=true:=by kernel_rfl
noncomputable def Y34.J (Q:AV→aA→Prop):JT:=b4 prog C Tryz.f19 Y34.ann Y34.body Q
def Y34.p0 (Q:AV→aA→Prop) (x2 x5:AV) (x7:Int) (x26:Bool) (h:aA):Prop:=Y34.J Q 1 [(2,x2),(5,x5),(7,(AV.i .i64 x7)),(26,(AV.b x26))] h
def Y34.p1 (Q:AV→aA→Prop) (x2 x5:AV) (x7:Int) (h:aA):Prop:=Y34.J Q 2 [(2,x2),(5,x5),(7,(AV.i .i64 x7))] h
def Y34.t0 (Q:AV→aA→Prop) (x2 x5:AV) (x7:Int) (x26:Bool) (h:aA) (J:JT):Prop:=
(bif x26 then
(J 2 [(2,x2),(5,x5),(7,(AV.i .i64 2))] h)
else
(J 2 [(2,x2),(5,x5),(7,(AV.i .i64 x7))] h))
theorem Y34.i0 {Q x2 x5 x7 x26 h} (H:Y34.t0 Q x2 x5 x7 x26 h (Y34.J Q)):Y34.p0 Q x2 x5 x7 x26 h:=gR Y34.J Tryz.f19 Y34.dist [1,1,1,1,0,1] H
def Y34.t1 (Q:AV→aA→Prop) (x2 x5:AV) (x7:Int) (h:aA) (J:JT):Prop:=
(bif (!decide ((x7:Int)=0)) then
(aS 5 x2 (AV.ag [(AV.i .i64 0),(AV.i .i64 0),(AV.b false),(AV.s []),(AV.sl none 0 none)]) h fun h27=>
aB 5 x2 h27 fun v29=>
Q (AV.tu [v29,(AV.i .i64 x7)]) h27)
else
(aB 5 x5 h fun v31=>
aS 5 x2 v31 h fun h32=>
aB 5 x2 h32 fun v34=>
Q (AV.tu [v34,(AV.i .i64 0)]) h32))
theorem Y34.i1 {Q x2 x5 x7 h} (H:Y34.t1 Q x2 x5 x7 h (Y34.J Q)):Y34.p1 Q x2 x5 x7 h:=gR Y34.J Tryz.f19 Y34.dist [1,1,1,1,1] H
def Y34.t (Q:AV→aA→Prop) (x0:List UInt8) (h:aA) (J:JT):Prop:=
bV (some 33) [(AV.i .i64 0),(AV.i .i64 0),(AV.b false),(AV.s []),(AV.sl none 0 none)] h fun v0 h1=>
(bif (decide ((65535:Int)<(x0.length:Int))) then
(aS 5 v0 (AV.ag [(AV.i .i64 0),(AV.i .i64 0),(AV.b false),(AV.s []),(AV.sl none 0 none)]) h1 fun h4=>
aB 5 v0 h4 fun v6=>
Q (AV.tu [v6,(AV.i .i64 3)]) h4)
else
(eH (some 78) (AV.ag [(AV.i .i64 0)]) h1 fun v8 h9=>
C Y56.id [v8,(AV.s x0),(AV.i .i64 1)] h9 fun v11 h12=>
aH 0 v11 fun v13=>
aH 1 v11 fun v14=>
asS v14 fun l15=>
aH 2 v11 fun v16=>
asI .i64 v16 fun n17=>
bV (some 33) [(AV.i .i64 0),(AV.i .i64 0),(AV.b false),(AV.s []),(AV.sl none 0 none)] h12 fun v18 h19=>
aS 5 v18 v13 h19 fun h20=>
(bif (decide ((n17:Int)=0)) then
(J 1 [(2,v0),(5,v18),(7,(AV.i .i64 n17)),(26,(AV.b (!(decide ((l15:List UInt8)=[])))))] h20)
else
(J 1 [(2,v0),(5,v18),(7,(AV.i .i64 n17)),(26,(AV.b false))] h20))))
theorem Y34.call {K x0 h} (H:Y34.t (aI h K) x0 h (Y34.J (aI h K))):C Y34.id [(AV.s x0)] h K:=
 gC Y34.J Tryz.func19 Y34.dist H
noncomputable def Y41.body:Code:=(Tryz.f20.body).getD .skip
def Y41.ann:Ann:=(sl [2,3,4] (.seq 1 [6,7] (.ord (nn 0 4 (.eff 4 (nn 5 13 .done) .stop))) lf))
theorem Y41.dist:aT (places Y41.ann Y41.body)=true:=by kernel_rfl
noncomputable def Y41.J (Q:AV→aA→Prop):JT:=b4 prog C Tryz.f20 Y41.ann Y41.body Q
def Y41.p0 (Q:AV→aA→Prop) (x6:AV) (x7:Bool) (h:aA):Prop:=Y41.J Q 1 [(6,x6),(7,(AV.b x7))] h
def Y41.t0 (Q:AV→aA→Prop) (x6:AV) (x7:Bool) (h:aA) (J:JT):Prop:=
Q (AV.tu [x6,(AV.b x7)]) h
theorem Y41.i0 {Q x6 x7 h} (H:Y41.t0 Q x6 x7 h (Y41.J Q)):Y41.p0 Q x6 x7 h:=gR Y41.J Tryz.f20 Y41.dist [1,1] H
def Y41.t (Q:AV→aA→Prop) (x0 x1:AV) (x2:Int) (h:aA) (J:JT):Prop:=
eH (some 46) x0 h fun v0 h1=>
eH (some 33) x1 h1 fun v2 h3=>
aD 4 v2 fun v5=>
aC v5 h3 fun v6=>
aB 3 v0 h3 fun v7=>
aB 5 v2 h3 fun v8=>
C Y59.id [v7,v8] h3 fun v9 h10=>
asB v9 fun c11=>
aC v5 h10 fun v12=>
(v6=v12 ∧
((bif c11 then
((bif (decide ((x2:Int)<0)) then
(J 1 [(6,v6),(7,(AV.b true))] h10)
else
(aD 4 v2 fun v14=>
aC v14 h10 fun v15=>
bP v15 fun n16=>
J 1 [(6,v6),(7,(AV.b (decide ((n16:Int)=x2))))] h10)))
else
(J 1 [(6,v6),(7,(AV.b false))] h10))))
theorem Y41.call {K x0 x1 x2 h} (H:Y41.t (aI h K) x0 x1 x2 h (Y41.J (aI h K))):C Y41.id [x0,x1,(AV.i .i64 x2)] h K:=
 gC Y41.J Tryz.func20 Y41.dist H
noncomputable def Y59.body:Code:=(Tryz.f21.body).getD .skip
def Y59.ann:Ann:=(sl [2,3] (sl [4] lf))
theorem Y59.dist:aT (places Y59.ann Y59.body)=true:=by kernel_rfl
noncomputable def Y59.J (Q:AV→aA→Prop):JT:=b4 prog C Tryz.f21 Y59.ann Y59.body Q
def Y59.t (Q:AV→aA→Prop) (x0 x1:AV) (h:aA) (J:JT):Prop:=
eH (some 46) x0 h fun v0 h1=>
eH (some 33) x1 h1 fun v2 h3=>
aD 0 v2 fun v5=>
aC v5 h3 fun v6=>
asI .i64 v6 fun n7=>
aD 1 v2 fun v8=>
aC v8 h3 fun v9=>
asI .i64 v9 fun n10=>
aD 2 v2 fun v11=>
aC v11 h3 fun v12=>
asB v12 fun c13=>
aB 3 v0 h3 fun v14=>
f9 prog .eql 46 (AV.ag [(AV.i .i64 n7),(AV.i .i64 n10),(AV.b c13)]) v14 fun v15=>
asB v15 fun c16=>
Q (AV.b c16) h3
theorem Y59.call {K x0 x1 h} (H:Y59.t (aI h K) x0 x1 h (Y59.J (aI h K))):C Y59.id [x0,x1] h K:=
 gC Y59.J Tryz.func21 Y59.dist H
noncomputable def Y11.body:Code:=(Tryz.f22.body).getD .skip
def Y11.ann:Ann:=(sq [0,1,4,5] (.ord (nn 0 4 (.eff 4 (nn 5 5 .done) .stop))) (sq [0,1,4] (sl [0,1,4,28] bl) (sl [0,1,5,6] (.seq 1 [0,1] (.ord (nn 0 11 (.eff 11 (nn 12 13 (.eff 25 (.neu 26 (.eff 27 .done .stop)) .stop)) .stop))) (sq [0,1] (sl [0,1,68,69] (.one (.loop 2 [0,1,68,69] (sl [0,1,68,69,70] (sq [0,1,68,69] bl (sq [0,1,68,69] (.one (sl [0,1,7,68,69] (sl [0,1,8,68,69] (.ord (nn 0 22 (.eff 22 .done .stop)))))) lf)))))) (sq [0,1] (.ord (nn 0 6 (nn 7 4 (.eff 6 (.eff 11 (nn 12 3 (.eff 15 (nn 16 3 (.eff 19 .done .stop)) .stop)) .stop) .stop)))) (sq [0,1,5,9] (.ord (nn 0 4 (.eff 4 (nn 5 5 .done) .stop))) (sq [0,1,9] (sl [0,1,9,130] bl) (sl [0,1,9,10,11] (sl [0,1,10,11,12,13] (sl [0,1,11,13] (sq [0,1,5,11,13,14] (.ord (nn 0 4 (.eff 4 (nn 5 5 .done) .stop))) (sq [0,1,14] (.seq 3 [0,1,14,193] (.ord (nn 0 13 (.eff 13 (nn 14 6 (.eff 20 (nn 21 6 (.eff 27 (.neu 28 (.eff 29 (.neu 30 .done) .stop)) .stop)) .stop)) .stop))) bl) (sl [0,1] (sl [0,1,205] (.br (sq [0,15,16] (.ord (nn 0 4 (.eff 4 (nn 5 5 .done) .stop))) (.seq 4 [0,15,223] (.ord (nn 0 7 (.eff 7 (.neu 8 (.eff 9 .done .stop)) .stop))) bl)) lf))))))))))))))))
theorem Y11.dist:aT (places Y11.ann Y11.body)=true:=by kernel_rfl
noncomputable def Y11.J (Q:AV→aA→Prop):JT:=b4 prog C Tryz.f22 Y11.ann Y11.body Q
def Y11.p1 (Q:AV→aA→Prop) (x0 x1:AV) (x68 x69:Int) (h:aA):Prop:=Y11.J Q 2 [(0,x0),(1,x1),(68,(AV.i .i64 x68)),(69,(AV.i .i64 x69))] h
def Y11.p2 (Q:AV→aA→Prop) (x0 x1 x14:AV) (x193:Bool) (h:aA):Prop:=Y11.J Q 3 [(0,x0),(1,x1),(14,x14),(193,(AV.b x193))] h
def Y11.p3 (Q:AV→aA→Prop) (x0 x15:AV) (x223:Bool) (h:aA):Prop:=Y11.J Q 4 [(0,x0),(15,x15),(223,(AV.b x223))] h
def Y11.p0 (Q:AV→aA→Prop) (x0 x1:AV) (h:aA):Prop:=Y11.J Q 1 [(0,x0),(1,x1)] h
def Y11.t1 (Q:AV→aA→Prop) (x0 x1:AV) (x68 x69:Int) (h:aA) (J:JT):Prop:=
(bif (decide ((x69:Int)<x68)) then
(aE 5 x1 (AV.i .i64 1) h fun v95=>
aD 3 v95 fun v96=>
aC v96 h fun v97=>
asS v97 fun l98=>
bT (AV.s l98) (AV.i .i64 x69) fun n99=>
cV x0 fun v101=>
aD 0 v101 fun v102=>
aD 0 v102 fun v103=>
aC v103 h fun v104=>
asS v104 fun l105=>
pL .u8 n99 4 fun n106=>
pL .u8 n99 4 fun n107=>
aQ (IntKind.wrap .u8 (n107+1)) fun n108=>
bW (AV.s [48,49,50,51,52,53,54,55,56,57,97,98,99,100,101,102]) (some (AV.i .u8 n106)) (some (AV.i .u8 n108)) fun l109=>
aQ (IntKind.wrap .u8 ((cI .and .u8 n99 15)+1)) fun n110=>
bW (AV.s [48,49,50,51,52,53,54,55,56,57,97,98,99,100,101,102]) (some (AV.i .u8 (cI .and .u8 n99 15))) (some (AV.i .u8 n110)) fun l111=>
eC l109 l111 fun l112=>
eC l105 l112 fun l113=>
cV x0 fun v114=>
aD 0 v114 fun v115=>
aD 0 v115 fun v116=>
aS 1 v116 (AV.s l113) h fun h117=>
aQ (IntKind.wrap .i64 (x69+1)) fun n119=>
J 2 [(0,x0),(1,x1),(68,(AV.i .i64 x68)),(69,(AV.i .i64 n119))] h117)
else
(aE 5 x1 (AV.i .i64 3) h fun v121=>
aB 5 v121 h fun v122=>
aE 5 x1 (AV.i .i64 5) h fun v123=>
aB 5 v123 h fun v124=>
C Y86.id [x0,v122] h fun v125 h126=>
asS v125 fun l127=>
aB 5 v123 h126 fun v128=>
(v124=v128 ∧
(aE 5 x1 (AV.i .i64 5) h126 fun v129=>
(v123=v129 ∧
(aE 5 x1 (AV.i .i64 3) h126 fun v130=>
(v121=v130 ∧
(C Y86.id [x0,v124] h126 fun v131 h132=>
asS v131 fun l133=>
aE 5 x1 (AV.i .i64 5) h132 fun v134=>
(v123=v134 ∧
(aB 5 v121 h132 fun v135=>
(v122=v135 ∧
(aE 5 x1 (AV.i .i64 3) h132 fun v136=>
(v121=v136 ∧
(cV x0 fun v137=>
aD 0 v137 fun v138=>
aD 1 v138 fun v139=>
aS 1 v139 (AV.s l127) h132 fun h140=>
aE 5 x1 (AV.i .i64 5) h140 fun v141=>
(v123=v141 ∧
(cV x0 fun v142=>
aD 0 v142 fun v143=>
aD 2 v143 fun v144=>
aS 1 v144 (AV.s l133) h140 fun h145=>
aB 3 (bG h145 0) h145 fun v147=>
aE 5 x1 (AV.i .i64 4) h145 fun v148=>
aB 5 v148 h145 fun v149=>
C Y41.id [v147,v149,(AV.i .i64 2)] h145 fun v150 h151=>
aE 5 x1 (AV.i .i64 4) h151 fun v152=>
(v148=v152 ∧
(aH 0 v150 fun v153=>
aH 1 v150 fun v154=>
asB v154 fun c155=>
C Y33.id [x0,(AV.b c155)] h151 fun v157 h158=>
asB v157 fun c159=>
(bif (!c159) then
(Q (AV.tu []) h158)
else
(aE 5 v153 (AV.i .i64 0) h158 fun v162=>
aB 5 v162 h158 fun v163=>
C Y4.id [v163] h158 fun v164 h165=>
aH 0 v164 fun v166=>
asI .i64 v166 fun n167=>
aH 1 v164 fun v168=>
asB v168 fun c169=>
aE 5 v153 (AV.i .i64 1) h165 fun v171=>
aB 5 v171 h165 fun v172=>
C Y4.id [v172] h165 fun v173 h174=>
aH 0 v173 fun v175=>
asI .i64 v175 fun n176=>
aH 1 v173 fun v177=>
asB v177 fun c178=>
cV x0 fun v180=>
aD 0 v180 fun v181=>
aD 3 v181 fun v182=>
aS 1 v182 (AV.i .i64 n167) h174 fun h183=>
cV x0 fun v184=>
aD 0 v184 fun v185=>
aD 4 v185 fun v186=>
aS 1 v186 (AV.i .i64 n176) h183 fun h187=>
aB 3 (bG h187 0) h187 fun v189=>
aE 5 x1 (AV.i .i64 6) h187 fun v190=>
aB 5 v190 h187 fun v191=>
C Y41.id [v189,v191,(AV.i .i64 2)] h187 fun v192 h193=>
aE 5 x1 (AV.i .i64 6) h193 fun v194=>
(v190=v194 ∧
(aH 0 v192 fun v195=>
aH 1 v192 fun v196=>
asB v196 fun c197=>
(bif c169 then
((bif c178 then
((bif c197 then
(aB 3 (bG h193 0) h193 fun v199=>
aE 5 v195 (AV.i .i64 0) h193 fun v200=>
aB 5 v200 h193 fun v201=>
C Y59.id [v199,v201] h193 fun v202 h203=>
asB v202 fun c204=>
aE 5 v195 (AV.i .i64 0) h203 fun v205=>
(v200=v205 ∧
((bif c204 then
(aB 3 (bG h203 1) h203 fun v206=>
aE 5 v195 (AV.i .i64 1) h203 fun v207=>
aB 5 v207 h203 fun v208=>
C Y59.id [v206,v208] h203 fun v209 h210=>
asB v209 fun c211=>
aE 5 v195 (AV.i .i64 1) h210 fun v212=>
(v207=v212 ∧
(aB 5 v200 h210 fun v213=>
(v201=v213 ∧
(aE 5 v195 (AV.i .i64 0) h210 fun v214=>
(v200=v214 ∧
(aB 3 (bG h210 0) h210 fun v215=>
(v199=v215 ∧
((bif c211 then
(aE 5 v195 (AV.i .i64 1) h210 fun v216=>
aD 3 v216 fun v217=>
aC v217 h210 fun v218=>
asS v218 fun l219=>
C Y91.id [(AV.s l219),(AV.s [0])] h210 fun v220 h221=>
asB v220 fun c222=>
aE 5 v195 (AV.i .i64 1) h221 fun v223=>
(v216=v223 ∧
(aB 5 v207 h221 fun v224=>
(v208=v224 ∧
(aE 5 v195 (AV.i .i64 1) h221 fun v225=>
(v207=v225 ∧
(aB 3 (bG h221 1) h221 fun v226=>
(v206=v226 ∧
(aB 5 v200 h221 fun v227=>
(v201=v227 ∧
(aE 5 v195 (AV.i .i64 0) h221 fun v228=>
(v200=v228 ∧
(aB 3 (bG h221 0) h221 fun v229=>
(v199=v229 ∧
(C Y33.id [x0,(AV.b c222)] h221 fun v230 h231=>
asB v230 fun c232=>
aC v217 h231 fun v233=>
asS v233 fun l234=>
((AV.s l219)=(AV.s l234) ∧
(aE 5 v195 (AV.i .i64 1) h231 fun v235=>
(v216=v235 ∧
(aB 5 v207 h231 fun v236=>
(v208=v236 ∧
(aE 5 v195 (AV.i .i64 1) h231 fun v237=>
(v207=v237 ∧
(aB 3 (bG h231 1) h231 fun v238=>
(v206=v238 ∧
(aB 5 v200 h231 fun v239=>
(v201=v239 ∧
(aE 5 v195 (AV.i .i64 0) h231 fun v240=>
(v200=v240 ∧
(aB 3 (bG h231 0) h231 fun v241=>
(v199=v241 ∧
(J 3 [(0,x0),(1,x1),(14,v195),(193,(AV.b (!c232)))] h231)))))))))))))))))))))))))))))))
else
(C Y33.id [x0,(AV.b false)] h210 fun v243 h244=>
asB v243 fun c245=>
((AV.tu [])=(AV.tu []) ∧
(((AV.tu [])=(AV.tu []) ∧
(aB 5 v207 h244 fun v246=>
(v208=v246 ∧
(aE 5 v195 (AV.i .i64 1) h244 fun v247=>
(v207=v247 ∧
(aB 3 (bG h244 1) h244 fun v248=>
(v206=v248 ∧
(aB 5 v200 h244 fun v249=>
(v201=v249 ∧
(aE 5 v195 (AV.i .i64 0) h244 fun v250=>
(v200=v250 ∧
(aB 3 (bG h244 0) h244 fun v251=>
(v199=v251 ∧
(J 3 [(0,x0),(1,x1),(14,v195),(193,(AV.b (!c245)))] h244)))))))))))))))))))))))))))
else
(C Y33.id [x0,(AV.b false)] h203 fun v253 h254=>
asB v253 fun c255=>
((AV.tu [])=(AV.tu []) ∧
(((AV.tu [])=(AV.tu []) ∧
(((AV.tu [])=(AV.tu []) ∧
(((AV.tu [])=(AV.tu []) ∧
(((AV.tu [])=(AV.tu []) ∧
(aB 5 v200 h254 fun v256=>
(v201=v256 ∧
(aE 5 v195 (AV.i .i64 0) h254 fun v257=>
(v200=v257 ∧
(aB 3 (bG h254 0) h254 fun v258=>
(v199=v258 ∧
(J 3 [(0,x0),(1,x1),(14,v195),(193,(AV.b (!c255)))] h254)))))))))))))))))))))
else
(C Y33.id [x0,(AV.b false)] h193 fun v260 h261=>
asB v260 fun c262=>
((AV.tu [])=(AV.tu []) ∧
(((AV.tu [])=(AV.tu []) ∧
(((AV.tu [])=(AV.tu []) ∧
(((AV.tu [])=(AV.tu []) ∧
(((AV.tu [])=(AV.tu []) ∧
(((AV.tu [])=(AV.tu []) ∧
(((AV.tu [])=(AV.tu []) ∧
(((AV.tu [])=(AV.tu []) ∧
(J 3 [(0,x0),(1,x1),(14,v195),(193,(AV.b (!c262)))] h261)))))))))))))))))))
else
(C Y33.id [x0,(AV.b false)] h193 fun v264 h265=>
asB v264 fun c266=>
((AV.tu [])=(AV.tu []) ∧
(((AV.tu [])=(AV.tu []) ∧
(((AV.tu [])=(AV.tu []) ∧
(((AV.tu [])=(AV.tu []) ∧
(((AV.tu [])=(AV.tu []) ∧
(((AV.tu [])=(AV.tu []) ∧
(((AV.tu [])=(AV.tu []) ∧
(((AV.tu [])=(AV.tu []) ∧
(J 3 [(0,x0),(1,x1),(14,v195),(193,(AV.b (!c266)))] h265)))))))))))))))))))
else
(C Y33.id [x0,(AV.b false)] h193 fun v268 h269=>
asB v268 fun c270=>
((AV.tu [])=(AV.tu []) ∧
(((AV.tu [])=(AV.tu []) ∧
(((AV.tu [])=(AV.tu []) ∧
(((AV.tu [])=(AV.tu []) ∧
(((AV.tu [])=(AV.tu []) ∧
(((AV.tu [])=(AV.tu []) ∧
(((AV.tu [])=(AV.tu []) ∧
(((AV.tu [])=(AV.tu []) ∧
(J 3 [(0,x0),(1,x1),(14,v195),(193,(AV.b (!c270)))] h269))))))))))))))))))))))))))))))))))))))))
theorem Y11.i1 {Q x0 x1 x68 x69 h} (H:Y11.t1 Q x0 x1 x68 x69 h (Y11.J Q)):Y11.p1 Q x0 x1 x68 x69 h:=gH Y11.J Tryz.f22 Y11.dist [1,1,1,1,0,1,0] H
def Y11.t2 (Q:AV→aA→Prop) (x0 x1 x14:AV) (x193:Bool) (h:aA) (J:JT):Prop:=
(bif x193 then
(Q (AV.tu []) h)
else
(aE 5 x14 (AV.i .i64 1) h fun v273=>
aD 3 v273 fun v274=>
aC v274 h fun v275=>
asS v275 fun l276=>
bW (AV.s l276) (some (AV.i .i64 1)) none fun l277=>
cV x0 fun v278=>
aD 0 v278 fun v279=>
aD 7 v279 fun v280=>
aS 1 v280 (AV.s l277) h fun h281=>
bP x1 fun n283=>
(bif (decide ((n283:Int)=8)) then
(aB 3 (bG h281 6) h281 fun v285=>
aE 5 x1 (AV.i .i64 7) h281 fun v286=>
aB 5 v286 h281 fun v287=>
C Y41.id [v285,v287,(AV.i .i64 1)] h281 fun v288 h289=>
aE 5 x1 (AV.i .i64 7) h289 fun v290=>
(v286=v290 ∧
(aH 0 v288 fun v291=>
aH 1 v288 fun v292=>
asB v292 fun c293=>
(bif c293 then
(aB 3 (bG h289 0) h289 fun v295=>
aE 5 v291 (AV.i .i64 0) h289 fun v296=>
aB 5 v296 h289 fun v297=>
C Y59.id [v295,v297] h289 fun v298 h299=>
asB v298 fun c300=>
aE 5 v291 (AV.i .i64 0) h299 fun v301=>
(v296=v301 ∧
(C Y33.id [x0,(AV.b c300)] h299 fun v302 h303=>
asB v302 fun c304=>
aB 5 v296 h303 fun v305=>
(v297=v305 ∧
(aE 5 v291 (AV.i .i64 0) h303 fun v306=>
(v296=v306 ∧
(aB 3 (bG h303 0) h303 fun v307=>
(v295=v307 ∧
(J 4 [(0,x0),(15,v291),(223,(AV.b c304))] h303)))))))))
else
(C Y33.id [x0,(AV.b false)] h289 fun v309 h310=>
asB v309 fun c311=>
((AV.tu [])=(AV.tu []) ∧
(((AV.tu [])=(AV.tu []) ∧
(((AV.tu [])=(AV.tu []) ∧
(J 4 [(0,x0),(15,v291),(223,(AV.b c311))] h310)))))))))))
else
(Q (AV.tu []) h281))))
theorem Y11.i2 {Q x0 x1 x14 x193 h} (H:Y11.t2 Q x0 x1 x14 x193 h (Y11.J Q)):Y11.p2 Q x0 x1 x14 x193 h:=gR Y11.J Tryz.f22 Y11.dist [1,1,1,1,1,1,1,1,1,1,1,1,0,1] H
def Y11.t3 (Q:AV→aA→Prop) (x0 x15:AV) (x223:Bool) (h:aA) (J:JT):Prop:=
(bif x223 then
(aE 5 x15 (AV.i .i64 0) h fun v313=>
aD 4 v313 fun v314=>
aC v314 h fun v315=>
C Y0.id [x0,v315] h fun v316 h317=>
Q (AV.tu []) h317)
else
(Q (AV.tu []) h))
theorem Y11.i3 {Q x0 x15 x223 h} (H:Y11.t3 Q x0 x15 x223 h (Y11.J Q)):Y11.p3 Q x0 x15 x223 h:=gR Y11.J Tryz.f22 Y11.dist [1,1,1,1,1,1,1,1,1,1,1,1,1,1,1,0,1,1] H
def Y11.t0 (Q:AV→aA→Prop) (x0 x1:AV) (h:aA) (J:JT):Prop:=
aE 5 x1 (AV.i .i64 1) h fun v86=>
aD 3 v86 fun v87=>
aC v87 h fun v88=>
asS v88 fun l89=>
J 2 [(0,x0),(1,x1),(68,(AV.i .i64 (l89.length:Int))),(69,(AV.i .i64 0))] h
theorem Y11.i0 {Q x0 x1 h} (H:Y11.t0 Q x0 x1 h (Y11.J Q)):Y11.p0 Q x0 x1 h:=gR Y11.J Tryz.f22 Y11.dist [1,1,1,1] H
def Y11.t (Q:AV→aA→Prop) (x0 x1:AV) (h:aA) (J:JT):Prop:=
aB 3 (bG h 2) h fun v0=>
aE 5 x1 (AV.i .i64 0) h fun v1=>
aB 5 v1 h fun v2=>
C Y41.id [v0,v2,(AV.i .i64 1)] h fun v3 h4=>
aE 5 x1 (AV.i .i64 0) h4 fun v5=>
(v1=v5 ∧
(aH 0 v3 fun v6=>
aH 1 v3 fun v7=>
asB v7 fun c8=>
C Y33.id [x0,(AV.b c8)] h4 fun v10 h11=>
asB v10 fun c12=>
(bif (!c12) then
(Q (AV.tu []) h11)
else
(aE 5 v6 (AV.i .i64 0) h11 fun v15=>
aB 5 v15 h11 fun v16=>
C Y22.id [v16] h11 fun v17 h18=>
aH 0 v17 fun v19=>
asI .i64 v19 fun n20=>
aH 1 v17 fun v21=>
asB v21 fun c22=>
(bif c22 then
((bif (decide ((n20:Int)=2)) then
(aB 3 (bG h18 3) h18 fun v24=>
aE 5 x1 (AV.i .i64 1) h18 fun v25=>
aB 5 v25 h18 fun v26=>
C Y59.id [v24,v26] h18 fun v27 h28=>
asB v27 fun c29=>
aE 5 x1 (AV.i .i64 1) h28 fun v30=>
(v25=v30 ∧
((bif c29 then
(aE 5 x1 (AV.i .i64 1) h28 fun v31=>
aD 3 v31 fun v32=>
aC v32 h28 fun v33=>
asS v33 fun l34=>
(bif (!(decide ((l34:List UInt8)=[]))) then
(aB 3 (bG h28 0) h28 fun v35=>
aE 5 x1 (AV.i .i64 2) h28 fun v36=>
aB 5 v36 h28 fun v37=>
C Y59.id [v35,v37] h28 fun v38 h39=>
asB v38 fun c40=>
aE 5 x1 (AV.i .i64 2) h39 fun v41=>
(v36=v41 ∧
(aC v32 h39 fun v42=>
asS v42 fun l43=>
((AV.s l34)=(AV.s l43) ∧
(aE 5 x1 (AV.i .i64 1) h39 fun v44=>
(v31=v44 ∧
(aB 5 v25 h39 fun v45=>
(v26=v45 ∧
(aE 5 x1 (AV.i .i64 1) h39 fun v46=>
(v25=v46 ∧
(aB 3 (bG h39 3) h39 fun v47=>
(v24=v47 ∧
(C Y33.id [x0,(AV.b c40)] h39 fun v48 h49=>
asB v48 fun c50=>
aB 5 v36 h49 fun v51=>
(v37=v51 ∧
(aE 5 x1 (AV.i .i64 2) h49 fun v52=>
(v36=v52 ∧
(aB 3 (bG h49 0) h49 fun v53=>
(v35=v53 ∧
(aC v32 h49 fun v54=>
asS v54 fun l55=>
((AV.s l34)=(AV.s l55) ∧
(aE 5 x1 (AV.i .i64 1) h49 fun v56=>
(v31=v56 ∧
(aB 5 v25 h49 fun v57=>
(v26=v57 ∧
(aE 5 x1 (AV.i .i64 1) h49 fun v58=>
(v25=v58 ∧
(aB 3 (bG h49 3) h49 fun v59=>
(v24=v59 ∧
(J 1 [(0,x0),(1,x1)] h49)))))))))))))))))))))))))))))
else
(C Y33.id [x0,(AV.b false)] h28 fun v61 h62=>
asB v61 fun c63=>
((AV.tu [])=(AV.tu []) ∧
(((AV.tu [])=(AV.tu []) ∧
(((AV.tu [])=(AV.tu []) ∧
(aC v32 h62 fun v64=>
asS v64 fun l65=>
((AV.s l34)=(AV.s l65) ∧
(aE 5 x1 (AV.i .i64 1) h62 fun v66=>
(v31=v66 ∧
(aB 5 v25 h62 fun v67=>
(v26=v67 ∧
(aE 5 x1 (AV.i .i64 1) h62 fun v68=>
(v25=v68 ∧
(aB 3 (bG h62 3) h62 fun v69=>
(v24=v69 ∧
(J 1 [(0,x0),(1,x1)] h62)))))))))))))))))))
else
(C Y33.id [x0,(AV.b false)] h28 fun v71 h72=>
asB v71 fun c73=>
((AV.tu [])=(AV.tu []) ∧
(((AV.tu [])=(AV.tu []) ∧
(((AV.tu [])=(AV.tu []) ∧
(((AV.tu [])=(AV.tu []) ∧
(((AV.tu [])=(AV.tu []) ∧
(aB 5 v25 h72 fun v74=>
(v26=v74 ∧
(aE 5 x1 (AV.i .i64 1) h72 fun v75=>
(v25=v75 ∧
(aB 3 (bG h72 3) h72 fun v76=>
(v24=v76 ∧
(J 1 [(0,x0),(1,x1)] h72)))))))))))))))))))))
else
(C Y33.id [x0,(AV.b false)] h18 fun v78 h79=>
asB v78 fun c80=>
((AV.tu [])=(AV.tu []) ∧
(((AV.tu [])=(AV.tu []) ∧
(((AV.tu [])=(AV.tu []) ∧
(((AV.tu [])=(AV.tu []) ∧
(((AV.tu [])=(AV.tu []) ∧
(((AV.tu [])=(AV.tu []) ∧
(((AV.tu [])=(AV.tu []) ∧
(((AV.tu [])=(AV.tu []) ∧
(J 1 [(0,x0),(1,x1)] h79)))))))))))))))))))
else
(C Y33.id [x0,(AV.b false)] h18 fun v82 h83=>
asB v82 fun c84=>
((AV.tu [])=(AV.tu []) ∧
(((AV.tu [])=(AV.tu []) ∧
(((AV.tu [])=(AV.tu []) ∧
(((AV.tu [])=(AV.tu []) ∧
(((AV.tu [])=(AV.tu []) ∧
(((AV.tu [])=(AV.tu []) ∧
(((AV.tu [])=(AV.tu []) ∧
(((AV.tu [])=(AV.tu []) ∧
(J 1 [(0,x0),(1,x1)] h83))))))))))))))))))))))
theorem Y11.call {K x0 x1 h} (H:Y11.t (aI h K) x0 x1 h (Y11.J (aI h K))):C Y11.id [x0,x1] h K:=
 gC Y11.J Tryz.func22 Y11.dist H
noncomputable def Y30.body:Code:=(Tryz.f27.body).getD .skip
def Y30.ann:Ann:=(sl [0,2,4] (sl [0,2,4] (sq [0,2,4] (.one (.seq 1 [0,2,4,16] lf (.br (sl [6] lf) (.seq 2 [0,2,4,35] lf (.br (sl [6] lf) (sl [0,2,4,54] (.br (sl [6] lf) (sl [0,2,4,57] (.br (sl [6] lf) lf))))))))) (sq [] (sl [0,2,4,7] (.one (.loop 3 [0,2,4,7] (sq [0,2,4,7] (sl [0,2,4,7,67] bl) (sq [0,2,4,7] (.one (sl [0,2,4,7,8] (sl [0,2,4,7,8,80] (.br (sl [6] lf) lf)))) lf))))) (sl [6] lf)))))
theorem Y30.dist:aT (places Y30.ann Y30.body)=true:=by kernel_rfl
noncomputable def Y30.J (Q:AV→aA→Prop):JT:=b4 prog C Tryz.f27 Y30.ann Y30.body Q
def Y30.p1 (Q:AV→aA→Prop) (x0:AV) (x2:Int) (x4:AV) (x35:Bool) (h:aA):Prop:=Y30.J Q 2 [(0,x0),(2,(AV.i .i64 x2)),(4,x4),(35,(AV.b x35))] h
def Y30.p0 (Q:AV→aA→Prop) (x0:AV) (x2:Int) (x4:AV) (x16:Bool) (h:aA):Prop:=Y30.J Q 1 [(0,x0),(2,(AV.i .i64 x2)),(4,x4),(16,(AV.b x16))] h
def Y30.p2 (Q:AV→aA→Prop) (x0:AV) (x2:Int) (x4:AV) (x7:Int) (h:aA):Prop:=Y30.J Q 3 [(0,x0),(2,(AV.i .i64 x2)),(4,x4),(7,(AV.i .i64 x7))] h
def Y30.t1 (Q:AV→aA→Prop) (x0:AV) (x2:Int) (x4:AV) (x35:Bool) (h:aA) (J:JT):Prop:=
(bif x35 then
(Q (AV.i .i64 13) h)
else
((bif (decide ((24:Int)<x2)) then
(Q (AV.i .i64 9) h)
else
(cV x0 fun v55=>
aD 0 v55 fun v56=>
aC v56 h fun v57=>
asI .i64 v57 fun n58=>
(bif (decide ((256:Int)<n58)) then
(Q (AV.i .i64 3) h)
else
(J 3 [(0,x0),(2,(AV.i .i64 x2)),(4,x4),(7,(AV.i .i64 0))] h))))))
theorem Y30.i1 {Q x0 x2 x4 x35 h} (H:Y30.t1 Q x0 x2 x4 x35 h (Y30.J Q)):Y30.p1 Q x0 x2 x4 x35 h:=gR Y30.J Tryz.f27 Y30.dist [1,1,0,0,1,1,1] H
def Y30.t0 (Q:AV→aA→Prop) (x0:AV) (x2:Int) (x4:AV) (x16:Bool) (h:aA) (J:JT):Prop:=
(bif x16 then
(Q (AV.i .i64 4) h)
else
(aD 2 x4 fun v29=>
aC v29 h fun v30=>
asB v30 fun c31=>
(bif c31 then
(aD 3 x4 fun v32=>
aC v32 h fun v33=>
asS v33 fun l34=>
(bif (!(decide ((l34:List UInt8)=[]))) then
(J 2 [(0,x0),(2,(AV.i .i64 x2)),(4,x4),(35,(AV.b true))] h)
else
(aD 2 x4 fun v36=>
aC v36 h fun v37=>
asB v37 fun c38=>
(bif (!c38) then
(aD 4 x4 fun v39=>
aC v39 h fun v40=>
bP v40 fun n41=>
J 2 [(0,x0),(2,(AV.i .i64 x2)),(4,x4),(35,(AV.b (decide ((0:Int)<n41))))] h)
else
(J 2 [(0,x0),(2,(AV.i .i64 x2)),(4,x4),(35,(AV.b false))] h)))))
else
(aD 2 x4 fun v44=>
aC v44 h fun v45=>
asB v45 fun c46=>
(bif (!c46) then
(aD 4 x4 fun v47=>
aC v47 h fun v48=>
bP v48 fun n49=>
J 2 [(0,x0),(2,(AV.i .i64 x2)),(4,x4),(35,(AV.b (decide ((0:Int)<n49))))] h)
else
(J 2 [(0,x0),(2,(AV.i .i64 x2)),(4,x4),(35,(AV.b false))] h))))))
theorem Y30.i0 {Q x0 x2 x4 x16 h} (H:Y30.t0 Q x0 x2 x4 x16 h (Y30.J Q)):Y30.p0 Q x0 x2 x4 x16 h:=gR Y30.J Tryz.f27 Y30.dist [1,1,0,0,1] H
def Y30.t2 (Q:AV→aA→Prop) (x0:AV) (x2:Int) (x4:AV) (x7:Int) (h:aA) (J:JT):Prop:=
aD 4 x4 fun v63=>
aC v63 h fun v64=>
bP v64 fun n65=>
(bif (decide ((x7:Int)<n65)) then
(aD 4 x4 fun v69=>
aC v69 h fun v70=>
aE 5 v70 (AV.i .i64 x7) h fun v71=>
aB 5 v71 h fun v72=>
aQ (IntKind.wrap .i64 (x2+1)) fun n73=>
C Y30.id [x0,v72,(AV.i .i64 n73)] h fun v74 h75=>
asI .i64 v74 fun n76=>
(bif (!decide ((n76:Int)=0)) then
(Q (AV.i .i64 n76) h75)
else
(aQ (IntKind.wrap .i64 (x7+1)) fun n81=>
J 3 [(0,x0),(2,(AV.i .i64 x2)),(4,x4),(7,(AV.i .i64 n81))] h75)))
else
(Q (AV.i .i64 0) h))
theorem Y30.i2 {Q x0 x2 x4 x7 h} (H:Y30.t2 Q x0 x2 x4 x7 h (Y30.J Q)):Y30.p2 Q x0 x2 x4 x7 h:=gH Y30.J Tryz.f27 Y30.dist [1,1,1,0,1,0] H
def Y30.t (Q:AV→aA→Prop) (x0 x1:AV) (x2:Int) (h:aA) (J:JT):Prop:=
eH (some 33) x1 h fun v0 h1=>
cV x0 fun v3=>
aD 0 v3 fun v4=>
aC v4 h1 fun v5=>
asI .i64 v5 fun n6=>
aQ (IntKind.wrap .i64 (n6+1)) fun n7=>
cV x0 fun v8=>
aD 0 v8 fun v9=>
aS 1 v9 (AV.i .i64 n7) h1 fun h10=>
aD 0 v0 fun v12=>
aC v12 h10 fun v13=>
asI .i64 v13 fun n14=>
(bif (decide ((n14:Int)<0)) then
(J 1 [(0,x0),(2,(AV.i .i64 x2)),(4,v0),(16,(AV.b true))] h10)
else
(aD 0 v0 fun v16=>
aC v16 h10 fun v17=>
asI .i64 v17 fun n18=>
(bif (decide ((3:Int)<n18)) then
(J 1 [(0,x0),(2,(AV.i .i64 x2)),(4,v0),(16,(AV.b true))] h10)
else
(aD 1 v0 fun v20=>
aC v20 h10 fun v21=>
asI .i64 v21 fun n22=>
(bif (decide ((n22:Int)<0)) then
(J 1 [(0,x0),(2,(AV.i .i64 x2)),(4,v0),(16,(AV.b true))] h10)
else
(aD 1 v0 fun v24=>
aC v24 h10 fun v25=>
asI .i64 v25 fun n26=>
J 1 [(0,x0),(2,(AV.i .i64 x2)),(4,v0),(16,(AV.b (decide ((30:Int)<n26))))] h10))))))
theorem Y30.call {K x0 x1 x2 h} (H:Y30.t (aI h K) x0 x1 x2 h (Y30.J (aI h K))):C Y30.id [x0,x1,(AV.i .i64 x2)] h K:=
 gC Y30.J Tryz.func27 Y30.dist H
end Go.Proofs.YtcdkpkkdolmfdaaGreatDoor
