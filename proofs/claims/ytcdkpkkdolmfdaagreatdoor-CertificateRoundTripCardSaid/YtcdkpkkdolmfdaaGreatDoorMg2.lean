/- Lemmas (several texts in one). -/
import Derived.Test.YtcdkpkkdolmfdaaGreatDoorProg
import Derived.KernelRfl
import Derived.Test.YtcdkpkkdolmfdaaGreatDoorMg1
set_option linter.unusedVariables false
set_option linter.unusedSectionVars false
set_option maxRecDepth 100000
namespace Go.Proofs.YtcdkpkkdolmfdaaGreatDoor
open Go.GAM
noncomputable abbrev prog:Program:=Tryz.prog
class XR where
  X:CallR
abbrev X [XR]:CallR:=XR.X
abbrev C [XR]:CallR:=acall prog X
abbrev Y27.id:FuncId:=6
abbrev Y37.id:FuncId:=7
abbrev Y30.id:FuncId:=8
abbrev Y22.id:FuncId:=10
abbrev Y21.id:FuncId:=13
abbrev Y4.id:FuncId:=14
abbrev Y58.id:FuncId:=16
abbrev Y8.id:FuncId:=17
abbrev Y33.id:FuncId:=18
abbrev Y25.id:FuncId:=19
abbrev Y28.id:FuncId:=20
abbrev Y45.id:FuncId:=21
abbrev Y7.id:FuncId:=22
abbrev Y12.id:FuncId:=29
abbrev Y3.id:FuncId:=30
abbrev Y44.id:FuncId:=31
abbrev Y10.id:FuncId:=32
abbrev Y9.id:FuncId:=33
abbrev Y46.id:FuncId:=34
abbrev Y15.id:FuncId:=35
abbrev Y49.id:FuncId:=36
abbrev Y56.id:FuncId:=37
abbrev Y23.id:FuncId:=46
abbrev Y64.id:FuncId:=47
abbrev Y18.id:FuncId:=48
abbrev Y11.id:FuncId:=49
abbrev Y61.id:FuncId:=50
abbrev Y34.id:FuncId:=51
abbrev Y24.id:FuncId:=52
abbrev Y14.id:FuncId:=53
abbrev Y53.id:FuncId:=54
abbrev Y2.id:FuncId:=55
abbrev Y71.id:FuncId:=56
abbrev Y0.id:FuncId:=57
abbrev Y17.id:FuncId:=64
abbrev Y66.id:FuncId:=65
abbrev Y16.id:FuncId:=66
abbrev Y52.id:FuncId:=67
abbrev Y50.id:FuncId:=68
abbrev Y32.id:FuncId:=69
abbrev Y48.id:FuncId:=70
abbrev Y26.id:FuncId:=71
abbrev Y13.id:FuncId:=72
abbrev Y74.id:FuncId:=83
abbrev Y69.id:FuncId:=84
abbrev Y65.id:FuncId:=85
abbrev Y5.id:FuncId:=86
abbrev Y39.id:FuncId:=87
abbrev Y68.id:FuncId:=88
abbrev Y60.id:FuncId:=89
abbrev Y92.id:FuncId:=90
abbrev Y76.id:FuncId:=91
abbrev Y20.id:FuncId:=92
abbrev Y29.id:FuncId:=93
abbrev Y31.id:FuncId:=94
abbrev Y42.id:FuncId:=95
abbrev Y35.id:FuncId:=96
abbrev Y19.id:FuncId:=104
abbrev Y57.id:FuncId:=105
abbrev Y51.id:FuncId:=106
abbrev Y41.id:FuncId:=107
abbrev Y36.id:FuncId:=108
abbrev Y55.id:FuncId:=109
abbrev Y38.id:FuncId:=111
abbrev Y70.id:FuncId:=112
abbrev Y88.id:FuncId:=113
abbrev Y40.id:FuncId:=114
abbrev Y77.id:FuncId:=115
abbrev Y72.id:FuncId:=116
abbrev Y93.id:FuncId:=120
abbrev Y47.id:FuncId:=121
abbrev Y62.id:FuncId:=122
abbrev Y83.id:FuncId:=123
abbrev Y87.id:FuncId:=127
abbrev Y59.id:FuncId:=129
abbrev Y78.id:FuncId:=130
abbrev Y6.id:FuncId:=131
abbrev Y95.id:FuncId:=134
abbrev Y82.id:FuncId:=136
abbrev Y85.id:FuncId:=139
abbrev Y63.id:FuncId:=140
abbrev Y54.id:FuncId:=141
abbrev Y67.id:FuncId:=142
abbrev Y96.id:FuncId:=143
abbrev Y94.id:FuncId:=144
abbrev Y75.id:FuncId:=151
abbrev Y43.id:FuncId:=152
abbrev Y86.id:FuncId:=153
abbrev Y73.id:FuncId:=154
abbrev Y80.id:FuncId:=162
abbrev Y90.id:FuncId:=163
abbrev Y79.id:FuncId:=164
abbrev Y89.id:FuncId:=165
abbrev Y97.id:FuncId:=166
abbrev Y84.id:FuncId:=167
abbrev Y91.id:FuncId:=168
abbrev Y98.id:FuncId:=169
abbrev Y1.id:FuncId:=207
variable [XR]
noncomputable def Y37.body:Code:=(Tryz.f7.body).getD .skip
def Y37.ann:Ann:=(.seq 0 [] .leaf (.seq 0 [1,2] .leaf (.seq 0 [2,3,4] .leaf (.seq 0 [2,3,4,6] .leaf (.seq 1 [0] (.ord (.neu 0 (.neu 1 (.neu 2 (.neu 3 (.neu 4 (.neu 5 (.neu 6 (.neu 7 (.eff 8 (.eff 9 (.neu 10 (.neu 11 (.eff 12 (.neu 13 (.neu 14 (.neu 15 (.neu 16 (.neu 17 (.neu 18 (.neu 19 .done))))))) .stop))) .stop) .stop)))))))))) .leaf)))))
theorem Y37.body_eq:Tryz.f7.body=some Y37.body:=by kernel_rfl
theorem Y37.dist:noTwice (places Y37.ann Y37.body)=true:=by kernel_rfl
noncomputable def Y37.J (Q:AV→AHeap→Prop):JT:=funJ prog C Tryz.f7 Y37.ann Y37.body Q
theorem Y37.goR {Q:AV→AHeap→Prop} {k:Nat} {p:List Nat} (hl:lookJ (places Y37.ann Y37.body) k=some (p,false)) {e:Env} {h:AHeap} (hk:atJ prog C 40 (Y37.J Q) false p Y37.ann Y37.body e h (kFun prog Tryz.f7 Q)):Y37.J Q k e h:=goJ_run (P:=prog) (fn:=Tryz.f7) (ann:=Y37.ann) (body:=Y37.body) (Q:=Q) (k:=k) (p:=p) (e:=e) (h:=h) (acall_le X) Y37.dist hl hk
def Y37.p0 (Q:AV→AHeap→Prop) (x0:Bool) (h:AHeap):Prop:=Y37.J Q 1 [(0,(AV.b x0))] h
theorem Y37.j0 (Q:AV→AHeap→Prop) (x0:Bool) (h:AHeap):Y37.J Q 1 [(0,(AV.b x0))] h=Y37.p0 Q x0 h:=rfl
def Y37.t0 (J:JT) (Q:AV→AHeap→Prop) (x0:Bool) (h:AHeap):Prop:=
Q (AV.b x0) h
theorem Y37.t0_eq (J:JT) (Q:AV→AHeap→Prop) (x0:Bool) (h:AHeap):Y37.t0 J Q x0 h=atJ prog C 40 J false [1,1,1,1,1] Y37.ann Y37.body [(0,(AV.b x0))] h (kFun prog Tryz.f7 Q):=by kernel_rfl
theorem Y37.i0 {Q:AV→AHeap→Prop} {x0:Bool} {h:AHeap} (H:Y37.t0 (Y37.J Q) Q x0 h):Y37.p0 Q x0 h:=Y37.goR (k:=1) (p:=[1,1,1,1,1]) (by kernel_rfl) ((Y37.t0_eq (Y37.J Q) Q x0 h).mp H)
def Y37.t (J:JT) (Q:AV→AHeap→Prop) (h:AHeap):Prop:=
C Y58.id [] h fun v1 h2=>
C Y4.id [v1] h2 fun v3 h4=>
pExtract 0 v3 fun v5=>
asS v5 fun l6=>
pExtract 1 v3 fun v7=>
asI .i64 v7 fun n8=>
C Y30.id [(AV.s l6)] h4 fun v10 h11=>
pExtract 0 v10 fun v12=>
pExtract 1 v10 fun v13=>
asI .i64 v13 fun n14=>
pAlloc (some 25) [(AV.s []),(AV.s []),(AV.s []),(AV.i .i64 0),(AV.i .i64 0),(AV.sl none 0 none),(AV.b false),(AV.s [])] h11 fun v15 h16=>
pStore 8 v15 v12 h16 fun h17=>
C Y8.id [(AV.s [67,78,61,97,61,98])] h17 fun v19 h20=>
pExtract 0 v19 fun v21=>
pExtract 1 v19 fun v22=>
asI .i64 v22 fun n23=>
pAlloc (some 33) [(AV.i .i64 0),(AV.i .i64 0),(AV.b false),(AV.s []),(AV.sl none 0 none)] h20 fun v24 h25=>
pStore 5 v24 v21 h25 fun h26=>
(bif (decide ((n8:Int)=0)) then
((bif (decide ((n14:Int)=0)) then
(pLoadN 8 v15 h26 fun v28=>
C Y58.id [] h26 fun v29 h30=>
pLoadN 8 v15 h30 fun v31=>
(v28=v31 ∧
(C Y22.id [v28,v29] h30 fun v32 h33=>
asB v32 fun c34=>
(bif c34 then
(C Y33.id [(AV.s [79,61,120,44,67,78,61,97,92,44,98])] h33 fun v35 h36=>
asS v35 fun l37=>
pLoadN 8 v15 h36 fun v38=>
(v28=v38 ∧
((bif (decide ((l37:List UInt8)=[97,44,98])) then
(J 1 [(0,(AV.b (decide ((n23:Int)=5))))] h36)
else
(J 1 [(0,(AV.b false))] h36)))))
else
(J 1 [(0,(AV.b false))] h33)))))
else
(J 1 [(0,(AV.b false))] h26)))
else
(J 1 [(0,(AV.b false))] h26))
theorem Y37.t_eq (J:JT) (Q:AV→AHeap→Prop) (h:AHeap):Y37.t J Q h=exJ prog C 40 J Y37.ann Y37.body (initEnv 0 []) h (kFun prog Tryz.f7 Q):=by kernel_rfl
theorem Y37.call {K:AV→AHeap→Prop} {h:AHeap} (H:Y37.t (Y37.J (kRet h K)) (kRet h K) h):C Y37.id [] h K:=
  callJ (P:=prog) (fn:=Tryz.f7) (ann:=Y37.ann) (body:=Y37.body) Tryz.func7 Y37.body_eq (by kernel_rfl) Y37.dist (by kernel_rfl) ((Y37.t_eq (Y37.J (kRet h K)) (kRet h K) h).mp H)
noncomputable def Y30.body:Code:=(Tryz.f8.body).getD .skip
def Y30.ann:Ann:=(.seq 0 [0,2] .leaf (.seq 0 [0,2] (.seq 0 [0,2,11] .leaf (.br (.seq 0 [2,3] .leaf .leaf) .leaf)) (.seq 0 [2,4,5] .leaf (.seq 0 [2,4] (.seq 0 [2,4,5,19] .leaf (.br (.seq 0 [2,3] .leaf .leaf) .leaf)) (.seq 0 [2,6,7] .leaf (.seq 0 [2,6] (.seq 1 [2,6,69] (.ord (.neu 0 (.neu 1 (.neu 2 (.neu 3 (.neu 4 (.neu 5 (.neu 6 (.eff 7 (.neu 8 (.neu 9 (.neu 10 (.neu 11 (.neu 12 (.neu 13 (.neu 14 (.eff 15 (.neu 16 (.neu 17 (.neu 18 (.neu 19 (.neu 20 (.neu 21 (.neu 22 (.eff 23 (.neu 24 (.neu 25 (.neu 26 (.neu 27 (.neu 28 (.neu 29 (.neu 30 (.neu 31 (.neu 32 (.neu 33 (.neu 34 (.neu 35 (.neu 36 (.neu 37 (.neu 38 (.neu 39 (.neu 40 (.neu 41 .done)))))))))))))))))) .stop)))))))) .stop)))))))) .stop))))))))) (.br (.seq 0 [2,3] .leaf .leaf) .leaf)) (.seq 0 [2,6,8] .leaf (.seq 0 [2,8] .leaf (.seq 0 [2,8] (.seq 0 [2,8,82] .leaf (.br (.seq 0 [2,3] .leaf .leaf) .leaf)) (.seq 0 [2,3] .leaf .leaf))))))))))
theorem Y30.body_eq:Tryz.f8.body=some Y30.body:=by kernel_rfl
theorem Y30.dist:noTwice (places Y30.ann Y30.body)=true:=by kernel_rfl
noncomputable def Y30.J (Q:AV→AHeap→Prop):JT:=funJ prog C Tryz.f8 Y30.ann Y30.body Q
theorem Y30.goR {Q:AV→AHeap→Prop} {k:Nat} {p:List Nat} (hl:lookJ (places Y30.ann Y30.body) k=some (p,false)) {e:Env} {h:AHeap} (hk:atJ prog C 88 (Y30.J Q) false p Y30.ann Y30.body e h (kFun prog Tryz.f8 Q)):Y30.J Q k e h:=goJ_run (P:=prog) (fn:=Tryz.f8) (ann:=Y30.ann) (body:=Y30.body) (Q:=Q) (k:=k) (p:=p) (e:=e) (h:=h) (acall_le X) Y30.dist hl hk
def Y30.p0 (Q:AV→AHeap→Prop) (x2:AV) (x6:AV) (x69:Bool) (h:AHeap):Prop:=Y30.J Q 1 [(2,x2),(6,x6),(69,(AV.b x69))] h
theorem Y30.j0 (Q:AV→AHeap→Prop) (x2:AV) (x6:AV) (x69:Bool) (h:AHeap):Y30.J Q 1 [(2,x2),(6,x6),(69,(AV.b x69))] h=Y30.p0 Q x2 x6 x69 h:=rfl
def Y30.t0 (J:JT) (Q:AV→AHeap→Prop) (x2:AV) (x6:AV) (x69:Bool) (h:AHeap):Prop:=
(bif x69 then
(pStore 8 x2 (AV.ag [(AV.s []),(AV.s []),(AV.s []),(AV.i .i64 0),(AV.i .i64 0),(AV.sl none 0 none),(AV.b false),(AV.s [])]) h fun h74=>
pLoadN 8 x2 h74 fun v76=>
Q (AV.tu [v76,(AV.i .i64 2)]) h74)
else
(pBox (some 50) (AV.ag [(AV.s []),(AV.s []),(AV.s []),(AV.i .i64 0),(AV.i .i64 0),(AV.sl none 0 none),(AV.b false),(AV.s []),(AV.b false)]) h fun v78 h79=>
pIdxAddrSl 5 x6 (AV.i .i64 0) h79 fun v81=>
pFieldAddr 4 v81 fun v82=>
pLoad1 v82 h79 fun v83=>
C Y7.id [v78,v83] h79 fun v84 h85=>
pNil v78 fun v87=>
pFieldAddr 8 v87 fun v88=>
pLoad1 v88 h85 fun v89=>
asB v89 fun c90=>
(bif c90 then
(pStore 8 x2 (AV.ag [(AV.s []),(AV.s []),(AV.s []),(AV.i .i64 0),(AV.i .i64 0),(AV.sl none 0 none),(AV.b false),(AV.s [])]) h85 fun h92=>
pLoadN 8 x2 h92 fun v94=>
Q (AV.tu [v94,(AV.i .i64 2)]) h92)
else
(pNil v78 fun v96=>
pFieldAddr 0 v96 fun v97=>
pLoadN 8 v97 h85 fun v98=>
pStore 8 x2 v98 h85 fun h99=>
pLoadN 8 x2 h99 fun v101=>
Q (AV.tu [v101,(AV.i .i64 0)]) h99))))
theorem Y30.t0_eq (J:JT) (Q:AV→AHeap→Prop) (x2:AV) (x6:AV) (x69:Bool) (h:AHeap):Y30.t0 J Q x2 x6 x69 h=atJ prog C 88 J false [1,1,1,1,1,0,1] Y30.ann Y30.body [(2,x2),(6,x6),(69,(AV.b x69))] h (kFun prog Tryz.f8 Q):=by kernel_rfl
theorem Y30.i0 {Q:AV→AHeap→Prop} {x2:AV} {x6:AV} {x69:Bool} {h:AHeap} (H:Y30.t0 (Y30.J Q) Q x2 x6 x69 h):Y30.p0 Q x2 x6 x69 h:=Y30.goR (k:=1) (p:=[1,1,1,1,1,0,1]) (by kernel_rfl) ((Y30.t0_eq (Y30.J Q) Q x2 x6 x69 h).mp H)
def Y30.t (J:JT) (Q:AV→AHeap→Prop) (x0:List UInt8) (h:AHeap):Prop:=
pAlloc (some 25) [(AV.s []),(AV.s []),(AV.s []),(AV.i .i64 0),(AV.i .i64 0),(AV.sl none 0 none),(AV.b false),(AV.s [])] h fun v0 h1=>
(bif (decide ((65535:Int)<(x0.length:Int))) then
(pStore 8 v0 (AV.ag [(AV.s []),(AV.s []),(AV.s []),(AV.i .i64 0),(AV.i .i64 0),(AV.sl none 0 none),(AV.b false),(AV.s [])]) h1 fun h4=>
pLoadN 8 v0 h4 fun v6=>
Q (AV.tu [v6,(AV.i .i64 3)]) h4)
else
(C Y25.id [(AV.s x0)] h1 fun v8 h9=>
pExtract 0 v8 fun v10=>
pExtract 1 v8 fun v11=>
asI .i64 v11 fun n12=>
pAlloc (some 33) [(AV.i .i64 0),(AV.i .i64 0),(AV.b false),(AV.s []),(AV.sl none 0 none)] h9 fun v13 h14=>
pStore 5 v13 v10 h14 fun h15=>
(bif (!decide ((n12:Int)=0)) then
(pStore 8 v0 (AV.ag [(AV.s []),(AV.s []),(AV.s []),(AV.i .i64 0),(AV.i .i64 0),(AV.sl none 0 none),(AV.b false),(AV.s [])]) h15 fun h18=>
pLoadN 8 v0 h18 fun v20=>
Q (AV.tu [v20,(AV.i .i64 n12)]) h18)
else
(pLoadN 3 (gvar h15 0) h15 fun v22=>
pLoadN 5 v13 h15 fun v23=>
C Y28.id [v22,v23,(AV.i .i64 3)] h15 fun v24 h25=>
pExtract 0 v24 fun v26=>
pExtract 1 v24 fun v27=>
asB v27 fun c28=>
(bif (!c28) then
(J 1 [(2,v0),(6,v26),(69,(AV.b true))] h25)
else
(pLoadN 3 (gvar h25 0) h25 fun v31=>
pIdxAddrSl 5 v26 (AV.i .i64 0) h25 fun v32=>
pLoadN 5 v32 h25 fun v33=>
C Y45.id [v31,v33] h25 fun v34 h35=>
asB v34 fun c36=>
pIdxAddrSl 5 v26 (AV.i .i64 0) h35 fun v37=>
(v32=v37 ∧
((bif (!c36) then
(J 1 [(2,v0),(6,v26),(69,(AV.b true))] h35)
else
(pLoadN 3 (gvar h35 0) h35 fun v39=>
pIdxAddrSl 5 v26 (AV.i .i64 1) h35 fun v40=>
pLoadN 5 v40 h35 fun v41=>
C Y45.id [v39,v41] h35 fun v42 h43=>
asB v42 fun c44=>
pIdxAddrSl 5 v26 (AV.i .i64 1) h43 fun v45=>
(v40=v45 ∧
(pLoadN 5 v32 h43 fun v46=>
(v33=v46 ∧
(pIdxAddrSl 5 v26 (AV.i .i64 0) h43 fun v47=>
(v32=v47 ∧
(pLoadN 3 (gvar h43 0) h43 fun v48=>
(v31=v48 ∧
((bif (!c44) then
(J 1 [(2,v0),(6,v26),(69,(AV.b true))] h43)
else
(pLoadN 3 (gvar h43 1) h43 fun v50=>
pIdxAddrSl 5 v26 (AV.i .i64 2) h43 fun v51=>
pLoadN 5 v51 h43 fun v52=>
C Y45.id [v50,v52] h43 fun v53 h54=>
asB v53 fun c55=>
pIdxAddrSl 5 v26 (AV.i .i64 2) h54 fun v56=>
(v51=v56 ∧
(pLoadN 5 v40 h54 fun v57=>
(v41=v57 ∧
(pIdxAddrSl 5 v26 (AV.i .i64 1) h54 fun v58=>
(v40=v58 ∧
(pLoadN 3 (gvar h54 0) h54 fun v59=>
(v39=v59 ∧
(pLoadN 5 v32 h54 fun v60=>
(v33=v60 ∧
(pIdxAddrSl 5 v26 (AV.i .i64 0) h54 fun v61=>
(v32=v61 ∧
(pLoadN 3 (gvar h54 0) h54 fun v62=>
(v31=v62 ∧
((bif (!c55) then
(J 1 [(2,v0),(6,v26),(69,(AV.b true))] h54)
else
(pIdxAddrSl 5 v26 (AV.i .i64 0) h54 fun v64=>
pFieldAddr 4 v64 fun v65=>
pLoad1 v65 h54 fun v66=>
pLenSl v66 fun n67=>
(bif (decide ((n67:Int)<7)) then
(J 1 [(2,v0),(6,v26),(69,(AV.b true))] h54)
else
(pIdxAddrSl 5 v26 (AV.i .i64 0) h54 fun v69=>
pFieldAddr 4 v69 fun v70=>
pLoad1 v70 h54 fun v71=>
pLenSl v71 fun n72=>
J 1 [(2,v0),(6,v26),(69,(AV.b (decide ((8:Int)<n72))))] h54))))))))))))))))))))))))))))))))))))))
theorem Y30.t_eq (J:JT) (Q:AV→AHeap→Prop) (x0:List UInt8) (h:AHeap):Y30.t J Q x0 h=exJ prog C 88 J Y30.ann Y30.body (initEnv 0 [(AV.s x0)]) h (kFun prog Tryz.f8 Q):=by kernel_rfl
theorem Y30.call {K:AV→AHeap→Prop} {x0:List UInt8} {h:AHeap} (H:Y30.t (Y30.J (kRet h K)) (kRet h K) x0 h):C Y30.id [(AV.s x0)] h K:=
  callJ (P:=prog) (fn:=Tryz.f8) (ann:=Y30.ann) (body:=Y30.body) Tryz.func8 Y30.body_eq (by kernel_rfl) Y30.dist (by kernel_rfl) ((Y30.t_eq (Y30.J (kRet h K)) (kRet h K) x0 h).mp H)
noncomputable def Y22.body:Code:=(Tryz.f10.body).getD .skip
def Y22.ann:Ann:=(.seq 0 [2,3] .leaf (.seq 0 [2,3] (.seq 1 [2,3,61] .leaf (.br (.seq 0 [4] .leaf .leaf) .leaf)) (.seq 0 [] (.seq 0 [2,3,5] .leaf (.one (.loop 2 [2,3,5] (.seq 0 [2,3,5] (.seq 0 [2,3,5,66] .leaf (.br .leaf .leaf)) (.seq 0 [2,3,5] (.one (.seq 0 [2,3,5,79] (.ord (.neu 0 (.neu 1 (.neu 2 (.neu 3 (.neu 4 (.neu 5 (.neu 6 (.neu 7 (.neu 8 (.neu 9 (.neu 10 .done)))))))))))) (.br (.seq 0 [4] .leaf .leaf) .leaf))) .leaf))))) (.seq 0 [4] .leaf .leaf))))
theorem Y22.body_eq:Tryz.f10.body=some Y22.body:=by kernel_rfl
theorem Y22.dist:noTwice (places Y22.ann Y22.body)=true:=by kernel_rfl
noncomputable def Y22.J (Q:AV→AHeap→Prop):JT:=funJ prog C Tryz.f10 Y22.ann Y22.body Q
theorem Y22.goR {Q:AV→AHeap→Prop} {k:Nat} {p:List Nat} (hl:lookJ (places Y22.ann Y22.body) k=some (p,false)) {e:Env} {h:AHeap} (hk:atJ prog C 80 (Y22.J Q) false p Y22.ann Y22.body e h (kFun prog Tryz.f10 Q)):Y22.J Q k e h:=goJ_run (P:=prog) (fn:=Tryz.f10) (ann:=Y22.ann) (body:=Y22.body) (Q:=Q) (k:=k) (p:=p) (e:=e) (h:=h) (acall_le X) Y22.dist hl hk
theorem Y22.goH {Q:AV→AHeap→Prop} {k:Nat} {p:List Nat} (hl:lookJ (places Y22.ann Y22.body) k=some (p,true)) {e:Env} {h:AHeap} (hk:atJ prog C 80 (Y22.J Q) true p Y22.ann Y22.body e h (kFun prog Tryz.f10 Q)):Y22.J Q k e h:=goJ_head (P:=prog) (fn:=Tryz.f10) (ann:=Y22.ann) (body:=Y22.body) (Q:=Q) (k:=k) (p:=p) (e:=e) (h:=h) (acall_le X) Y22.dist hl hk
def Y22.p0 (Q:AV→AHeap→Prop) (x2:AV) (x3:AV) (x61:Bool) (h:AHeap):Prop:=Y22.J Q 1 [(2,x2),(3,x3),(61,(AV.b x61))] h
theorem Y22.j0 (Q:AV→AHeap→Prop) (x2:AV) (x3:AV) (x61:Bool) (h:AHeap):Y22.J Q 1 [(2,x2),(3,x3),(61,(AV.b x61))] h=Y22.p0 Q x2 x3 x61 h:=rfl
def Y22.p1 (Q:AV→AHeap→Prop) (x2:AV) (x3:AV) (x5:Int) (h:AHeap):Prop:=Y22.J Q 2 [(2,x2),(3,x3),(5,(AV.i .i64 x5))] h
theorem Y22.j1 (Q:AV→AHeap→Prop) (x2:AV) (x3:AV) (x5:Int) (h:AHeap):Y22.J Q 2 [(2,x2),(3,x3),(5,(AV.i .i64 x5))] h=Y22.p1 Q x2 x3 x5 h:=rfl
def Y22.t0 (J:JT) (Q:AV→AHeap→Prop) (x2:AV) (x3:AV) (x61:Bool) (h:AHeap):Prop:=
(bif x61 then
(Q (AV.b false) h)
else
(J 2 [(2,x2),(3,x3),(5,(AV.i .i64 0))] h))
theorem Y22.t0_eq (J:JT) (Q:AV→AHeap→Prop) (x2:AV) (x3:AV) (x61:Bool) (h:AHeap):Y22.t0 J Q x2 x3 x61 h=atJ prog C 80 J false [1,0,1] Y22.ann Y22.body [(2,x2),(3,x3),(61,(AV.b x61))] h (kFun prog Tryz.f10 Q):=by kernel_rfl
theorem Y22.i0 {Q:AV→AHeap→Prop} {x2:AV} {x3:AV} {x61:Bool} {h:AHeap} (H:Y22.t0 (Y22.J Q) Q x2 x3 x61 h):Y22.p0 Q x2 x3 x61 h:=Y22.goR (k:=1) (p:=[1,0,1]) (by kernel_rfl) ((Y22.t0_eq (Y22.J Q) Q x2 x3 x61 h).mp H)
def Y22.t1 (J:JT) (Q:AV→AHeap→Prop) (x2:AV) (x3:AV) (x5:Int) (h:AHeap):Prop:=
pFieldAddr 5 x2 fun v64=>
pLoad1 v64 h fun v65=>
pLenSl v65 fun n66=>
(bif (decide ((x5:Int)<n66)) then
(pFieldAddr 5 x2 fun v70=>
pLoad1 v70 h fun v71=>
pIdxAddrSl 1 v71 (AV.i .i64 x5) h fun v72=>
pLoad1 v72 h fun v73=>
asS v73 fun l74=>
pFieldAddr 5 x3 fun v75=>
pLoad1 v75 h fun v76=>
pIdxAddrSl 1 v76 (AV.i .i64 x5) h fun v77=>
pLoad1 v77 h fun v78=>
asS v78 fun l79=>
(bif (!(decide ((l74:List UInt8)=l79))) then
(Q (AV.b false) h)
else
(withI (IntKind.wrap .i64 (x5+1)) fun n83=>
J 2 [(2,x2),(3,x3),(5,(AV.i .i64 n83))] h)))
else
(Q (AV.b true) h))
theorem Y22.t1_eq (J:JT) (Q:AV→AHeap→Prop) (x2:AV) (x3:AV) (x5:Int) (h:AHeap):Y22.t1 J Q x2 x3 x5 h=atJ prog C 80 J true [1,1,0,1,0] Y22.ann Y22.body [(2,x2),(3,x3),(5,(AV.i .i64 x5))] h (kFun prog Tryz.f10 Q):=by kernel_rfl
theorem Y22.i1 {Q:AV→AHeap→Prop} {x2:AV} {x3:AV} {x5:Int} {h:AHeap} (H:Y22.t1 (Y22.J Q) Q x2 x3 x5 h):Y22.p1 Q x2 x3 x5 h:=Y22.goH (k:=2) (p:=[1,1,0,1,0]) (by kernel_rfl) ((Y22.t1_eq (Y22.J Q) Q x2 x3 x5 h).mp H)
def Y22.t (J:JT) (Q:AV→AHeap→Prop) (x0:AV) (x1:AV) (h:AHeap):Prop:=
pBox (some 25) x0 h fun v0 h1=>
pBox (some 25) x1 h1 fun v2 h3=>
pFieldAddr 0 v0 fun v5=>
pLoad1 v5 h3 fun v6=>
asS v6 fun l7=>
pFieldAddr 0 v2 fun v8=>
pLoad1 v8 h3 fun v9=>
asS v9 fun l10=>
(bif (!(decide ((l7:List UInt8)=l10))) then
(J 1 [(2,v0),(3,v2),(61,(AV.b true))] h3)
else
(pFieldAddr 1 v0 fun v12=>
pLoad1 v12 h3 fun v13=>
asS v13 fun l14=>
pFieldAddr 1 v2 fun v15=>
pLoad1 v15 h3 fun v16=>
asS v16 fun l17=>
(bif (!(decide ((l14:List UInt8)=l17))) then
(J 1 [(2,v0),(3,v2),(61,(AV.b true))] h3)
else
(pFieldAddr 2 v0 fun v19=>
pLoad1 v19 h3 fun v20=>
asS v20 fun l21=>
pFieldAddr 2 v2 fun v22=>
pLoad1 v22 h3 fun v23=>
asS v23 fun l24=>
(bif (!(decide ((l21:List UInt8)=l24))) then
(J 1 [(2,v0),(3,v2),(61,(AV.b true))] h3)
else
(pFieldAddr 3 v0 fun v26=>
pLoad1 v26 h3 fun v27=>
asI .i64 v27 fun n28=>
pFieldAddr 3 v2 fun v29=>
pLoad1 v29 h3 fun v30=>
asI .i64 v30 fun n31=>
(bif (!decide ((n28:Int)=n31)) then
(J 1 [(2,v0),(3,v2),(61,(AV.b true))] h3)
else
(pFieldAddr 4 v0 fun v33=>
pLoad1 v33 h3 fun v34=>
asI .i64 v34 fun n35=>
pFieldAddr 4 v2 fun v36=>
pLoad1 v36 h3 fun v37=>
asI .i64 v37 fun n38=>
(bif (!decide ((n35:Int)=n38)) then
(J 1 [(2,v0),(3,v2),(61,(AV.b true))] h3)
else
(pFieldAddr 6 v0 fun v40=>
pLoad1 v40 h3 fun v41=>
asB v41 fun c42=>
pFieldAddr 6 v2 fun v43=>
pLoad1 v43 h3 fun v44=>
asB v44 fun c45=>
(bif (!(c42 == c45)) then
(J 1 [(2,v0),(3,v2),(61,(AV.b true))] h3)
else
(pFieldAddr 7 v0 fun v47=>
pLoad1 v47 h3 fun v48=>
asS v48 fun l49=>
pFieldAddr 7 v2 fun v50=>
pLoad1 v50 h3 fun v51=>
asS v51 fun l52=>
(bif (!(decide ((l49:List UInt8)=l52))) then
(J 1 [(2,v0),(3,v2),(61,(AV.b true))] h3)
else
(pFieldAddr 5 v0 fun v54=>
pLoad1 v54 h3 fun v55=>
pLenSl v55 fun n56=>
pFieldAddr 5 v2 fun v57=>
pLoad1 v57 h3 fun v58=>
pLenSl v58 fun n59=>
J 1 [(2,v0),(3,v2),(61,(AV.b (!decide ((n56:Int)=n59))))] h3))))))))))))))
theorem Y22.t_eq (J:JT) (Q:AV→AHeap→Prop) (x0:AV) (x1:AV) (h:AHeap):Y22.t J Q x0 x1 h=exJ prog C 80 J Y22.ann Y22.body (initEnv 0 [x0,x1]) h (kFun prog Tryz.f10 Q):=by kernel_rfl
theorem Y22.call {K:AV→AHeap→Prop} {x0:AV} {x1:AV} {h:AHeap} (H:Y22.t (Y22.J (kRet h K)) (kRet h K) x0 x1 h):C Y22.id [x0,x1] h K:=
  callJ (P:=prog) (fn:=Tryz.f10) (ann:=Y22.ann) (body:=Y22.body) Tryz.func10 Y22.body_eq (by kernel_rfl) Y22.dist (by kernel_rfl) ((Y22.t_eq (Y22.J (kRet h K)) (kRet h K) x0 x1 h).mp H)
noncomputable def Y21.body:Code:=(Tryz.f13.body).getD .skip
def Y21.ann:Ann:=(.seq 0 [1] .leaf (.seq 0 [1] (.seq 1 [1,31] .leaf (.br (.seq 0 [2] .leaf .leaf) .leaf)) (.seq 0 [] (.seq 0 [1,3] .leaf (.one (.loop 2 [1,3] (.seq 0 [1,3] (.seq 0 [1,3,36] .leaf (.br .leaf .leaf)) (.seq 0 [1,3] (.one (.seq 0 [1,3,45] .leaf (.br (.seq 0 [2] .leaf .leaf) .leaf))) .leaf))))) (.seq 0 [2] .leaf .leaf))))
theorem Y21.body_eq:Tryz.f13.body=some Y21.body:=by kernel_rfl
theorem Y21.dist:noTwice (places Y21.ann Y21.body)=true:=by kernel_rfl
noncomputable def Y21.J (Q:AV→AHeap→Prop):JT:=funJ prog C Tryz.f13 Y21.ann Y21.body Q
theorem Y21.goR {Q:AV→AHeap→Prop} {k:Nat} {p:List Nat} (hl:lookJ (places Y21.ann Y21.body) k=some (p,false)) {e:Env} {h:AHeap} (hk:atJ prog C 46 (Y21.J Q) false p Y21.ann Y21.body e h (kFun prog Tryz.f13 Q)):Y21.J Q k e h:=goJ_run (P:=prog) (fn:=Tryz.f13) (ann:=Y21.ann) (body:=Y21.body) (Q:=Q) (k:=k) (p:=p) (e:=e) (h:=h) (acall_le X) Y21.dist hl hk
theorem Y21.goH {Q:AV→AHeap→Prop} {k:Nat} {p:List Nat} (hl:lookJ (places Y21.ann Y21.body) k=some (p,true)) {e:Env} {h:AHeap} (hk:atJ prog C 46 (Y21.J Q) true p Y21.ann Y21.body e h (kFun prog Tryz.f13 Q)):Y21.J Q k e h:=goJ_head (P:=prog) (fn:=Tryz.f13) (ann:=Y21.ann) (body:=Y21.body) (Q:=Q) (k:=k) (p:=p) (e:=e) (h:=h) (acall_le X) Y21.dist hl hk
def Y21.p0 (Q:AV→AHeap→Prop) (x1:AV) (x31:Bool) (h:AHeap):Prop:=Y21.J Q 1 [(1,x1),(31,(AV.b x31))] h
theorem Y21.j0 (Q:AV→AHeap→Prop) (x1:AV) (x31:Bool) (h:AHeap):Y21.J Q 1 [(1,x1),(31,(AV.b x31))] h=Y21.p0 Q x1 x31 h:=rfl
def Y21.p1 (Q:AV→AHeap→Prop) (x1:AV) (x3:Int) (h:AHeap):Prop:=Y21.J Q 2 [(1,x1),(3,(AV.i .i64 x3))] h
theorem Y21.j1 (Q:AV→AHeap→Prop) (x1:AV) (x3:Int) (h:AHeap):Y21.J Q 2 [(1,x1),(3,(AV.i .i64 x3))] h=Y21.p1 Q x1 x3 h:=rfl
def Y21.t0 (J:JT) (Q:AV→AHeap→Prop) (x1:AV) (x31:Bool) (h:AHeap):Prop:=
(bif x31 then
(Q (AV.b false) h)
else
(J 2 [(1,x1),(3,(AV.i .i64 0))] h))
theorem Y21.t0_eq (J:JT) (Q:AV→AHeap→Prop) (x1:AV) (x31:Bool) (h:AHeap):Y21.t0 J Q x1 x31 h=atJ prog C 46 J false [1,0,1] Y21.ann Y21.body [(1,x1),(31,(AV.b x31))] h (kFun prog Tryz.f13 Q):=by kernel_rfl
theorem Y21.i0 {Q:AV→AHeap→Prop} {x1:AV} {x31:Bool} {h:AHeap} (H:Y21.t0 (Y21.J Q) Q x1 x31 h):Y21.p0 Q x1 x31 h:=Y21.goR (k:=1) (p:=[1,0,1]) (by kernel_rfl) ((Y21.t0_eq (Y21.J Q) Q x1 x31 h).mp H)
def Y21.t1 (J:JT) (Q:AV→AHeap→Prop) (x1:AV) (x3:Int) (h:AHeap):Prop:=
pFieldAddr 5 x1 fun v26=>
pLoad1 v26 h fun v27=>
pLenSl v27 fun n28=>
(bif (decide ((x3:Int)<n28)) then
(pFieldAddr 5 x1 fun v32=>
pLoad1 v32 h fun v33=>
pIdxAddrSl 1 v33 (AV.i .i64 x3) h fun v34=>
pLoad1 v34 h fun v35=>
asS v35 fun l36=>
(bif (decide ((100:Int)<(l36.length:Int))) then
(Q (AV.b false) h)
else
(withI (IntKind.wrap .i64 (x3+1)) fun n40=>
J 2 [(1,x1),(3,(AV.i .i64 n40))] h)))
else
(Q (AV.b true) h))
theorem Y21.t1_eq (J:JT) (Q:AV→AHeap→Prop) (x1:AV) (x3:Int) (h:AHeap):Y21.t1 J Q x1 x3 h=atJ prog C 46 J true [1,1,0,1,0] Y21.ann Y21.body [(1,x1),(3,(AV.i .i64 x3))] h (kFun prog Tryz.f13 Q):=by kernel_rfl
theorem Y21.i1 {Q:AV→AHeap→Prop} {x1:AV} {x3:Int} {h:AHeap} (H:Y21.t1 (Y21.J Q) Q x1 x3 h):Y21.p1 Q x1 x3 h:=Y21.goH (k:=2) (p:=[1,1,0,1,0]) (by kernel_rfl) ((Y21.t1_eq (Y21.J Q) Q x1 x3 h).mp H)
def Y21.t (J:JT) (Q:AV→AHeap→Prop) (x0:AV) (h:AHeap):Prop:=
pBox (some 25) x0 h fun v0 h1=>
pFieldAddr 5 v0 fun v3=>
pLoad1 v3 h1 fun v4=>
pLenSl v4 fun n5=>
(bif (decide ((20:Int)<n5)) then
(J 1 [(1,v0),(31,(AV.b true))] h1)
else
(pFieldAddr 1 v0 fun v7=>
pLoad1 v7 h1 fun v8=>
asS v8 fun l9=>
(bif (decide ((2000:Int)<(l9.length:Int))) then
(J 1 [(1,v0),(31,(AV.b true))] h1)
else
(pFieldAddr 2 v0 fun v11=>
pLoad1 v11 h1 fun v12=>
asS v12 fun l13=>
(bif (decide ((2000:Int)<(l13.length:Int))) then
(J 1 [(1,v0),(31,(AV.b true))] h1)
else
(pFieldAddr 0 v0 fun v15=>
pLoad1 v15 h1 fun v16=>
asS v16 fun l17=>
(bif (decide ((2000:Int)<(l17.length:Int))) then
(J 1 [(1,v0),(31,(AV.b true))] h1)
else
(pFieldAddr 7 v0 fun v19=>
pLoad1 v19 h1 fun v20=>
asS v20 fun l21=>
J 1 [(1,v0),(31,(AV.b (decide ((2000:Int)<(l21.length:Int)))))] h1))))))))
theorem Y21.t_eq (J:JT) (Q:AV→AHeap→Prop) (x0:AV) (h:AHeap):Y21.t J Q x0 h=exJ prog C 46 J Y21.ann Y21.body (initEnv 0 [x0]) h (kFun prog Tryz.f13 Q):=by kernel_rfl
theorem Y21.call {K:AV→AHeap→Prop} {x0:AV} {h:AHeap} (H:Y21.t (Y21.J (kRet h K)) (kRet h K) x0 h):C Y21.id [x0] h K:=
  callJ (P:=prog) (fn:=Tryz.f13) (ann:=Y21.ann) (body:=Y21.body) Tryz.func13 Y21.body_eq (by kernel_rfl) Y21.dist (by kernel_rfl) ((Y21.t_eq (Y21.J (kRet h K)) (kRet h K) x0 h).mp H)
noncomputable def Y4.body:Code:=(Tryz.f14.body).getD .skip
def Y4.ann:Ann:=(.seq 0 [1] .leaf (.seq 0 [1] (.seq 0 [1,4] .leaf (.seq 0 [1,4,27] .leaf (.br (.seq 0 [2,3] .leaf .leaf) .leaf))) (.seq 0 [1,5] .leaf (.seq 0 [1,7] .leaf (.seq 0 [1,7,8] .leaf (.seq 0 [1,7,8,10] .leaf (.seq 0 [1,7,8,10,12] .leaf (.seq 0 [1,7,14] (.ord (.neu 0 (.neu 4 (.neu 5 (.neu 7 (.neu 8 (.neu 9 (.neu 10 (.neu 11 (.neu 13 (.neu 14 (.neu 18 (.neu 19 (.neu 20 (.neu 21 (.neu 22 (.neu 23 (.neu 24 (.eff 1 (.eff 2 (.eff 3 (.eff 6 (.eff 12 (.eff 15 (.eff 16 (.eff 17 (.eff 25 (.eff 26 (.eff 27 (.eff 28 (.neu 29 .done) .stop) .stop) .stop) .stop) .stop) .stop) .stop) .stop) .stop) .stop) .stop) .stop))))))))))))))))))) (.seq 0 [1,7,14,15] .leaf (.seq 2 [1,7,14,15] (.seq 0 [1,7,14,15,87] .leaf (.br (.seq 0 [1,7,14,15,16] .leaf (.seq 0 [1,7,14,15,16] (.seq 0 [1,7,14,15,16,89,90,91] .leaf (.one (.loop 1 [1,7,14,15,16,89,90,91] (.seq 0 [1,7,14,15,16,89,90,91,92] .leaf (.seq 0 [1,7,14,15,16,89,90,91] (.br .leaf .leaf) (.seq 0 [1,7,14,15,16,89,90,91] (.one (.seq 0 [1,7,14,15,16,18,89,90,91] .leaf .leaf)) .leaf)))))) (.seq 0 [1,7,14,15,19,20] .leaf (.seq 0 [1,7,14,15,19] (.seq 0 [1,7,14,15,19,20,110] .leaf (.br (.seq 0 [2,3] .leaf .leaf) .leaf)) .leaf)))) .leaf)) (.seq 4 [1,7,14,15] (.seq 0 [1,7,14,15,117] .leaf (.br (.seq 3 [1,7,14,15,21,22] (.ord (.neu 0 (.neu 1 (.eff 2 (.eff 3 (.eff 4 (.eff 5 (.neu 6 (.neu 7 (.neu 8 (.eff 9 (.eff 10 (.neu 11 .done) .stop) .stop)))) (.eff 9 (.eff 5 (.neu 6 (.neu 7 (.neu 8 (.eff 10 (.neu 11 .done) .stop)))) .stop) .stop)) (.eff 9 (.eff 4 (.eff 5 (.neu 6 (.neu 7 (.neu 8 (.eff 10 (.neu 11 .done) .stop)))) .stop) .stop) .stop)) (.eff 9 (.eff 3 (.eff 4 (.eff 5 (.neu 6 (.neu 7 (.neu 8 (.eff 10 (.neu 11 .done) .stop)))) .stop) .stop) .stop) .stop)) (.eff 9 (.eff 2 (.eff 3 (.eff 4 (.eff 5 (.neu 6 (.neu 7 (.neu 8 (.eff 10 (.neu 11 .done) .stop)))) .stop) .stop) .stop) .stop) .stop))))) (.seq 0 [1,7,14,15,21] (.seq 0 [1,7,14,15,21,22,128] .leaf (.br (.seq 0 [2,3] .leaf .leaf) .leaf)) .leaf)) .leaf)) (.seq 5 [1,7,14] (.seq 0 [1,7,14,15,136] .leaf (.br (.ord (.neu 0 (.neu 1 (.neu 2 (.neu 3 (.eff 4 (.eff 5 (.eff 6 (.eff 7 (.eff 8 (.eff 9 .done .stop) .stop) .stop) .stop) .stop) .stop)))))) .leaf)) (.seq 0 [7,14,23] .leaf (.seq 0 [2,3] (.ord (.neu 0 (.neu 1 (.neu 2 (.neu 4 (.neu 5 (.neu 6 (.neu 7 (.eff 3 (.eff 8 (.eff 9 (.eff 10 (.eff 11 (.neu 12 (.neu 13 (.neu 14 (.neu 15 .done)))) .stop) .stop) .stop) .stop) .stop))))))))) .leaf))))))))))))))
theorem Y4.body_eq:Tryz.f14.body=some Y4.body:=by kernel_rfl
theorem Y4.dist:noTwice (places Y4.ann Y4.body)=true:=by kernel_rfl
noncomputable def Y4.J (Q:AV→AHeap→Prop):JT:=funJ prog C Tryz.f14 Y4.ann Y4.body Q
theorem Y4.goR {Q:AV→AHeap→Prop} {k:Nat} {p:List Nat} (hl:lookJ (places Y4.ann Y4.body) k=some (p,false)) {e:Env} {h:AHeap} (hk:atJ prog C 164 (Y4.J Q) false p Y4.ann Y4.body e h (kFun prog Tryz.f14 Q)):Y4.J Q k e h:=goJ_run (P:=prog) (fn:=Tryz.f14) (ann:=Y4.ann) (body:=Y4.body) (Q:=Q) (k:=k) (p:=p) (e:=e) (h:=h) (acall_le X) Y4.dist hl hk
theorem Y4.goH {Q:AV→AHeap→Prop} {k:Nat} {p:List Nat} (hl:lookJ (places Y4.ann Y4.body) k=some (p,true)) {e:Env} {h:AHeap} (hk:atJ prog C 164 (Y4.J Q) true p Y4.ann Y4.body e h (kFun prog Tryz.f14 Q)):Y4.J Q k e h:=goJ_head (P:=prog) (fn:=Tryz.f14) (ann:=Y4.ann) (body:=Y4.body) (Q:=Q) (k:=k) (p:=p) (e:=e) (h:=h) (acall_le X) Y4.dist hl hk
def Y4.p0 (Q:AV→AHeap→Prop) (x1:AV) (x7:AV) (x14:AV) (x15:AV) (x16:AV) (x89:AV) (x90:Int) (x91:Int) (h:AHeap):Prop:=Y4.J Q 1 [(1,x1),(7,x7),(14,x14),(15,x15),(16,x16),(89,x89),(90,(AV.i .i64 x90)),(91,(AV.i .i64 x91))] h
theorem Y4.j0 (Q:AV→AHeap→Prop) (x1:AV) (x7:AV) (x14:AV) (x15:AV) (x16:AV) (x89:AV) (x90:Int) (x91:Int) (h:AHeap):Y4.J Q 1 [(1,x1),(7,x7),(14,x14),(15,x15),(16,x16),(89,x89),(90,(AV.i .i64 x90)),(91,(AV.i .i64 x91))] h=Y4.p0 Q x1 x7 x14 x15 x16 x89 x90 x91 h:=rfl
def Y4.p2 (Q:AV→AHeap→Prop) (x1:AV) (x7:AV) (x14:AV) (x15:AV) (x21:AV) (x22:Int) (h:AHeap):Prop:=Y4.J Q 3 [(1,x1),(7,x7),(14,x14),(15,x15),(21,x21),(22,(AV.i .i64 x22))] h
theorem Y4.j2 (Q:AV→AHeap→Prop) (x1:AV) (x7:AV) (x14:AV) (x15:AV) (x21:AV) (x22:Int) (h:AHeap):Y4.J Q 3 [(1,x1),(7,x7),(14,x14),(15,x15),(21,x21),(22,(AV.i .i64 x22))] h=Y4.p2 Q x1 x7 x14 x15 x21 x22 h:=rfl
def Y4.p4 (Q:AV→AHeap→Prop) (x1:AV) (x7:AV) (x14:AV) (h:AHeap):Prop:=Y4.J Q 5 [(1,x1),(7,x7),(14,x14)] h
theorem Y4.j4 (Q:AV→AHeap→Prop) (x1:AV) (x7:AV) (x14:AV) (h:AHeap):Y4.J Q 5 [(1,x1),(7,x7),(14,x14)] h=Y4.p4 Q x1 x7 x14 h:=rfl
def Y4.p3 (Q:AV→AHeap→Prop) (x1:AV) (x7:AV) (x14:AV) (x15:AV) (h:AHeap):Prop:=Y4.J Q 4 [(1,x1),(7,x7),(14,x14),(15,x15)] h
theorem Y4.j3 (Q:AV→AHeap→Prop) (x1:AV) (x7:AV) (x14:AV) (x15:AV) (h:AHeap):Y4.J Q 4 [(1,x1),(7,x7),(14,x14),(15,x15)] h=Y4.p3 Q x1 x7 x14 x15 h:=rfl
def Y4.p1 (Q:AV→AHeap→Prop) (x1:AV) (x7:AV) (x14:AV) (x15:AV) (h:AHeap):Prop:=Y4.J Q 2 [(1,x1),(7,x7),(14,x14),(15,x15)] h
theorem Y4.j1 (Q:AV→AHeap→Prop) (x1:AV) (x7:AV) (x14:AV) (x15:AV) (h:AHeap):Y4.J Q 2 [(1,x1),(7,x7),(14,x14),(15,x15)] h=Y4.p1 Q x1 x7 x14 x15 h:=rfl
def Y4.t0 (J:JT) (Q:AV→AHeap→Prop) (x1:AV) (x7:AV) (x14:AV) (x15:AV) (x16:AV) (x89:AV) (x90:Int) (x91:Int) (h:AHeap):Prop:=
(bif (decide ((x91:Int)<x90)) then
(pIdxAddrSl 1 x89 (AV.i .i64 x91) h fun v288=>
pLoad1 v288 h fun v289=>
asS v289 fun l290=>
pLoadN 3 (gvar h 4) h fun v292=>
C Y46.id [v292,(AV.s l290)] h fun v293 h294=>
pBuildSl 5 1 [(AV.i .i64 0),(AV.i .i64 0),(AV.b false),(AV.s []),(AV.sl none 0 none)] [(0,5,v293)] h294 fun v295 h296=>
pAppend none 5 64 x16 v295 h296 fun v297 h298=>
withI (IntKind.wrap .i64 (x91+1)) fun n300=>
J 1 [(1,x1),(7,x7),(14,x14),(15,x15),(16,v297),(89,x89),(90,(AV.i .i64 x90)),(91,(AV.i .i64 n300))] h298)
else
(pLoadN 3 (gvar h 0) h fun v302=>
C Y44.id [v302,x16] h fun v303 h304=>
C Y49.id [(AV.s [50,46,53,46,50,57,46,49,55]),v303] h304 fun v305 h306=>
pExtract 0 v305 fun v307=>
pExtract 1 v305 fun v308=>
asI .i64 v308 fun n309=>
pAlloc (some 33) [(AV.i .i64 0),(AV.i .i64 0),(AV.b false),(AV.s []),(AV.sl none 0 none)] h306 fun v310 h311=>
pStore 5 v310 v307 h311 fun h312=>
(bif (!decide ((n309:Int)=0)) then
(Q (AV.tu [(AV.s []),(AV.i .i64 n309)]) h312)
else
(pLoadN 5 v310 h312 fun v317=>
pBuildSl 5 1 [(AV.i .i64 0),(AV.i .i64 0),(AV.b false),(AV.s []),(AV.sl none 0 none)] [(0,5,v317)] h312 fun v318 h319=>
pAppend none 5 64 x15 v318 h319 fun v320 h321=>
J 2 [(1,x1),(7,x7),(14,x14),(15,v320)] h321))))
theorem Y4.t0_eq (J:JT) (Q:AV→AHeap→Prop) (x1:AV) (x7:AV) (x14:AV) (x15:AV) (x16:AV) (x89:AV) (x90:Int) (x91:Int) (h:AHeap):Y4.t0 J Q x1 x7 x14 x15 x16 x89 x90 x91 h=atJ prog C 164 J true [1,1,1,1,1,1,1,1,1,0,1,0,1,0,1,0] Y4.ann Y4.body [(1,x1),(7,x7),(14,x14),(15,x15),(16,x16),(89,x89),(90,(AV.i .i64 x90)),(91,(AV.i .i64 x91))] h (kFun prog Tryz.f14 Q):=by kernel_rfl
theorem Y4.i0 {Q:AV→AHeap→Prop} {x1:AV} {x7:AV} {x14:AV} {x15:AV} {x16:AV} {x89:AV} {x90:Int} {x91:Int} {h:AHeap} (H:Y4.t0 (Y4.J Q) Q x1 x7 x14 x15 x16 x89 x90 x91 h):Y4.p0 Q x1 x7 x14 x15 x16 x89 x90 x91 h:=Y4.goH (k:=1) (p:=[1,1,1,1,1,1,1,1,1,0,1,0,1,0,1,0]) (by kernel_rfl) ((Y4.t0_eq (Y4.J Q) Q x1 x7 x14 x15 x16 x89 x90 x91 h).mp H)
def Y4.t2 (J:JT) (Q:AV→AHeap→Prop) (x1:AV) (x7:AV) (x14:AV) (x15:AV) (x21:AV) (x22:Int) (h:AHeap):Prop:=
(bif (!decide ((x22:Int)=0)) then
(Q (AV.tu [(AV.s []),(AV.i .i64 x22)]) h)
else
(pLoadN 5 x21 h fun v428=>
pBuildSl 5 1 [(AV.i .i64 0),(AV.i .i64 0),(AV.b false),(AV.s []),(AV.sl none 0 none)] [(0,5,v428)] h fun v429 h430=>
pAppend none 5 64 x15 v429 h430 fun v431 h432=>
J 4 [(1,x1),(7,x7),(14,x14),(15,v431)] h432))
theorem Y4.t2_eq (J:JT) (Q:AV→AHeap→Prop) (x1:AV) (x7:AV) (x14:AV) (x15:AV) (x21:AV) (x22:Int) (h:AHeap):Y4.t2 J Q x1 x7 x14 x15 x21 x22 h=atJ prog C 164 J false [1,1,1,1,1,1,1,1,1,1,0,1,0,1] Y4.ann Y4.body [(1,x1),(7,x7),(14,x14),(15,x15),(21,x21),(22,(AV.i .i64 x22))] h (kFun prog Tryz.f14 Q):=by kernel_rfl
theorem Y4.i2 {Q:AV→AHeap→Prop} {x1:AV} {x7:AV} {x14:AV} {x15:AV} {x21:AV} {x22:Int} {h:AHeap} (H:Y4.t2 (Y4.J Q) Q x1 x7 x14 x15 x21 x22 h):Y4.p2 Q x1 x7 x14 x15 x21 x22 h:=Y4.goR (k:=3) (p:=[1,1,1,1,1,1,1,1,1,1,0,1,0,1]) (by kernel_rfl) ((Y4.t2_eq (Y4.J Q) Q x1 x7 x14 x15 x21 x22 h).mp H)
def Y4.t4 (J:JT) (Q:AV→AHeap→Prop) (x1:AV) (x7:AV) (x14:AV) (h:AHeap):Prop:=
pFieldAddr 7 x1 fun v459=>
pLoad1 v459 h fun v460=>
asS v460 fun l461=>
pCat l461 [0,0,0,0,0,0,0,0] fun l462=>
pSliceStr (AV.s l462) none (some (AV.i .i64 8)) fun l463=>
pLoadN 3 (gvar h 0) h fun v465=>
pLoadN 3 (gvar h 0) h fun v466=>
pLoadN 5 x7 h fun v467=>
pLoadN 3 (gvar h 1) h fun v468=>
pCat [0] l463 fun l469=>
C Y44.id [v466,x14] h fun v470 h471=>
pLoadN 3 (gvar h471 1) h471 fun v472=>
(v468=v472 ∧
(pLoadN 5 x7 h471 fun v473=>
(v467=v473 ∧
(pLoadN 3 (gvar h471 0) h471 fun v474=>
(v465=v474 ∧
(C Y46.id [v468,(AV.s l469)] h471 fun v475 h476=>
pLoadN 5 x7 h476 fun v477=>
(v467=v477 ∧
(pLoadN 3 (gvar h476 0) h476 fun v478=>
(v466=v478 ∧
(pLoadN 3 (gvar h476 0) h476 fun v479=>
(v465=v479 ∧
(pBuildSl 5 3 [(AV.i .i64 0),(AV.i .i64 0),(AV.b false),(AV.s []),(AV.sl none 0 none),(AV.i .i64 0),(AV.i .i64 0),(AV.b false),(AV.s []),(AV.sl none 0 none),(AV.i .i64 0),(AV.i .i64 0),(AV.b false),(AV.s []),(AV.sl none 0 none)] [(0,5,v470),(5,5,v467),(10,5,v475)] h476 fun v480 h481=>
pLoadN 3 (gvar h481 1) h481 fun v482=>
(v468=v482 ∧
(pLoadN 3 (gvar h481 0) h481 fun v483=>
(v466=v483 ∧
(pLoadN 3 (gvar h481 0) h481 fun v484=>
(v465=v484 ∧
(C Y44.id [v465,v480] h481 fun v485 h486=>
pLoadN 3 (gvar h486 1) h486 fun v487=>
(v468=v487 ∧
(pLoadN 5 x7 h486 fun v488=>
(v467=v488 ∧
(pLoadN 3 (gvar h486 0) h486 fun v489=>
(v466=v489 ∧
(C Y56.id [v485] h486 fun v490 h491=>
pLoadN 3 (gvar h491 1) h491 fun v492=>
(v468=v492 ∧
(pLoadN 5 x7 h491 fun v493=>
(v467=v493 ∧
(pLoadN 3 (gvar h491 0) h491 fun v494=>
(v466=v494 ∧
(pLoadN 3 (gvar h491 0) h491 fun v495=>
(v465=v495 ∧
(pExtract 0 v490 fun v496=>
asS v496 fun l497=>
pExtract 1 v490 fun v498=>
asI .i64 v498 fun n499=>
Q (AV.tu [(AV.s l497),(AV.i .i64 n499)]) h491))))))))))))))))))))))))))))))))
theorem Y4.t4_eq (J:JT) (Q:AV→AHeap→Prop) (x1:AV) (x7:AV) (x14:AV) (h:AHeap):Y4.t4 J Q x1 x7 x14 h=atJ prog C 164 J false [1,1,1,1,1,1,1,1,1,1,1,1] Y4.ann Y4.body [(1,x1),(7,x7),(14,x14)] h (kFun prog Tryz.f14 Q):=by kernel_rfl
theorem Y4.i4 {Q:AV→AHeap→Prop} {x1:AV} {x7:AV} {x14:AV} {h:AHeap} (H:Y4.t4 (Y4.J Q) Q x1 x7 x14 h):Y4.p4 Q x1 x7 x14 h:=Y4.goR (k:=5) (p:=[1,1,1,1,1,1,1,1,1,1,1,1]) (by kernel_rfl) ((Y4.t4_eq (Y4.J Q) Q x1 x7 x14 h).mp H)
def Y4.t3 (J:JT) (Q:AV→AHeap→Prop) (x1:AV) (x7:AV) (x14:AV) (x15:AV) (h:AHeap):Prop:=
pLenSl x15 fun n435=>
(bif (decide ((0:Int)<n435)) then
(pLoadN 3 (gvar h 6) h fun v437=>
pLoadN 3 (gvar h 0) h fun v438=>
C Y44.id [v438,x15] h fun v439 h440=>
pLoadN 3 (gvar h440 6) h440 fun v441=>
(v437=v441 ∧
(pBuildSl 5 1 [(AV.i .i64 0),(AV.i .i64 0),(AV.b false),(AV.s []),(AV.sl none 0 none)] [(0,5,v439)] h440 fun v442 h443=>
pLoadN 3 (gvar h443 0) h443 fun v444=>
(v438=v444 ∧
(pLoadN 3 (gvar h443 6) h443 fun v445=>
(v437=v445 ∧
(C Y44.id [v437,v442] h443 fun v446 h447=>
pLoadN 3 (gvar h447 0) h447 fun v448=>
(v438=v448 ∧
(pBuildSl 5 1 [(AV.i .i64 0),(AV.i .i64 0),(AV.b false),(AV.s []),(AV.sl none 0 none)] [(0,5,v446)] h447 fun v449 h450=>
pLoadN 3 (gvar h450 0) h450 fun v451=>
(v438=v451 ∧
(pLoadN 3 (gvar h450 6) h450 fun v452=>
(v437=v452 ∧
(pAppend none 5 64 x14 v449 h450 fun v453 h454=>
pLoadN 3 (gvar h454 0) h454 fun v455=>
(v438=v455 ∧
(pLoadN 3 (gvar h454 6) h454 fun v456=>
(v437=v456 ∧
(J 5 [(1,x1),(7,x7),(14,v453)] h454)))))))))))))))))
else
(J 5 [(1,x1),(7,x7),(14,x14)] h))
theorem Y4.t3_eq (J:JT) (Q:AV→AHeap→Prop) (x1:AV) (x7:AV) (x14:AV) (x15:AV) (h:AHeap):Y4.t3 J Q x1 x7 x14 x15 h=atJ prog C 164 J false [1,1,1,1,1,1,1,1,1,1,1] Y4.ann Y4.body [(1,x1),(7,x7),(14,x14),(15,x15)] h (kFun prog Tryz.f14 Q):=by kernel_rfl
theorem Y4.i3 {Q:AV→AHeap→Prop} {x1:AV} {x7:AV} {x14:AV} {x15:AV} {h:AHeap} (H:Y4.t3 (Y4.J Q) Q x1 x7 x14 x15 h):Y4.p3 Q x1 x7 x14 x15 h:=Y4.goR (k:=4) (p:=[1,1,1,1,1,1,1,1,1,1,1]) (by kernel_rfl) ((Y4.t3_eq (Y4.J Q) Q x1 x7 x14 x15 h).mp H)
def Y4.t1 (J:JT) (Q:AV→AHeap→Prop) (x1:AV) (x7:AV) (x14:AV) (x15:AV) (h:AHeap):Prop:=
pFieldAddr 6 x1 fun v324=>
pLoad1 v324 h fun v325=>
asB v325 fun c326=>
(bif c326 then
(pLoadN 3 (gvar h 0) h fun v328=>
pLoadN 3 (gvar h 5) h fun v329=>
((C Y46.id [v329,(AV.s [255])] h fun v330 h331=>
pLoadN 3 (gvar h331 0) h331 fun v332=>
(v328=v332 ∧
(((pBuildSl 5 1 [(AV.i .i64 0),(AV.i .i64 0),(AV.b false),(AV.s []),(AV.sl none 0 none)] [(0,5,v330)] h331 fun v333 h334=>
pLoadN 3 (gvar h334 5) h334 fun v335=>
(v329=v335 ∧
(pLoadN 3 (gvar h334 0) h334 fun v336=>
(v328=v336 ∧
(((C Y44.id [v328,v333] h334 fun v337 h338=>
pLoadN 3 (gvar h338 5) h338 fun v339=>
(v329=v339 ∧
(((C Y49.id [(AV.s [50,46,53,46,50,57,46,49,57]),v337] h338 fun v340 h341=>
pLoadN 3 (gvar h341 5) h341 fun v342=>
(v329=v342 ∧
(pLoadN 3 (gvar h341 0) h341 fun v343=>
(v328=v343 ∧
(pExtract 0 v340 fun v344=>
pExtract 1 v340 fun v345=>
asI .i64 v345 fun n346=>
pAlloc (some 33) [(AV.i .i64 0),(AV.i .i64 0),(AV.b false),(AV.s []),(AV.sl none 0 none)] h341 fun v347 h348=>
pLoadN 3 (gvar h348 5) h348 fun v349=>
(v329=v349 ∧
(pLoadN 3 (gvar h348 0) h348 fun v350=>
(v328=v350 ∧
(pStore 5 v347 v344 h348 fun h351=>
J 3 [(1,x1),(7,x7),(14,x14),(15,x15),(21,v347),(22,(AV.i .i64 n346))] h351))))))))) ∧
(pAlloc (some 33) [(AV.i .i64 0),(AV.i .i64 0),(AV.b false),(AV.s []),(AV.sl none 0 none)] h338 fun v353 h354=>
pLoadN 3 (gvar h354 5) h354 fun v355=>
(v329=v355 ∧
(pLoadN 3 (gvar h354 0) h354 fun v356=>
(v328=v356 ∧
(C Y49.id [(AV.s [50,46,53,46,50,57,46,49,57]),v337] h354 fun v357 h358=>
pLoadN 3 (gvar h358 5) h358 fun v359=>
(v329=v359 ∧
(pLoadN 3 (gvar h358 0) h358 fun v360=>
(v328=v360 ∧
(pExtract 0 v357 fun v361=>
pExtract 1 v357 fun v362=>
asI .i64 v362 fun n363=>
pStore 5 v353 v361 h358 fun h364=>
J 3 [(1,x1),(7,x7),(14,x14),(15,x15),(21,v353),(22,(AV.i .i64 n363))] h364))))))))))))) ∧
(pAlloc (some 33) [(AV.i .i64 0),(AV.i .i64 0),(AV.b false),(AV.s []),(AV.sl none 0 none)] h334 fun v366 h367=>
pLoadN 3 (gvar h367 5) h367 fun v368=>
(v329=v368 ∧
(pLoadN 3 (gvar h367 0) h367 fun v369=>
(v328=v369 ∧
(C Y44.id [v328,v333] h367 fun v370 h371=>
pLoadN 3 (gvar h371 5) h371 fun v372=>
(v329=v372 ∧
(C Y49.id [(AV.s [50,46,53,46,50,57,46,49,57]),v370] h371 fun v373 h374=>
pLoadN 3 (gvar h374 5) h374 fun v375=>
(v329=v375 ∧
(pLoadN 3 (gvar h374 0) h374 fun v376=>
(v328=v376 ∧
(pExtract 0 v373 fun v377=>
pExtract 1 v373 fun v378=>
asI .i64 v378 fun n379=>
pStore 5 v366 v377 h374 fun h380=>
J 3 [(1,x1),(7,x7),(14,x14),(15,x15),(21,v366),(22,(AV.i .i64 n379))] h380))))))))))))))))) ∧
(pAlloc (some 33) [(AV.i .i64 0),(AV.i .i64 0),(AV.b false),(AV.s []),(AV.sl none 0 none)] h331 fun v382 h383=>
pLoadN 3 (gvar h383 5) h383 fun v384=>
(v329=v384 ∧
(pLoadN 3 (gvar h383 0) h383 fun v385=>
(v328=v385 ∧
(pBuildSl 5 1 [(AV.i .i64 0),(AV.i .i64 0),(AV.b false),(AV.s []),(AV.sl none 0 none)] [(0,5,v330)] h383 fun v386 h387=>
pLoadN 3 (gvar h387 5) h387 fun v388=>
(v329=v388 ∧
(pLoadN 3 (gvar h387 0) h387 fun v389=>
(v328=v389 ∧
(C Y44.id [v328,v386] h387 fun v390 h391=>
pLoadN 3 (gvar h391 5) h391 fun v392=>
(v329=v392 ∧
(C Y49.id [(AV.s [50,46,53,46,50,57,46,49,57]),v390] h391 fun v393 h394=>
pLoadN 3 (gvar h394 5) h394 fun v395=>
(v329=v395 ∧
(pLoadN 3 (gvar h394 0) h394 fun v396=>
(v328=v396 ∧
(pExtract 0 v393 fun v397=>
pExtract 1 v393 fun v398=>
asI .i64 v398 fun n399=>
pStore 5 v382 v397 h394 fun h400=>
J 3 [(1,x1),(7,x7),(14,x14),(15,x15),(21,v382),(22,(AV.i .i64 n399))] h400))))))))))))))))))) ∧
(pAlloc (some 33) [(AV.i .i64 0),(AV.i .i64 0),(AV.b false),(AV.s []),(AV.sl none 0 none)] h fun v402 h403=>
pLoadN 3 (gvar h403 5) h403 fun v404=>
(v329=v404 ∧
(pLoadN 3 (gvar h403 0) h403 fun v405=>
(v328=v405 ∧
(C Y46.id [v329,(AV.s [255])] h403 fun v406 h407=>
pLoadN 3 (gvar h407 0) h407 fun v408=>
(v328=v408 ∧
(pBuildSl 5 1 [(AV.i .i64 0),(AV.i .i64 0),(AV.b false),(AV.s []),(AV.sl none 0 none)] [(0,5,v406)] h407 fun v409 h410=>
pLoadN 3 (gvar h410 5) h410 fun v411=>
(v329=v411 ∧
(pLoadN 3 (gvar h410 0) h410 fun v412=>
(v328=v412 ∧
(C Y44.id [v328,v409] h410 fun v413 h414=>
pLoadN 3 (gvar h414 5) h414 fun v415=>
(v329=v415 ∧
(C Y49.id [(AV.s [50,46,53,46,50,57,46,49,57]),v413] h414 fun v416 h417=>
pLoadN 3 (gvar h417 5) h417 fun v418=>
(v329=v418 ∧
(pLoadN 3 (gvar h417 0) h417 fun v419=>
(v328=v419 ∧
(pExtract 0 v416 fun v420=>
pExtract 1 v416 fun v421=>
asI .i64 v421 fun n422=>
pStore 5 v402 v420 h417 fun h423=>
J 3 [(1,x1),(7,x7),(14,x14),(15,x15),(21,v402),(22,(AV.i .i64 n422))] h423)))))))))))))))))))
else
(J 4 [(1,x1),(7,x7),(14,x14),(15,x15)] h))
theorem Y4.t1_eq (J:JT) (Q:AV→AHeap→Prop) (x1:AV) (x7:AV) (x14:AV) (x15:AV) (h:AHeap):Y4.t1 J Q x1 x7 x14 x15 h=atJ prog C 164 J false [1,1,1,1,1,1,1,1,1,1] Y4.ann Y4.body [(1,x1),(7,x7),(14,x14),(15,x15)] h (kFun prog Tryz.f14 Q):=by kernel_rfl
theorem Y4.i1 {Q:AV→AHeap→Prop} {x1:AV} {x7:AV} {x14:AV} {x15:AV} {h:AHeap} (H:Y4.t1 (Y4.J Q) Q x1 x7 x14 x15 h):Y4.p1 Q x1 x7 x14 x15 h:=Y4.goR (k:=2) (p:=[1,1,1,1,1,1,1,1,1,1]) (by kernel_rfl) ((Y4.t1_eq (Y4.J Q) Q x1 x7 x14 x15 h).mp H)
def Y4.t (J:JT) (Q:AV→AHeap→Prop) (x0:AV) (h:AHeap):Prop:=
pBox (some 25) x0 h fun v0 h1=>
pLoadN 8 v0 h1 fun v3=>
C Y12.id [v3] h1 fun v4 h5=>
asI .i64 v4 fun n6=>
(bif (!decide ((n6:Int)=0)) then
(Q (AV.tu [(AV.s []),(AV.i .i64 n6)]) h5)
else
(C Y3.id [(AV.s [49,46,50,46,56,52,48,46,49,48,48,52,53,46,52,46,51,46,50])] h5 fun v11 h12=>
pExtract 0 v11 fun v13=>
pExtract 1 v11 fun v14=>
asI .i64 v14 fun n15=>
pAlloc (some 33) [(AV.i .i64 0),(AV.i .i64 0),(AV.b false),(AV.s []),(AV.sl none 0 none)] h12 fun v16 h17=>
pStore 5 v16 v13 h17 fun h18=>
pLoadN 3 (gvar h18 0) h18 fun v20=>
pLoadN 5 v16 h18 fun v21=>
pBuildSl 5 1 [(AV.i .i64 0),(AV.i .i64 0),(AV.b false),(AV.s []),(AV.sl none 0 none)] [(0,5,v21)] h18 fun v22 h23=>
C Y44.id [v20,v22] h23 fun v24 h25=>
pAlloc (some 33) [(AV.i .i64 0),(AV.i .i64 0),(AV.b false),(AV.s []),(AV.sl none 0 none)] h25 fun v26 h27=>
pStore 5 v26 v24 h27 fun h28=>
pFieldAddr 0 v0 fun v30=>
pLoad1 v30 h28 fun v31=>
asS v31 fun l32=>
C Y10.id [(AV.s l32)] h28 fun v33 h34=>
pExtract 0 v33 fun v35=>
asS v35 fun l36=>
pExtract 1 v33 fun v37=>
asB v37 fun c38=>
pFieldAddr 1 v0 fun v40=>
pLoad1 v40 h34 fun v41=>
asS v41 fun l42=>
C Y8.id [(AV.s l42)] h34 fun v43 h44=>
pExtract 0 v43 fun v45=>
pExtract 1 v43 fun v46=>
asI .i64 v46 fun n47=>
pAlloc (some 33) [(AV.i .i64 0),(AV.i .i64 0),(AV.b false),(AV.s []),(AV.sl none 0 none)] h44 fun v48 h49=>
pStore 5 v48 v45 h49 fun h50=>
pFieldAddr 2 v0 fun v52=>
pLoad1 v52 h50 fun v53=>
asS v53 fun l54=>
C Y8.id [(AV.s l54)] h50 fun v55 h56=>
pExtract 0 v55 fun v57=>
pExtract 1 v55 fun v58=>
asI .i64 v58 fun n59=>
pAlloc (some 33) [(AV.i .i64 0),(AV.i .i64 0),(AV.b false),(AV.s []),(AV.sl none 0 none)] h56 fun v60 h61=>
pStore 5 v60 v57 h61 fun h62=>
pLoadN 3 (gvar h62 2) h62 fun v64=>
pLoadN 3 (gvar h62 3) h62 fun v65=>
pLoadN 5 v26 h62 fun v66=>
pLoadN 5 v48 h62 fun v67=>
pLoadN 3 (gvar h62 0) h62 fun v68=>
pFieldAddr 3 v0 fun v69=>
pLoad1 v69 h62 fun v70=>
asI .i64 v70 fun n71=>
pFieldAddr 4 v0 fun v72=>
pLoad1 v72 h62 fun v73=>
asI .i64 v73 fun n74=>
pLoadN 5 v60 h62 fun v75=>
pLoadN 3 (gvar h62 0) h62 fun v76=>
pLoadN 5 v26 h62 fun v77=>
pLoadN 3 (gvar h62 1) h62 fun v78=>
pFieldAddr 7 v0 fun v79=>
pLoad1 v79 h62 fun v80=>
asS v80 fun l81=>
pCat [0] l81 fun l82=>
C Y9.id [(AV.i .i64 2)] h62 fun v83 h84=>
pLoad1 v79 h84 fun v85=>
asS v85 fun l86=>
((AV.s l81)=(AV.s l86) ∧
(pLoadN 3 (gvar h84 1) h84 fun v87=>
(v78=v87 ∧
(pLoadN 5 v26 h84 fun v88=>
(v77=v88 ∧
(pLoadN 3 (gvar h84 0) h84 fun v89=>
(v76=v89 ∧
(pLoadN 5 v60 h84 fun v90=>
(v75=v90 ∧
(pLoad1 v72 h84 fun v91=>
asI .i64 v91 fun n92=>
((AV.i .i64 n74)=(AV.i .i64 n92) ∧
(pLoad1 v69 h84 fun v93=>
asI .i64 v93 fun n94=>
((AV.i .i64 n71)=(AV.i .i64 n94) ∧
(pLoadN 3 (gvar h84 0) h84 fun v95=>
(v68=v95 ∧
(pLoadN 5 v48 h84 fun v96=>
(v67=v96 ∧
(pLoadN 5 v26 h84 fun v97=>
(v66=v97 ∧
(pLoadN 3 (gvar h84 3) h84 fun v98=>
(v65=v98 ∧
(pLoadN 3 (gvar h84 2) h84 fun v99=>
(v64=v99 ∧
(pBuildSl 5 1 [(AV.i .i64 0),(AV.i .i64 0),(AV.b false),(AV.s []),(AV.sl none 0 none)] [(0,5,v83)] h84 fun v100 h101=>
pLoad1 v79 h101 fun v102=>
asS v102 fun l103=>
((AV.s l81)=(AV.s l103) ∧
(pLoadN 3 (gvar h101 1) h101 fun v104=>
(v78=v104 ∧
(pLoadN 5 v26 h101 fun v105=>
(v77=v105 ∧
(pLoadN 3 (gvar h101 0) h101 fun v106=>
(v76=v106 ∧
(pLoadN 5 v60 h101 fun v107=>
(v75=v107 ∧
(pLoad1 v72 h101 fun v108=>
asI .i64 v108 fun n109=>
((AV.i .i64 n74)=(AV.i .i64 n109) ∧
(pLoad1 v69 h101 fun v110=>
asI .i64 v110 fun n111=>
((AV.i .i64 n71)=(AV.i .i64 n111) ∧
(pLoadN 3 (gvar h101 0) h101 fun v112=>
(v68=v112 ∧
(pLoadN 5 v48 h101 fun v113=>
(v67=v113 ∧
(pLoadN 5 v26 h101 fun v114=>
(v66=v114 ∧
(pLoadN 3 (gvar h101 3) h101 fun v115=>
(v65=v115 ∧
(pLoadN 3 (gvar h101 2) h101 fun v116=>
(v64=v116 ∧
(C Y44.id [v64,v100] h101 fun v117 h118=>
pLoad1 v79 h118 fun v119=>
asS v119 fun l120=>
((AV.s l81)=(AV.s l120) ∧
(pLoadN 3 (gvar h118 1) h118 fun v121=>
(v78=v121 ∧
(pLoadN 5 v26 h118 fun v122=>
(v77=v122 ∧
(pLoadN 3 (gvar h118 0) h118 fun v123=>
(v76=v123 ∧
(pLoadN 5 v60 h118 fun v124=>
(v75=v124 ∧
(pLoad1 v72 h118 fun v125=>
asI .i64 v125 fun n126=>
((AV.i .i64 n74)=(AV.i .i64 n126) ∧
(pLoad1 v69 h118 fun v127=>
asI .i64 v127 fun n128=>
((AV.i .i64 n71)=(AV.i .i64 n128) ∧
(pLoadN 3 (gvar h118 0) h118 fun v129=>
(v68=v129 ∧
(pLoadN 5 v48 h118 fun v130=>
(v67=v130 ∧
(pLoadN 5 v26 h118 fun v131=>
(v66=v131 ∧
(pLoadN 3 (gvar h118 3) h118 fun v132=>
(v65=v132 ∧
(C Y46.id [v65,(AV.s l36)] h118 fun v133 h134=>
pLoad1 v79 h134 fun v135=>
asS v135 fun l136=>
((AV.s l81)=(AV.s l136) ∧
(pLoadN 3 (gvar h134 1) h134 fun v137=>
(v78=v137 ∧
(pLoadN 5 v26 h134 fun v138=>
(v77=v138 ∧
(pLoadN 3 (gvar h134 0) h134 fun v139=>
(v76=v139 ∧
(pLoadN 5 v60 h134 fun v140=>
(v75=v140 ∧
(pLoad1 v72 h134 fun v141=>
asI .i64 v141 fun n142=>
((AV.i .i64 n74)=(AV.i .i64 n142) ∧
(pLoad1 v69 h134 fun v143=>
asI .i64 v143 fun n144=>
((AV.i .i64 n71)=(AV.i .i64 n144) ∧
(pLoadN 3 (gvar h134 0) h134 fun v145=>
(v68=v145 ∧
(pLoadN 5 v48 h134 fun v146=>
(v67=v146 ∧
(pLoadN 5 v26 h134 fun v147=>
(v66=v147 ∧
(pLoadN 3 (gvar h134 2) h134 fun v148=>
(v64=v148 ∧
(C Y15.id [(AV.i .i64 n71)] h134 fun v149 h150=>
pLoad1 v79 h150 fun v151=>
asS v151 fun l152=>
((AV.s l81)=(AV.s l152) ∧
(pLoadN 3 (gvar h150 1) h150 fun v153=>
(v78=v153 ∧
(pLoadN 5 v26 h150 fun v154=>
(v77=v154 ∧
(pLoadN 3 (gvar h150 0) h150 fun v155=>
(v76=v155 ∧
(pLoadN 5 v60 h150 fun v156=>
(v75=v156 ∧
(pLoad1 v72 h150 fun v157=>
asI .i64 v157 fun n158=>
((AV.i .i64 n74)=(AV.i .i64 n158) ∧
(pLoadN 3 (gvar h150 0) h150 fun v159=>
(v68=v159 ∧
(pLoadN 5 v48 h150 fun v160=>
(v67=v160 ∧
(pLoadN 5 v26 h150 fun v161=>
(v66=v161 ∧
(pLoadN 3 (gvar h150 3) h150 fun v162=>
(v65=v162 ∧
(pLoadN 3 (gvar h150 2) h150 fun v163=>
(v64=v163 ∧
(C Y15.id [(AV.i .i64 n74)] h150 fun v164 h165=>
pLoad1 v79 h165 fun v166=>
asS v166 fun l167=>
((AV.s l81)=(AV.s l167) ∧
(pLoadN 3 (gvar h165 1) h165 fun v168=>
(v78=v168 ∧
(pLoadN 5 v26 h165 fun v169=>
(v77=v169 ∧
(pLoadN 3 (gvar h165 0) h165 fun v170=>
(v76=v170 ∧
(pLoadN 5 v60 h165 fun v171=>
(v75=v171 ∧
(pLoad1 v69 h165 fun v172=>
asI .i64 v172 fun n173=>
((AV.i .i64 n71)=(AV.i .i64 n173) ∧
(pLoadN 3 (gvar h165 0) h165 fun v174=>
(v68=v174 ∧
(pLoadN 5 v48 h165 fun v175=>
(v67=v175 ∧
(pLoadN 5 v26 h165 fun v176=>
(v66=v176 ∧
(pLoadN 3 (gvar h165 3) h165 fun v177=>
(v65=v177 ∧
(pLoadN 3 (gvar h165 2) h165 fun v178=>
(v64=v178 ∧
(pBuildSl 5 2 [(AV.i .i64 0),(AV.i .i64 0),(AV.b false),(AV.s []),(AV.sl none 0 none),(AV.i .i64 0),(AV.i .i64 0),(AV.b false),(AV.s []),(AV.sl none 0 none)] [(0,5,v149),(5,5,v164)] h165 fun v179 h180=>
pLoad1 v79 h180 fun v181=>
asS v181 fun l182=>
((AV.s l81)=(AV.s l182) ∧
(pLoadN 3 (gvar h180 1) h180 fun v183=>
(v78=v183 ∧
(pLoadN 5 v26 h180 fun v184=>
(v77=v184 ∧
(pLoadN 3 (gvar h180 0) h180 fun v185=>
(v76=v185 ∧
(pLoadN 5 v60 h180 fun v186=>
(v75=v186 ∧
(pLoad1 v72 h180 fun v187=>
asI .i64 v187 fun n188=>
((AV.i .i64 n74)=(AV.i .i64 n188) ∧
(pLoad1 v69 h180 fun v189=>
asI .i64 v189 fun n190=>
((AV.i .i64 n71)=(AV.i .i64 n190) ∧
(pLoadN 3 (gvar h180 0) h180 fun v191=>
(v68=v191 ∧
(pLoadN 5 v48 h180 fun v192=>
(v67=v192 ∧
(pLoadN 5 v26 h180 fun v193=>
(v66=v193 ∧
(pLoadN 3 (gvar h180 3) h180 fun v194=>
(v65=v194 ∧
(pLoadN 3 (gvar h180 2) h180 fun v195=>
(v64=v195 ∧
(C Y44.id [v68,v179] h180 fun v196 h197=>
pLoad1 v79 h197 fun v198=>
asS v198 fun l199=>
((AV.s l81)=(AV.s l199) ∧
(pLoadN 3 (gvar h197 1) h197 fun v200=>
(v78=v200 ∧
(pLoadN 5 v26 h197 fun v201=>
(v77=v201 ∧
(pLoadN 3 (gvar h197 0) h197 fun v202=>
(v76=v202 ∧
(pLoadN 5 v60 h197 fun v203=>
(v75=v203 ∧
(pLoad1 v72 h197 fun v204=>
asI .i64 v204 fun n205=>
((AV.i .i64 n74)=(AV.i .i64 n205) ∧
(pLoad1 v69 h197 fun v206=>
asI .i64 v206 fun n207=>
((AV.i .i64 n71)=(AV.i .i64 n207) ∧
(pLoadN 5 v48 h197 fun v208=>
(v67=v208 ∧
(pLoadN 5 v26 h197 fun v209=>
(v66=v209 ∧
(pLoadN 3 (gvar h197 3) h197 fun v210=>
(v65=v210 ∧
(pLoadN 3 (gvar h197 2) h197 fun v211=>
(v64=v211 ∧
(C Y46.id [v78,(AV.s l82)] h197 fun v212 h213=>
pLoad1 v79 h213 fun v214=>
asS v214 fun l215=>
((AV.s l81)=(AV.s l215) ∧
(pLoadN 5 v26 h213 fun v216=>
(v77=v216 ∧
(pLoadN 3 (gvar h213 0) h213 fun v217=>
(v76=v217 ∧
(pLoadN 5 v60 h213 fun v218=>
(v75=v218 ∧
(pLoad1 v72 h213 fun v219=>
asI .i64 v219 fun n220=>
((AV.i .i64 n74)=(AV.i .i64 n220) ∧
(pLoad1 v69 h213 fun v221=>
asI .i64 v221 fun n222=>
((AV.i .i64 n71)=(AV.i .i64 n222) ∧
(pLoadN 3 (gvar h213 0) h213 fun v223=>
(v68=v223 ∧
(pLoadN 5 v48 h213 fun v224=>
(v67=v224 ∧
(pLoadN 5 v26 h213 fun v225=>
(v66=v225 ∧
(pLoadN 3 (gvar h213 3) h213 fun v226=>
(v65=v226 ∧
(pLoadN 3 (gvar h213 2) h213 fun v227=>
(v64=v227 ∧
(pBuildSl 5 2 [(AV.i .i64 0),(AV.i .i64 0),(AV.b false),(AV.s []),(AV.sl none 0 none),(AV.i .i64 0),(AV.i .i64 0),(AV.b false),(AV.s []),(AV.sl none 0 none)] [(0,5,v77),(5,5,v212)] h213 fun v228 h229=>
pLoad1 v79 h229 fun v230=>
asS v230 fun l231=>
((AV.s l81)=(AV.s l231) ∧
(pLoadN 3 (gvar h229 1) h229 fun v232=>
(v78=v232 ∧
(pLoadN 3 (gvar h229 0) h229 fun v233=>
(v76=v233 ∧
(pLoadN 5 v60 h229 fun v234=>
(v75=v234 ∧
(pLoad1 v72 h229 fun v235=>
asI .i64 v235 fun n236=>
((AV.i .i64 n74)=(AV.i .i64 n236) ∧
(pLoad1 v69 h229 fun v237=>
asI .i64 v237 fun n238=>
((AV.i .i64 n71)=(AV.i .i64 n238) ∧
(pLoadN 3 (gvar h229 0) h229 fun v239=>
(v68=v239 ∧
(pLoadN 5 v48 h229 fun v240=>
(v67=v240 ∧
(pLoadN 5 v26 h229 fun v241=>
(v66=v241 ∧
(pLoadN 3 (gvar h229 3) h229 fun v242=>
(v65=v242 ∧
(pLoadN 3 (gvar h229 2) h229 fun v243=>
(v64=v243 ∧
(C Y44.id [v76,v228] h229 fun v244 h245=>
pLoad1 v79 h245 fun v246=>
asS v246 fun l247=>
((AV.s l81)=(AV.s l247) ∧
(pLoadN 3 (gvar h245 1) h245 fun v248=>
(v78=v248 ∧
(pLoadN 5 v26 h245 fun v249=>
(v77=v249 ∧
(pLoadN 5 v60 h245 fun v250=>
(v75=v250 ∧
(pLoad1 v72 h245 fun v251=>
asI .i64 v251 fun n252=>
((AV.i .i64 n74)=(AV.i .i64 n252) ∧
(pLoad1 v69 h245 fun v253=>
asI .i64 v253 fun n254=>
((AV.i .i64 n71)=(AV.i .i64 n254) ∧
(pLoadN 3 (gvar h245 0) h245 fun v255=>
(v68=v255 ∧
(pLoadN 5 v48 h245 fun v256=>
(v67=v256 ∧
(pLoadN 5 v26 h245 fun v257=>
(v66=v257 ∧
(pLoadN 3 (gvar h245 3) h245 fun v258=>
(v65=v258 ∧
(pLoadN 3 (gvar h245 2) h245 fun v259=>
(v64=v259 ∧
(pBuildSl 5 7 [(AV.i .i64 0),(AV.i .i64 0),(AV.b false),(AV.s []),(AV.sl none 0 none),(AV.i .i64 0),(AV.i .i64 0),(AV.b false),(AV.s []),(AV.sl none 0 none),(AV.i .i64 0),(AV.i .i64 0),(AV.b false),(AV.s []),(AV.sl none 0 none),(AV.i .i64 0),(AV.i .i64 0),(AV.b false),(AV.s []),(AV.sl none 0 none),(AV.i .i64 0),(AV.i .i64 0),(AV.b false),(AV.s []),(AV.sl none 0 none),(AV.i .i64 0),(AV.i .i64 0),(AV.b false),(AV.s []),(AV.sl none 0 none),(AV.i .i64 0),(AV.i .i64 0),(AV.b false),(AV.s []),(AV.sl none 0 none)] [(0,5,v117),(5,5,v133),(10,5,v66),(15,5,v67),(20,5,v196),(25,5,v75),(30,5,v244)] h245 fun v260 h261=>
pLoad1 v79 h261 fun v262=>
asS v262 fun l263=>
((AV.s l81)=(AV.s l263) ∧
(pLoadN 3 (gvar h261 1) h261 fun v264=>
(v78=v264 ∧
(pLoadN 5 v26 h261 fun v265=>
(v77=v265 ∧
(pLoadN 3 (gvar h261 0) h261 fun v266=>
(v76=v266 ∧
(pLoad1 v72 h261 fun v267=>
asI .i64 v267 fun n268=>
((AV.i .i64 n74)=(AV.i .i64 n268) ∧
(pLoad1 v69 h261 fun v269=>
asI .i64 v269 fun n270=>
((AV.i .i64 n71)=(AV.i .i64 n270) ∧
(pLoadN 3 (gvar h261 0) h261 fun v271=>
(v68=v271 ∧
(pLoadN 3 (gvar h261 3) h261 fun v272=>
(v65=v272 ∧
(pLoadN 3 (gvar h261 2) h261 fun v273=>
(v64=v273 ∧
(pFieldAddr 5 v0 fun v276=>
pLoad1 v276 h261 fun v277=>
pLenSl v277 fun n278=>
(bif (decide ((0:Int)<n278)) then
(pFieldAddr 5 v0 fun v281=>
pLoad1 v281 h261 fun v282=>
pLenSl v282 fun n283=>
J 1 [(1,v0),(7,v26),(14,v260),(15,(AV.sl none 0 none)),(16,(AV.sl none 0 none)),(89,v282),(90,(AV.i .i64 n283)),(91,(AV.i .i64 0))] h261)
else
(J 2 [(1,v0),(7,v26),(14,v260),(15,(AV.sl none 0 none))] h261))))))))))))))))))))))))))))))))))))))))))))))))))))))))))))))))))))))))))))))))))))))))))))))))))))))))))))))))))))))))))))))))))))))))))))))))))))))))))))))))))))))))))))))))))))))))))))))))))))))))))))))))))))))))))))))))))))))))))))))))))))))))))))))))))))))))))))))
theorem Y4.t_eq (J:JT) (Q:AV→AHeap→Prop) (x0:AV) (h:AHeap):Y4.t J Q x0 h=exJ prog C 164 J Y4.ann Y4.body (initEnv 0 [x0]) h (kFun prog Tryz.f14 Q):=by kernel_rfl
theorem Y4.call {K:AV→AHeap→Prop} {x0:AV} {h:AHeap} (H:Y4.t (Y4.J (kRet h K)) (kRet h K) x0 h):C Y4.id [x0] h K:=
  callJ (P:=prog) (fn:=Tryz.f14) (ann:=Y4.ann) (body:=Y4.body) Tryz.func14 Y4.body_eq (by kernel_rfl) Y4.dist (by kernel_rfl) ((Y4.t_eq (Y4.J (kRet h K)) (kRet h K) x0 h).mp H)
noncomputable def Y58.body:Code:=(Tryz.f16.body).getD .skip
def Y58.ann:Ann:=(.seq 0 [0] .leaf (.seq 0 [0] .leaf .leaf))
theorem Y58.body_eq:Tryz.f16.body=some Y58.body:=by kernel_rfl
theorem Y58.dist:noTwice (places Y58.ann Y58.body)=true:=by kernel_rfl
noncomputable def Y58.J (Q:AV→AHeap→Prop):JT:=funJ prog C Tryz.f16 Y58.ann Y58.body Q
def Y58.t (J:JT) (Q:AV→AHeap→Prop) (h:AHeap):Prop:=
pAlloc (some 25) [(AV.s []),(AV.s []),(AV.s []),(AV.i .i64 0),(AV.i .i64 0),(AV.sl none 0 none),(AV.b false),(AV.s [])] h fun v0 h1=>
pBuildSl 1 2 [(AV.s []),(AV.s [])] [(0,1,(AV.s [120])),(1,1,(AV.s [42,46,121]))] h1 fun v3 h4=>
pBuild [(AV.s []),(AV.s []),(AV.s []),(AV.i .i64 0),(AV.i .i64 0),(AV.sl none 0 none),(AV.b false),(AV.s [])] [(0,1,(AV.s [48,48])),(1,1,(AV.s [67,78,61,97,44,79,61,98])),(2,1,(AV.s [67,78,61,120])),(3,1,(AV.i .i64 5)),(4,1,(AV.i .i64 2600000000)),(5,1,v3),(6,1,(AV.b true)),(7,1,(AV.s [107,101,121]))] fun v5=>
pStore 8 v0 v5 h4 fun h6=>
pLoadN 8 v0 h6 fun v8=>
Q v8 h6
theorem Y58.t_eq (J:JT) (Q:AV→AHeap→Prop) (h:AHeap):Y58.t J Q h=exJ prog C 3 J Y58.ann Y58.body (initEnv 0 []) h (kFun prog Tryz.f16 Q):=by kernel_rfl
theorem Y58.call {K:AV→AHeap→Prop} {h:AHeap} (H:Y58.t (Y58.J (kRet h K)) (kRet h K) h):C Y58.id [] h K:=
  callJ (P:=prog) (fn:=Tryz.f16) (ann:=Y58.ann) (body:=Y58.body) Tryz.func16 Y58.body_eq (by kernel_rfl) Y58.dist (by kernel_rfl) ((Y58.t_eq (Y58.J (kRet h K)) (kRet h K) h).mp H)
noncomputable def Y8.body:Code:=(Tryz.f17.body).getD .skip
def Y8.ann:Ann:=(.seq 0 [0,2] .leaf (.seq 0 [0,2] (.seq 0 [0,2,18] .leaf (.br (.seq 0 [2,3] .leaf .leaf) .leaf)) (.seq 0 [0,2,4] .leaf (.seq 0 [0,2,4] (.seq 0 [0,2,4,23] .leaf (.br (.seq 0 [2,3] .leaf .leaf) .leaf)) (.seq 0 [0,2,4] (.seq 0 [0,2,4,26,27,28] .leaf (.one (.loop 1 [0,2,4,26,27,28] (.seq 0 [0,2,4,26,27,28,29] .leaf (.seq 0 [0,2,4,26,27,28] (.br .leaf .leaf) (.seq 0 [0,2,4,26,27,28] (.one (.seq 0 [0,2,4,6,26,27,28] .leaf (.seq 0 [0,2,4,7,8,26,27,28] .leaf (.seq 0 [0,2,4,7,8,26,27,28,38,39,40] .leaf (.one (.loop 2 [0,2,4,7,8,26,27,28,38,39,40] (.seq 0 [0,2,4,7,8,26,27,28,38,39,40,41] .leaf (.seq 0 [0,2,4,7,8,26,27,28,38,39,40] (.br .leaf .leaf) (.seq 3 [0,2,4,7,8,26,27,28,38,39,40] (.one (.seq 0 [0,2,4,7,8,11,26,27,28,38,39,40] .leaf (.seq 0 [0,2,4,7,8,11,26,27,28,38,39,40,47] .leaf (.br (.seq 0 [0,2,4,7,8,12,26,27,28,38,39,40] .leaf (.ord (.neu 0 (.neu 1 (.neu 2 (.neu 3 (.neu 4 (.neu 5 (.neu 6 (.eff 7 (.eff 8 (.eff 9 (.eff 10 (.eff 11 (.eff 12 (.eff 13 (.eff 14 (.neu 15 (.eff 16 .done .stop)) .stop) .stop) .stop) .stop) .stop) .stop) .stop) .stop)))))))))) .leaf)))) .leaf))))))))) .leaf)))))) (.seq 0 [2,4] (.seq 0 [0,2,4,14,15] .leaf (.seq 4 [2,4,83] .leaf (.br (.seq 0 [2,3] .leaf .leaf) .leaf))) (.seq 0 [2,3] .leaf .leaf)))))))
theorem Y8.body_eq:Tryz.f17.body=some Y8.body:=by kernel_rfl
theorem Y8.dist:noTwice (places Y8.ann Y8.body)=true:=by kernel_rfl
noncomputable def Y8.J (Q:AV→AHeap→Prop):JT:=funJ prog C Tryz.f17 Y8.ann Y8.body Q
theorem Y8.goR {Q:AV→AHeap→Prop} {k:Nat} {p:List Nat} (hl:lookJ (places Y8.ann Y8.body) k=some (p,false)) {e:Env} {h:AHeap} (hk:atJ prog C 86 (Y8.J Q) false p Y8.ann Y8.body e h (kFun prog Tryz.f17 Q)):Y8.J Q k e h:=goJ_run (P:=prog) (fn:=Tryz.f17) (ann:=Y8.ann) (body:=Y8.body) (Q:=Q) (k:=k) (p:=p) (e:=e) (h:=h) (acall_le X) Y8.dist hl hk
theorem Y8.goH {Q:AV→AHeap→Prop} {k:Nat} {p:List Nat} (hl:lookJ (places Y8.ann Y8.body) k=some (p,true)) {e:Env} {h:AHeap} (hk:atJ prog C 86 (Y8.J Q) true p Y8.ann Y8.body e h (kFun prog Tryz.f17 Q)):Y8.J Q k e h:=goJ_head (P:=prog) (fn:=Tryz.f17) (ann:=Y8.ann) (body:=Y8.body) (Q:=Q) (k:=k) (p:=p) (e:=e) (h:=h) (acall_le X) Y8.dist hl hk
def Y8.p2 (Q:AV→AHeap→Prop) (x0:List UInt8) (x2:AV) (x4:AV) (x7:List UInt8) (x8:List UInt8) (x26:AV) (x27:Int) (x28:Int) (x38:AV) (x39:Int) (x40:Int) (h:AHeap):Prop:=Y8.J Q 3 [(0,(AV.s x0)),(2,x2),(4,x4),(7,(AV.s x7)),(8,(AV.s x8)),(26,x26),(27,(AV.i .i64 x27)),(28,(AV.i .i64 x28)),(38,x38),(39,(AV.i .i64 x39)),(40,(AV.i .i64 x40))] h
theorem Y8.j2 (Q:AV→AHeap→Prop) (x0:List UInt8) (x2:AV) (x4:AV) (x7:List UInt8) (x8:List UInt8) (x26:AV) (x27:Int) (x28:Int) (x38:AV) (x39:Int) (x40:Int) (h:AHeap):Y8.J Q 3 [(0,(AV.s x0)),(2,x2),(4,x4),(7,(AV.s x7)),(8,(AV.s x8)),(26,x26),(27,(AV.i .i64 x27)),(28,(AV.i .i64 x28)),(38,x38),(39,(AV.i .i64 x39)),(40,(AV.i .i64 x40))] h=Y8.p2 Q x0 x2 x4 x7 x8 x26 x27 x28 x38 x39 x40 h:=rfl
def Y8.p1 (Q:AV→AHeap→Prop) (x0:List UInt8) (x2:AV) (x4:AV) (x7:List UInt8) (x8:List UInt8) (x26:AV) (x27:Int) (x28:Int) (x38:AV) (x39:Int) (x40:Int) (h:AHeap):Prop:=Y8.J Q 2 [(0,(AV.s x0)),(2,x2),(4,x4),(7,(AV.s x7)),(8,(AV.s x8)),(26,x26),(27,(AV.i .i64 x27)),(28,(AV.i .i64 x28)),(38,x38),(39,(AV.i .i64 x39)),(40,(AV.i .i64 x40))] h
theorem Y8.j1 (Q:AV→AHeap→Prop) (x0:List UInt8) (x2:AV) (x4:AV) (x7:List UInt8) (x8:List UInt8) (x26:AV) (x27:Int) (x28:Int) (x38:AV) (x39:Int) (x40:Int) (h:AHeap):Y8.J Q 2 [(0,(AV.s x0)),(2,x2),(4,x4),(7,(AV.s x7)),(8,(AV.s x8)),(26,x26),(27,(AV.i .i64 x27)),(28,(AV.i .i64 x28)),(38,x38),(39,(AV.i .i64 x39)),(40,(AV.i .i64 x40))] h=Y8.p1 Q x0 x2 x4 x7 x8 x26 x27 x28 x38 x39 x40 h:=rfl
def Y8.p0 (Q:AV→AHeap→Prop) (x0:List UInt8) (x2:AV) (x4:AV) (x26:AV) (x27:Int) (x28:Int) (h:AHeap):Prop:=Y8.J Q 1 [(0,(AV.s x0)),(2,x2),(4,x4),(26,x26),(27,(AV.i .i64 x27)),(28,(AV.i .i64 x28))] h
theorem Y8.j0 (Q:AV→AHeap→Prop) (x0:List UInt8) (x2:AV) (x4:AV) (x26:AV) (x27:Int) (x28:Int) (h:AHeap):Y8.J Q 1 [(0,(AV.s x0)),(2,x2),(4,x4),(26,x26),(27,(AV.i .i64 x27)),(28,(AV.i .i64 x28))] h=Y8.p0 Q x0 x2 x4 x26 x27 x28 h:=rfl
def Y8.p3 (Q:AV→AHeap→Prop) (x2:AV) (x4:AV) (x83:Bool) (h:AHeap):Prop:=Y8.J Q 4 [(2,x2),(4,x4),(83,(AV.b x83))] h
theorem Y8.j3 (Q:AV→AHeap→Prop) (x2:AV) (x4:AV) (x83:Bool) (h:AHeap):Y8.J Q 4 [(2,x2),(4,x4),(83,(AV.b x83))] h=Y8.p3 Q x2 x4 x83 h:=rfl
def Y8.t2 (J:JT) (Q:AV→AHeap→Prop) (x0:List UInt8) (x2:AV) (x4:AV) (x7:List UInt8) (x8:List UInt8) (x26:AV) (x27:Int) (x28:Int) (x38:AV) (x39:Int) (x40:Int) (h:AHeap):Prop:=
withI (IntKind.wrap .i64 (x40+1)) fun n123=>
J 2 [(0,(AV.s x0)),(2,x2),(4,x4),(7,(AV.s x7)),(8,(AV.s x8)),(26,x26),(27,(AV.i .i64 x27)),(28,(AV.i .i64 x28)),(38,x38),(39,(AV.i .i64 x39)),(40,(AV.i .i64 n123))] h
theorem Y8.t2_eq (J:JT) (Q:AV→AHeap→Prop) (x0:List UInt8) (x2:AV) (x4:AV) (x7:List UInt8) (x8:List UInt8) (x26:AV) (x27:Int) (x28:Int) (x38:AV) (x39:Int) (x40:Int) (h:AHeap):Y8.t2 J Q x0 x2 x4 x7 x8 x26 x27 x28 x38 x39 x40 h=atJ prog C 86 J false [1,1,1,1,0,1,0,0,1,1,0,0,1,1,1,0,0,1,1,1] Y8.ann Y8.body [(0,(AV.s x0)),(2,x2),(4,x4),(7,(AV.s x7)),(8,(AV.s x8)),(26,x26),(27,(AV.i .i64 x27)),(28,(AV.i .i64 x28)),(38,x38),(39,(AV.i .i64 x39)),(40,(AV.i .i64 x40))] h (kFun prog Tryz.f17 Q):=by kernel_rfl
theorem Y8.i2 {Q:AV→AHeap→Prop} {x0:List UInt8} {x2:AV} {x4:AV} {x7:List UInt8} {x8:List UInt8} {x26:AV} {x27:Int} {x28:Int} {x38:AV} {x39:Int} {x40:Int} {h:AHeap} (H:Y8.t2 (Y8.J Q) Q x0 x2 x4 x7 x8 x26 x27 x28 x38 x39 x40 h):Y8.p2 Q x0 x2 x4 x7 x8 x26 x27 x28 x38 x39 x40 h:=Y8.goR (k:=3) (p:=[1,1,1,1,0,1,0,0,1,1,0,0,1,1,1,0,0,1,1,1]) (by kernel_rfl) ((Y8.t2_eq (Y8.J Q) Q x0 x2 x4 x7 x8 x26 x27 x28 x38 x39 x40 h).mp H)
def Y8.t1 (J:JT) (Q:AV→AHeap→Prop) (x0:List UInt8) (x2:AV) (x4:AV) (x7:List UInt8) (x8:List UInt8) (x26:AV) (x27:Int) (x28:Int) (x38:AV) (x39:Int) (x40:Int) (h:AHeap):Prop:=
(bif (decide ((x40:Int)<x39)) then
(pIdxAddrSl 2 x38 (AV.i .i64 x40) h fun v47=>
pLoadN 2 v47 h fun v48=>
pAlloc (some 74) [(AV.s []),(AV.s [])] h fun v49 h50=>
pStore 2 v49 v48 h50 fun h51=>
pFieldAddr 0 v49 fun v53=>
pLoad1 v53 h51 fun v54=>
asS v54 fun l55=>
(bif (decide ((l55:List UInt8)=x7)) then
(pFieldAddr 1 v49 fun v57=>
pLoad1 v57 h51 fun v58=>
asS v58 fun l59=>
C Y3.id [(AV.s l59)] h51 fun v60 h61=>
pExtract 0 v60 fun v62=>
pExtract 1 v60 fun v63=>
asI .i64 v63 fun n64=>
pAlloc (some 33) [(AV.i .i64 0),(AV.i .i64 0),(AV.b false),(AV.s []),(AV.sl none 0 none)] h61 fun v65 h66=>
pStore 5 v65 v62 h66 fun h67=>
pFieldAddr 4 x4 fun v69=>
pLoad1 v69 h67 fun v70=>
pLoadN 3 (gvar h67 8) h67 fun v71=>
pLoadN 3 (gvar h67 0) h67 fun v72=>
pLoadN 5 v65 h67 fun v73=>
C Y18.id [(AV.s x8)] h67 fun v74 h75=>
asS v74 fun l76=>
pLoadN 5 v65 h75 fun v77=>
(v73=v77 ∧
(pLoadN 3 (gvar h75 0) h75 fun v78=>
(v72=v78 ∧
(pLoadN 3 (gvar h75 8) h75 fun v79=>
(v71=v79 ∧
(pLoad1 v69 h75 fun v80=>
(v70=v80 ∧
(C Y46.id [(AV.ag [(AV.i .i64 0),(AV.i .i64 12),(AV.b false)]),(AV.s l76)] h75 fun v81 h82=>
pLoadN 5 v65 h82 fun v83=>
(v73=v83 ∧
(pLoadN 3 (gvar h82 0) h82 fun v84=>
(v72=v84 ∧
(pLoadN 3 (gvar h82 8) h82 fun v85=>
(v71=v85 ∧
(pLoad1 v69 h82 fun v86=>
(v70=v86 ∧
(pBuildSl 5 2 [(AV.i .i64 0),(AV.i .i64 0),(AV.b false),(AV.s []),(AV.sl none 0 none),(AV.i .i64 0),(AV.i .i64 0),(AV.b false),(AV.s []),(AV.sl none 0 none)] [(0,5,v73),(5,5,v81)] h82 fun v87 h88=>
pLoadN 3 (gvar h88 0) h88 fun v89=>
(v72=v89 ∧
(pLoadN 3 (gvar h88 8) h88 fun v90=>
(v71=v90 ∧
(pLoad1 v69 h88 fun v91=>
(v70=v91 ∧
(C Y44.id [v72,v87] h88 fun v92 h93=>
pLoadN 5 v65 h93 fun v94=>
(v73=v94 ∧
(pLoadN 3 (gvar h93 8) h93 fun v95=>
(v71=v95 ∧
(pLoad1 v69 h93 fun v96=>
(v70=v96 ∧
(pBuildSl 5 1 [(AV.i .i64 0),(AV.i .i64 0),(AV.b false),(AV.s []),(AV.sl none 0 none)] [(0,5,v92)] h93 fun v97 h98=>
pLoadN 5 v65 h98 fun v99=>
(v73=v99 ∧
(pLoadN 3 (gvar h98 0) h98 fun v100=>
(v72=v100 ∧
(pLoadN 3 (gvar h98 8) h98 fun v101=>
(v71=v101 ∧
(pLoad1 v69 h98 fun v102=>
(v70=v102 ∧
(C Y44.id [v71,v97] h98 fun v103 h104=>
pLoadN 5 v65 h104 fun v105=>
(v73=v105 ∧
(pLoadN 3 (gvar h104 0) h104 fun v106=>
(v72=v106 ∧
(pLoad1 v69 h104 fun v107=>
(v70=v107 ∧
(pBuildSl 5 1 [(AV.i .i64 0),(AV.i .i64 0),(AV.b false),(AV.s []),(AV.sl none 0 none)] [(0,5,v103)] h104 fun v108 h109=>
pLoadN 5 v65 h109 fun v110=>
(v73=v110 ∧
(pLoadN 3 (gvar h109 0) h109 fun v111=>
(v72=v111 ∧
(pLoadN 3 (gvar h109 8) h109 fun v112=>
(v71=v112 ∧
(pLoad1 v69 h109 fun v113=>
(v70=v113 ∧
(pAppend none 5 64 v70 v108 h109 fun v114 h115=>
pLoadN 5 v65 h115 fun v116=>
(v73=v116 ∧
(pLoadN 3 (gvar h115 0) h115 fun v117=>
(v72=v117 ∧
(pLoadN 3 (gvar h115 8) h115 fun v118=>
(v71=v118 ∧
(pFieldAddr 4 x4 fun v119=>
pStore 1 v119 v114 h115 fun h120=>
J 3 [(0,(AV.s x0)),(2,x2),(4,x4),(7,(AV.s x7)),(8,(AV.s x8)),(26,x26),(27,(AV.i .i64 x27)),(28,(AV.i .i64 x28)),(38,x38),(39,(AV.i .i64 x39)),(40,(AV.i .i64 x40))] h120)))))))))))))))))))))))))))))))))))))))))))))))))))))))))
else
(J 3 [(0,(AV.s x0)),(2,x2),(4,x4),(7,(AV.s x7)),(8,(AV.s x8)),(26,x26),(27,(AV.i .i64 x27)),(28,(AV.i .i64 x28)),(38,x38),(39,(AV.i .i64 x39)),(40,(AV.i .i64 x40))] h51)))
else
(withI (IntKind.wrap .i64 (x28+1)) fun n125=>
J 1 [(0,(AV.s x0)),(2,x2),(4,x4),(26,x26),(27,(AV.i .i64 x27)),(28,(AV.i .i64 n125))] h))
theorem Y8.t1_eq (J:JT) (Q:AV→AHeap→Prop) (x0:List UInt8) (x2:AV) (x4:AV) (x7:List UInt8) (x8:List UInt8) (x26:AV) (x27:Int) (x28:Int) (x38:AV) (x39:Int) (x40:Int) (h:AHeap):Y8.t1 J Q x0 x2 x4 x7 x8 x26 x27 x28 x38 x39 x40 h=atJ prog C 86 J true [1,1,1,1,0,1,0,0,1,1,0,0,1,1,1,0] Y8.ann Y8.body [(0,(AV.s x0)),(2,x2),(4,x4),(7,(AV.s x7)),(8,(AV.s x8)),(26,x26),(27,(AV.i .i64 x27)),(28,(AV.i .i64 x28)),(38,x38),(39,(AV.i .i64 x39)),(40,(AV.i .i64 x40))] h (kFun prog Tryz.f17 Q):=by kernel_rfl
theorem Y8.i1 {Q:AV→AHeap→Prop} {x0:List UInt8} {x2:AV} {x4:AV} {x7:List UInt8} {x8:List UInt8} {x26:AV} {x27:Int} {x28:Int} {x38:AV} {x39:Int} {x40:Int} {h:AHeap} (H:Y8.t1 (Y8.J Q) Q x0 x2 x4 x7 x8 x26 x27 x28 x38 x39 x40 h):Y8.p1 Q x0 x2 x4 x7 x8 x26 x27 x28 x38 x39 x40 h:=Y8.goH (k:=2) (p:=[1,1,1,1,0,1,0,0,1,1,0,0,1,1,1,0]) (by kernel_rfl) ((Y8.t1_eq (Y8.J Q) Q x0 x2 x4 x7 x8 x26 x27 x28 x38 x39 x40 h).mp H)
def Y8.t0 (J:JT) (Q:AV→AHeap→Prop) (x0:List UInt8) (x2:AV) (x4:AV) (x26:AV) (x27:Int) (x28:Int) (h:AHeap):Prop:=
(bif (decide ((x28:Int)<x27)) then
(pIdxAddrSl 1 x26 (AV.i .i64 x28) h fun v28=>
pLoad1 v28 h fun v29=>
asS v29 fun l30=>
C Y64.id [(AV.s l30),(AV.s [61])] h fun v32 h33=>
pExtract 0 v32 fun v34=>
asS v34 fun l35=>
pExtract 1 v32 fun v36=>
asS v36 fun l37=>
pExtract 2 v32 fun v38=>
asB v38 fun c39=>
pLoad1 (gvar h33 7) h33 fun v41=>
pLenSl v41 fun n42=>
J 2 [(0,(AV.s x0)),(2,x2),(4,x4),(7,(AV.s l35)),(8,(AV.s l37)),(26,x26),(27,(AV.i .i64 x27)),(28,(AV.i .i64 x28)),(38,v41),(39,(AV.i .i64 n42)),(40,(AV.i .i64 0))] h33)
else
(pLoadN 5 x4 h fun v127=>
C Y11.id [v127] h fun v128 h129=>
pExtract 0 v128 fun v130=>
asS v130 fun l131=>
pExtract 1 v128 fun v132=>
asI .i64 v132 fun n133=>
(bif (!decide ((n133:Int)=0)) then
(J 4 [(2,x2),(4,x4),(83,(AV.b true))] h129)
else
(J 4 [(2,x2),(4,x4),(83,(AV.b (!(decide ((l131:List UInt8)=x0)))))] h129))))
theorem Y8.t0_eq (J:JT) (Q:AV→AHeap→Prop) (x0:List UInt8) (x2:AV) (x4:AV) (x26:AV) (x27:Int) (x28:Int) (h:AHeap):Y8.t0 J Q x0 x2 x4 x26 x27 x28 h=atJ prog C 86 J true [1,1,1,1,0,1,0] Y8.ann Y8.body [(0,(AV.s x0)),(2,x2),(4,x4),(26,x26),(27,(AV.i .i64 x27)),(28,(AV.i .i64 x28))] h (kFun prog Tryz.f17 Q):=by kernel_rfl
theorem Y8.i0 {Q:AV→AHeap→Prop} {x0:List UInt8} {x2:AV} {x4:AV} {x26:AV} {x27:Int} {x28:Int} {h:AHeap} (H:Y8.t0 (Y8.J Q) Q x0 x2 x4 x26 x27 x28 h):Y8.p0 Q x0 x2 x4 x26 x27 x28 h:=Y8.goH (k:=1) (p:=[1,1,1,1,0,1,0]) (by kernel_rfl) ((Y8.t0_eq (Y8.J Q) Q x0 x2 x4 x26 x27 x28 h).mp H)
def Y8.t3 (J:JT) (Q:AV→AHeap→Prop) (x2:AV) (x4:AV) (x83:Bool) (h:AHeap):Prop:=
(bif x83 then
(pStore 5 x2 (AV.ag [(AV.i .i64 0),(AV.i .i64 0),(AV.b false),(AV.s []),(AV.sl none 0 none)]) h fun h137=>
pLoadN 5 x2 h137 fun v139=>
Q (AV.tu [v139,(AV.i .i64 5)]) h137)
else
(pLoadN 5 x4 h fun v141=>
pStore 5 x2 v141 h fun h142=>
pLoadN 5 x2 h142 fun v144=>
Q (AV.tu [v144,(AV.i .i64 0)]) h142))
theorem Y8.t3_eq (J:JT) (Q:AV→AHeap→Prop) (x2:AV) (x4:AV) (x83:Bool) (h:AHeap):Y8.t3 J Q x2 x4 x83 h=atJ prog C 86 J false [1,1,1,1,1,0,1,1] Y8.ann Y8.body [(2,x2),(4,x4),(83,(AV.b x83))] h (kFun prog Tryz.f17 Q):=by kernel_rfl
theorem Y8.i3 {Q:AV→AHeap→Prop} {x2:AV} {x4:AV} {x83:Bool} {h:AHeap} (H:Y8.t3 (Y8.J Q) Q x2 x4 x83 h):Y8.p3 Q x2 x4 x83 h:=Y8.goR (k:=4) (p:=[1,1,1,1,1,0,1,1]) (by kernel_rfl) ((Y8.t3_eq (Y8.J Q) Q x2 x4 x83 h).mp H)
def Y8.t (J:JT) (Q:AV→AHeap→Prop) (x0:List UInt8) (h:AHeap):Prop:=
pAlloc (some 33) [(AV.i .i64 0),(AV.i .i64 0),(AV.b false),(AV.s []),(AV.sl none 0 none)] h fun v0 h1=>
(bif (decide ((512:Int)<(x0.length:Int))) then
(pStore 5 v0 (AV.ag [(AV.i .i64 0),(AV.i .i64 0),(AV.b false),(AV.s []),(AV.sl none 0 none)]) h1 fun h4=>
pLoadN 5 v0 h4 fun v6=>
Q (AV.tu [v6,(AV.i .i64 3)]) h4)
else
(pLoadN 3 (gvar h1 0) h1 fun v8=>
C Y44.id [v8,(AV.sl none 0 none)] h1 fun v9 h10=>
pAlloc (some 33) [(AV.i .i64 0),(AV.i .i64 0),(AV.b false),(AV.s []),(AV.sl none 0 none)] h10 fun v11 h12=>
pStore 5 v11 v9 h12 fun h13=>
(bif (decide ((x0:List UInt8)=[])) then
(pLoadN 5 v11 h13 fun v16=>
pStore 5 v0 v16 h13 fun h17=>
pLoadN 5 v0 h17 fun v19=>
Q (AV.tu [v19,(AV.i .i64 0)]) h17)
else
(C Y23.id [(AV.s x0)] h13 fun v21 h22=>
pLenSl v21 fun n23=>
J 1 [(0,(AV.s x0)),(2,v0),(4,v11),(26,v21),(27,(AV.i .i64 n23)),(28,(AV.i .i64 0))] h22))))
theorem Y8.t_eq (J:JT) (Q:AV→AHeap→Prop) (x0:List UInt8) (h:AHeap):Y8.t J Q x0 h=exJ prog C 86 J Y8.ann Y8.body (initEnv 0 [(AV.s x0)]) h (kFun prog Tryz.f17 Q):=by kernel_rfl
theorem Y8.call {K:AV→AHeap→Prop} {x0:List UInt8} {h:AHeap} (H:Y8.t (Y8.J (kRet h K)) (kRet h K) x0 h):C Y8.id [(AV.s x0)] h K:=
  callJ (P:=prog) (fn:=Tryz.f17) (ann:=Y8.ann) (body:=Y8.body) Tryz.func17 Y8.body_eq (by kernel_rfl) Y8.dist (by kernel_rfl) ((Y8.t_eq (Y8.J (kRet h K)) (kRet h K) x0 h).mp H)
noncomputable def Y33.body:Code:=(Tryz.f18.body).getD .skip
def Y33.ann:Ann:=(.seq 0 [0] .leaf (.seq 0 [0] (.seq 0 [0,4] .leaf (.seq 0 [0,15] .leaf (.br (.seq 0 [2] .leaf .leaf) .leaf))) (.seq 0 [] (.seq 0 [17,18,19] .leaf (.one (.loop 1 [17,18,19] (.seq 0 [17,18,19,20] .leaf (.seq 0 [17,18,19] (.br .leaf .leaf) (.seq 0 [17,18,19] (.one (.seq 0 [6,17,18,19] .leaf (.seq 0 [7,8,17,18,19] .leaf (.seq 0 [7,17,18,19,28] .leaf (.br (.seq 0 [2] .leaf .leaf) .leaf))))) .leaf)))))) (.seq 0 [2] .leaf .leaf))))
theorem Y33.body_eq:Tryz.f18.body=some Y33.body:=by kernel_rfl
theorem Y33.dist:noTwice (places Y33.ann Y33.body)=true:=by kernel_rfl
noncomputable def Y33.J (Q:AV→AHeap→Prop):JT:=funJ prog C Tryz.f18 Y33.ann Y33.body Q
theorem Y33.goH {Q:AV→AHeap→Prop} {k:Nat} {p:List Nat} (hl:lookJ (places Y33.ann Y33.body) k=some (p,true)) {e:Env} {h:AHeap} (hk:atJ prog C 32 (Y33.J Q) true p Y33.ann Y33.body e h (kFun prog Tryz.f18 Q)):Y33.J Q k e h:=goJ_head (P:=prog) (fn:=Tryz.f18) (ann:=Y33.ann) (body:=Y33.body) (Q:=Q) (k:=k) (p:=p) (e:=e) (h:=h) (acall_le X) Y33.dist hl hk
def Y33.p0 (Q:AV→AHeap→Prop) (x17:AV) (x18:Int) (x19:Int) (h:AHeap):Prop:=Y33.J Q 1 [(17,x17),(18,(AV.i .i64 x18)),(19,(AV.i .i64 x19))] h
theorem Y33.j0 (Q:AV→AHeap→Prop) (x17:AV) (x18:Int) (x19:Int) (h:AHeap):Y33.J Q 1 [(17,x17),(18,(AV.i .i64 x18)),(19,(AV.i .i64 x19))] h=Y33.p0 Q x17 x18 x19 h:=rfl
def Y33.t0 (J:JT) (Q:AV→AHeap→Prop) (x17:AV) (x18:Int) (x19:Int) (h:AHeap):Prop:=
(bif (decide ((x19:Int)<x18)) then
(pIdxAddrSl 1 x17 (AV.i .i64 x19) h fun v20=>
pLoad1 v20 h fun v21=>
asS v21 fun l22=>
C Y61.id [(AV.s l22),(AV.s [67,78,61])] h fun v24 h25=>
pExtract 0 v24 fun v26=>
asS v26 fun l27=>
pExtract 1 v24 fun v28=>
asB v28 fun c29=>
(bif c29 then
(C Y18.id [(AV.s l27)] h25 fun v32 h33=>
asS v32 fun l34=>
Q (AV.s l34) h33)
else
(withI (IntKind.wrap .i64 (x19+1)) fun n37=>
J 1 [(17,x17),(18,(AV.i .i64 x18)),(19,(AV.i .i64 n37))] h25)))
else
(Q (AV.s []) h))
theorem Y33.t0_eq (J:JT) (Q:AV→AHeap→Prop) (x17:AV) (x18:Int) (x19:Int) (h:AHeap):Y33.t0 J Q x17 x18 x19 h=atJ prog C 32 J true [1,1,0,1,0] Y33.ann Y33.body [(17,x17),(18,(AV.i .i64 x18)),(19,(AV.i .i64 x19))] h (kFun prog Tryz.f18 Q):=by kernel_rfl
theorem Y33.i0 {Q:AV→AHeap→Prop} {x17:AV} {x18:Int} {x19:Int} {h:AHeap} (H:Y33.t0 (Y33.J Q) Q x17 x18 x19 h):Y33.p0 Q x17 x18 x19 h:=Y33.goH (k:=1) (p:=[1,1,0,1,0]) (by kernel_rfl) ((Y33.t0_eq (Y33.J Q) Q x17 x18 x19 h).mp H)
def Y33.t (J:JT) (Q:AV→AHeap→Prop) (x0:List UInt8) (h:AHeap):Prop:=
C Y8.id [(AV.s x0)] h fun v1 h2=>
pExtract 0 v1 fun v3=>
pExtract 1 v1 fun v4=>
asI .i64 v4 fun n5=>
pAlloc (some 33) [(AV.i .i64 0),(AV.i .i64 0),(AV.b false),(AV.s []),(AV.sl none 0 none)] h2 fun v6 h7=>
pStore 5 v6 v3 h7 fun h8=>
(bif (!decide ((n5:Int)=0)) then
(Q (AV.s []) h8)
else
(C Y23.id [(AV.s x0)] h8 fun v13 h14=>
pLenSl v13 fun n15=>
J 1 [(17,v13),(18,(AV.i .i64 n15)),(19,(AV.i .i64 0))] h14))
theorem Y33.t_eq (J:JT) (Q:AV→AHeap→Prop) (x0:List UInt8) (h:AHeap):Y33.t J Q x0 h=exJ prog C 32 J Y33.ann Y33.body (initEnv 0 [(AV.s x0)]) h (kFun prog Tryz.f18 Q):=by kernel_rfl
theorem Y33.call {K:AV→AHeap→Prop} {x0:List UInt8} {h:AHeap} (H:Y33.t (Y33.J (kRet h K)) (kRet h K) x0 h):C Y33.id [(AV.s x0)] h K:=
  callJ (P:=prog) (fn:=Tryz.f18) (ann:=Y33.ann) (body:=Y33.body) Tryz.func18 Y33.body_eq (by kernel_rfl) Y33.dist (by kernel_rfl) ((Y33.t_eq (Y33.J (kRet h K)) (kRet h K) x0 h).mp H)
noncomputable def Y25.body:Code:=(Tryz.f19.body).getD .skip
def Y25.ann:Ann:=(.seq 0 [0,2] .leaf (.seq 0 [0,2] (.seq 0 [0,2,10] .leaf (.br (.seq 0 [2,3] .leaf .leaf) .leaf)) (.seq 0 [0,2,4] .leaf (.seq 0 [2,5,6,7] .leaf (.seq 2 [2,5,7] (.seq 1 [2,5,7,26] .leaf (.br .leaf .leaf)) (.seq 0 [2,5] (.seq 0 [2,5,7,28] .leaf (.br (.seq 0 [2,3] .leaf .leaf) .leaf)) (.seq 0 [2,3] .leaf .leaf)))))))
theorem Y25.body_eq:Tryz.f19.body=some Y25.body:=by kernel_rfl
theorem Y25.dist:noTwice (places Y25.ann Y25.body)=true:=by kernel_rfl
noncomputable def Y25.J (Q:AV→AHeap→Prop):JT:=funJ prog C Tryz.f19 Y25.ann Y25.body Q
theorem Y25.goR {Q:AV→AHeap→Prop} {k:Nat} {p:List Nat} (hl:lookJ (places Y25.ann Y25.body) k=some (p,false)) {e:Env} {h:AHeap} (hk:atJ prog C 32 (Y25.J Q) false p Y25.ann Y25.body e h (kFun prog Tryz.f19 Q)):Y25.J Q k e h:=goJ_run (P:=prog) (fn:=Tryz.f19) (ann:=Y25.ann) (body:=Y25.body) (Q:=Q) (k:=k) (p:=p) (e:=e) (h:=h) (acall_le X) Y25.dist hl hk
def Y25.p0 (Q:AV→AHeap→Prop) (x2:AV) (x5:AV) (x7:Int) (x26:Bool) (h:AHeap):Prop:=Y25.J Q 1 [(2,x2),(5,x5),(7,(AV.i .i64 x7)),(26,(AV.b x26))] h
theorem Y25.j0 (Q:AV→AHeap→Prop) (x2:AV) (x5:AV) (x7:Int) (x26:Bool) (h:AHeap):Y25.J Q 1 [(2,x2),(5,x5),(7,(AV.i .i64 x7)),(26,(AV.b x26))] h=Y25.p0 Q x2 x5 x7 x26 h:=rfl
def Y25.p1 (Q:AV→AHeap→Prop) (x2:AV) (x5:AV) (x7:Int) (h:AHeap):Prop:=Y25.J Q 2 [(2,x2),(5,x5),(7,(AV.i .i64 x7))] h
theorem Y25.j1 (Q:AV→AHeap→Prop) (x2:AV) (x5:AV) (x7:Int) (h:AHeap):Y25.J Q 2 [(2,x2),(5,x5),(7,(AV.i .i64 x7))] h=Y25.p1 Q x2 x5 x7 h:=rfl
def Y25.t0 (J:JT) (Q:AV→AHeap→Prop) (x2:AV) (x5:AV) (x7:Int) (x26:Bool) (h:AHeap):Prop:=
(bif x26 then
(J 2 [(2,x2),(5,x5),(7,(AV.i .i64 2))] h)
else
(J 2 [(2,x2),(5,x5),(7,(AV.i .i64 x7))] h))
theorem Y25.t0_eq (J:JT) (Q:AV→AHeap→Prop) (x2:AV) (x5:AV) (x7:Int) (x26:Bool) (h:AHeap):Y25.t0 J Q x2 x5 x7 x26 h=atJ prog C 32 J false [1,1,1,1,0,1] Y25.ann Y25.body [(2,x2),(5,x5),(7,(AV.i .i64 x7)),(26,(AV.b x26))] h (kFun prog Tryz.f19 Q):=by kernel_rfl
theorem Y25.i0 {Q:AV→AHeap→Prop} {x2:AV} {x5:AV} {x7:Int} {x26:Bool} {h:AHeap} (H:Y25.t0 (Y25.J Q) Q x2 x5 x7 x26 h):Y25.p0 Q x2 x5 x7 x26 h:=Y25.goR (k:=1) (p:=[1,1,1,1,0,1]) (by kernel_rfl) ((Y25.t0_eq (Y25.J Q) Q x2 x5 x7 x26 h).mp H)
def Y25.t1 (J:JT) (Q:AV→AHeap→Prop) (x2:AV) (x5:AV) (x7:Int) (h:AHeap):Prop:=
(bif (!decide ((x7:Int)=0)) then
(pStore 5 x2 (AV.ag [(AV.i .i64 0),(AV.i .i64 0),(AV.b false),(AV.s []),(AV.sl none 0 none)]) h fun h27=>
pLoadN 5 x2 h27 fun v29=>
Q (AV.tu [v29,(AV.i .i64 x7)]) h27)
else
(pLoadN 5 x5 h fun v31=>
pStore 5 x2 v31 h fun h32=>
pLoadN 5 x2 h32 fun v34=>
Q (AV.tu [v34,(AV.i .i64 0)]) h32))
theorem Y25.t1_eq (J:JT) (Q:AV→AHeap→Prop) (x2:AV) (x5:AV) (x7:Int) (h:AHeap):Y25.t1 J Q x2 x5 x7 h=atJ prog C 32 J false [1,1,1,1,1] Y25.ann Y25.body [(2,x2),(5,x5),(7,(AV.i .i64 x7))] h (kFun prog Tryz.f19 Q):=by kernel_rfl
theorem Y25.i1 {Q:AV→AHeap→Prop} {x2:AV} {x5:AV} {x7:Int} {h:AHeap} (H:Y25.t1 (Y25.J Q) Q x2 x5 x7 h):Y25.p1 Q x2 x5 x7 h:=Y25.goR (k:=2) (p:=[1,1,1,1,1]) (by kernel_rfl) ((Y25.t1_eq (Y25.J Q) Q x2 x5 x7 h).mp H)
def Y25.t (J:JT) (Q:AV→AHeap→Prop) (x0:List UInt8) (h:AHeap):Prop:=
pAlloc (some 33) [(AV.i .i64 0),(AV.i .i64 0),(AV.b false),(AV.s []),(AV.sl none 0 none)] h fun v0 h1=>
(bif (decide ((65535:Int)<(x0.length:Int))) then
(pStore 5 v0 (AV.ag [(AV.i .i64 0),(AV.i .i64 0),(AV.b false),(AV.s []),(AV.sl none 0 none)]) h1 fun h4=>
pLoadN 5 v0 h4 fun v6=>
Q (AV.tu [v6,(AV.i .i64 3)]) h4)
else
(pBox (some 78) (AV.ag [(AV.i .i64 0)]) h1 fun v8 h9=>
C Y34.id [v8,(AV.s x0),(AV.i .i64 1)] h9 fun v11 h12=>
pExtract 0 v11 fun v13=>
pExtract 1 v11 fun v14=>
asS v14 fun l15=>
pExtract 2 v11 fun v16=>
asI .i64 v16 fun n17=>
pAlloc (some 33) [(AV.i .i64 0),(AV.i .i64 0),(AV.b false),(AV.s []),(AV.sl none 0 none)] h12 fun v18 h19=>
pStore 5 v18 v13 h19 fun h20=>
(bif (decide ((n17:Int)=0)) then
(J 1 [(2,v0),(5,v18),(7,(AV.i .i64 n17)),(26,(AV.b (!(decide ((l15:List UInt8)=[])))))] h20)
else
(J 1 [(2,v0),(5,v18),(7,(AV.i .i64 n17)),(26,(AV.b false))] h20))))
theorem Y25.t_eq (J:JT) (Q:AV→AHeap→Prop) (x0:List UInt8) (h:AHeap):Y25.t J Q x0 h=exJ prog C 32 J Y25.ann Y25.body (initEnv 0 [(AV.s x0)]) h (kFun prog Tryz.f19 Q):=by kernel_rfl
theorem Y25.call {K:AV→AHeap→Prop} {x0:List UInt8} {h:AHeap} (H:Y25.t (Y25.J (kRet h K)) (kRet h K) x0 h):C Y25.id [(AV.s x0)] h K:=
  callJ (P:=prog) (fn:=Tryz.f19) (ann:=Y25.ann) (body:=Y25.body) Tryz.func19 Y25.body_eq (by kernel_rfl) Y25.dist (by kernel_rfl) ((Y25.t_eq (Y25.J (kRet h K)) (kRet h K) x0 h).mp H)
noncomputable def Y28.body:Code:=(Tryz.f20.body).getD .skip
def Y28.ann:Ann:=(.seq 0 [2,3,4] .leaf (.seq 1 [6,7] (.ord (.neu 0 (.neu 1 (.neu 2 (.neu 3 (.eff 4 (.neu 5 (.neu 6 (.neu 7 (.neu 8 (.neu 9 (.neu 10 (.neu 11 (.neu 12 (.neu 13 (.neu 14 (.neu 15 (.neu 16 (.neu 17 .done))))))))))))) .stop)))))) .leaf))
theorem Y28.body_eq:Tryz.f20.body=some Y28.body:=by kernel_rfl
theorem Y28.dist:noTwice (places Y28.ann Y28.body)=true:=by kernel_rfl
noncomputable def Y28.J (Q:AV→AHeap→Prop):JT:=funJ prog C Tryz.f20 Y28.ann Y28.body Q
theorem Y28.goR {Q:AV→AHeap→Prop} {k:Nat} {p:List Nat} (hl:lookJ (places Y28.ann Y28.body) k=some (p,false)) {e:Env} {h:AHeap} (hk:atJ prog C 24 (Y28.J Q) false p Y28.ann Y28.body e h (kFun prog Tryz.f20 Q)):Y28.J Q k e h:=goJ_run (P:=prog) (fn:=Tryz.f20) (ann:=Y28.ann) (body:=Y28.body) (Q:=Q) (k:=k) (p:=p) (e:=e) (h:=h) (acall_le X) Y28.dist hl hk
def Y28.p0 (Q:AV→AHeap→Prop) (x6:AV) (x7:Bool) (h:AHeap):Prop:=Y28.J Q 1 [(6,x6),(7,(AV.b x7))] h
theorem Y28.j0 (Q:AV→AHeap→Prop) (x6:AV) (x7:Bool) (h:AHeap):Y28.J Q 1 [(6,x6),(7,(AV.b x7))] h=Y28.p0 Q x6 x7 h:=rfl
def Y28.t0 (J:JT) (Q:AV→AHeap→Prop) (x6:AV) (x7:Bool) (h:AHeap):Prop:=
Q (AV.tu [x6,(AV.b x7)]) h
theorem Y28.t0_eq (J:JT) (Q:AV→AHeap→Prop) (x6:AV) (x7:Bool) (h:AHeap):Y28.t0 J Q x6 x7 h=atJ prog C 24 J false [1,1] Y28.ann Y28.body [(6,x6),(7,(AV.b x7))] h (kFun prog Tryz.f20 Q):=by kernel_rfl
theorem Y28.i0 {Q:AV→AHeap→Prop} {x6:AV} {x7:Bool} {h:AHeap} (H:Y28.t0 (Y28.J Q) Q x6 x7 h):Y28.p0 Q x6 x7 h:=Y28.goR (k:=1) (p:=[1,1]) (by kernel_rfl) ((Y28.t0_eq (Y28.J Q) Q x6 x7 h).mp H)
def Y28.t (J:JT) (Q:AV→AHeap→Prop) (x0:AV) (x1:AV) (x2:Int) (h:AHeap):Prop:=
pBox (some 46) x0 h fun v0 h1=>
pBox (some 33) x1 h1 fun v2 h3=>
pFieldAddr 4 v2 fun v5=>
pLoad1 v5 h3 fun v6=>
pLoadN 3 v0 h3 fun v7=>
pLoadN 5 v2 h3 fun v8=>
C Y45.id [v7,v8] h3 fun v9 h10=>
asB v9 fun c11=>
pLoad1 v5 h10 fun v12=>
(v6=v12 ∧
((bif c11 then
((bif (decide ((x2:Int)<0)) then
(J 1 [(6,v6),(7,(AV.b true))] h10)
else
(pFieldAddr 4 v2 fun v14=>
pLoad1 v14 h10 fun v15=>
pLenSl v15 fun n16=>
J 1 [(6,v6),(7,(AV.b (decide ((n16:Int)=x2))))] h10)))
else
(J 1 [(6,v6),(7,(AV.b false))] h10))))
theorem Y28.t_eq (J:JT) (Q:AV→AHeap→Prop) (x0:AV) (x1:AV) (x2:Int) (h:AHeap):Y28.t J Q x0 x1 x2 h=exJ prog C 24 J Y28.ann Y28.body (initEnv 0 [x0,x1,(AV.i .i64 x2)]) h (kFun prog Tryz.f20 Q):=by kernel_rfl
theorem Y28.call {K:AV→AHeap→Prop} {x0:AV} {x1:AV} {x2:Int} {h:AHeap} (H:Y28.t (Y28.J (kRet h K)) (kRet h K) x0 x1 x2 h):C Y28.id [x0,x1,(AV.i .i64 x2)] h K:=
  callJ (P:=prog) (fn:=Tryz.f20) (ann:=Y28.ann) (body:=Y28.body) Tryz.func20 Y28.body_eq (by kernel_rfl) Y28.dist (by kernel_rfl) ((Y28.t_eq (Y28.J (kRet h K)) (kRet h K) x0 x1 x2 h).mp H)
noncomputable def Y45.body:Code:=(Tryz.f21.body).getD .skip
def Y45.ann:Ann:=(.seq 0 [2,3] .leaf (.seq 0 [4] .leaf .leaf))
theorem Y45.body_eq:Tryz.f21.body=some Y45.body:=by kernel_rfl
theorem Y45.dist:noTwice (places Y45.ann Y45.body)=true:=by kernel_rfl
noncomputable def Y45.J (Q:AV→AHeap→Prop):JT:=funJ prog C Tryz.f21 Y45.ann Y45.body Q
def Y45.t (J:JT) (Q:AV→AHeap→Prop) (x0:AV) (x1:AV) (h:AHeap):Prop:=
pBox (some 46) x0 h fun v0 h1=>
pBox (some 33) x1 h1 fun v2 h3=>
pFieldAddr 0 v2 fun v5=>
pLoad1 v5 h3 fun v6=>
asI .i64 v6 fun n7=>
pFieldAddr 1 v2 fun v8=>
pLoad1 v8 h3 fun v9=>
asI .i64 v9 fun n10=>
pFieldAddr 2 v2 fun v11=>
pLoad1 v11 h3 fun v12=>
asB v12 fun c13=>
pLoadN 3 v0 h3 fun v14=>
pBin prog .eql 46 (AV.ag [(AV.i .i64 n7),(AV.i .i64 n10),(AV.b c13)]) v14 fun v15=>
asB v15 fun c16=>
Q (AV.b c16) h3
theorem Y45.t_eq (J:JT) (Q:AV→AHeap→Prop) (x0:AV) (x1:AV) (h:AHeap):Y45.t J Q x0 x1 h=exJ prog C 14 J Y45.ann Y45.body (initEnv 0 [x0,x1]) h (kFun prog Tryz.f21 Q):=by kernel_rfl
theorem Y45.call {K:AV→AHeap→Prop} {x0:AV} {x1:AV} {h:AHeap} (H:Y45.t (Y45.J (kRet h K)) (kRet h K) x0 x1 h):C Y45.id [x0,x1] h K:=
  callJ (P:=prog) (fn:=Tryz.f21) (ann:=Y45.ann) (body:=Y45.body) Tryz.func21 Y45.body_eq (by kernel_rfl) Y45.dist (by kernel_rfl) ((Y45.t_eq (Y45.J (kRet h K)) (kRet h K) x0 x1 h).mp H)
noncomputable def Y7.body:Code:=(Tryz.f22.body).getD .skip
def Y7.ann:Ann:=(.seq 0 [0,1,4,5] (.ord (.neu 0 (.neu 1 (.neu 2 (.neu 3 (.eff 4 (.neu 5 (.neu 6 (.neu 7 (.neu 8 (.neu 9 .done))))) .stop)))))) (.seq 0 [0,1,4] (.seq 0 [0,1,4,28] .leaf (.br .leaf .leaf)) (.seq 0 [0,1,5,6] .leaf (.seq 1 [0,1] (.ord (.neu 0 (.neu 1 (.neu 2 (.neu 3 (.neu 4 (.neu 5 (.neu 6 (.neu 7 (.neu 8 (.neu 9 (.neu 10 (.eff 11 (.neu 12 (.neu 13 (.neu 14 (.neu 15 (.neu 16 (.neu 17 (.neu 18 (.neu 19 (.neu 20 (.neu 21 (.neu 22 (.neu 23 (.neu 24 (.eff 25 (.neu 26 (.eff 27 .done .stop)) .stop)))))))))))))) .stop))))))))))))) (.seq 0 [0,1] (.seq 0 [0,1,68,69] .leaf (.one (.loop 2 [0,1,68,69] (.seq 0 [0,1,68,69,70] .leaf (.seq 0 [0,1,68,69] (.br .leaf .leaf) (.seq 0 [0,1,68,69] (.one (.seq 0 [0,1,7,68,69] .leaf (.seq 0 [0,1,8,68,69] .leaf (.ord (.neu 0 (.neu 1 (.neu 2 (.neu 3 (.neu 4 (.neu 5 (.neu 6 (.neu 7 (.neu 8 (.neu 9 (.neu 10 (.neu 11 (.neu 12 (.neu 13 (.neu 14 (.neu 15 (.neu 16 (.neu 17 (.neu 18 (.neu 19 (.neu 20 (.neu 21 (.eff 22 .done .stop))))))))))))))))))))))))))) .leaf)))))) (.seq 0 [0,1] (.ord (.neu 0 (.neu 1 (.neu 2 (.neu 3 (.neu 4 (.neu 5 (.neu 7 (.neu 8 (.neu 9 (.neu 10 (.eff 6 (.eff 11 (.neu 12 (.neu 13 (.neu 14 (.eff 15 (.neu 16 (.neu 17 (.neu 18 (.eff 19 .done .stop)))) .stop)))) .stop) .stop)))))))))))) (.seq 0 [0,1,5,9] (.ord (.neu 0 (.neu 1 (.neu 2 (.neu 3 (.eff 4 (.neu 5 (.neu 6 (.neu 7 (.neu 8 (.neu 9 .done))))) .stop)))))) (.seq 0 [0,1,9] (.seq 0 [0,1,9,130] .leaf (.br .leaf .leaf)) (.seq 0 [0,1,9,10,11] .leaf (.seq 0 [0,1,10,11,12,13] .leaf (.seq 0 [0,1,11,13] .leaf (.seq 0 [0,1,5,11,13,14] (.ord (.neu 0 (.neu 1 (.neu 2 (.neu 3 (.eff 4 (.neu 5 (.neu 6 (.neu 7 (.neu 8 (.neu 9 .done))))) .stop)))))) (.seq 0 [0,1,14] (.seq 3 [0,1,14,193] (.ord (.neu 0 (.neu 1 (.neu 2 (.neu 3 (.neu 4 (.neu 5 (.neu 6 (.neu 7 (.neu 8 (.neu 9 (.neu 10 (.neu 11 (.neu 12 (.eff 13 (.neu 14 (.neu 15 (.neu 16 (.neu 17 (.neu 18 (.neu 19 (.eff 20 (.neu 21 (.neu 22 (.neu 23 (.neu 24 (.neu 25 (.neu 26 (.eff 27 (.neu 28 (.eff 29 (.neu 30 .done) .stop)) .stop))))))) .stop))))))) .stop))))))))))))))) (.br .leaf .leaf)) (.seq 0 [0,1] .leaf (.seq 0 [0,1,205] .leaf (.br (.seq 0 [0,15,16] (.ord (.neu 0 (.neu 1 (.neu 2 (.neu 3 (.eff 4 (.neu 5 (.neu 6 (.neu 7 (.neu 8 (.neu 9 .done))))) .stop)))))) (.seq 4 [0,15,223] (.ord (.neu 0 (.neu 1 (.neu 2 (.neu 3 (.neu 4 (.neu 5 (.neu 6 (.eff 7 (.neu 8 (.eff 9 .done .stop)) .stop))))))))) (.br .leaf .leaf))) .leaf))))))))))))))))
theorem Y7.body_eq:Tryz.f22.body=some Y7.body:=by kernel_rfl
theorem Y7.dist:noTwice (places Y7.ann Y7.body)=true:=by kernel_rfl
noncomputable def Y7.J (Q:AV→AHeap→Prop):JT:=funJ prog C Tryz.f22 Y7.ann Y7.body Q
theorem Y7.goR {Q:AV→AHeap→Prop} {k:Nat} {p:List Nat} (hl:lookJ (places Y7.ann Y7.body) k=some (p,false)) {e:Env} {h:AHeap} (hk:atJ prog C 230 (Y7.J Q) false p Y7.ann Y7.body e h (kFun prog Tryz.f22 Q)):Y7.J Q k e h:=goJ_run (P:=prog) (fn:=Tryz.f22) (ann:=Y7.ann) (body:=Y7.body) (Q:=Q) (k:=k) (p:=p) (e:=e) (h:=h) (acall_le X) Y7.dist hl hk
theorem Y7.goH {Q:AV→AHeap→Prop} {k:Nat} {p:List Nat} (hl:lookJ (places Y7.ann Y7.body) k=some (p,true)) {e:Env} {h:AHeap} (hk:atJ prog C 230 (Y7.J Q) true p Y7.ann Y7.body e h (kFun prog Tryz.f22 Q)):Y7.J Q k e h:=goJ_head (P:=prog) (fn:=Tryz.f22) (ann:=Y7.ann) (body:=Y7.body) (Q:=Q) (k:=k) (p:=p) (e:=e) (h:=h) (acall_le X) Y7.dist hl hk
def Y7.p1 (Q:AV→AHeap→Prop) (x0:AV) (x1:AV) (x68:Int) (x69:Int) (h:AHeap):Prop:=Y7.J Q 2 [(0,x0),(1,x1),(68,(AV.i .i64 x68)),(69,(AV.i .i64 x69))] h
theorem Y7.j1 (Q:AV→AHeap→Prop) (x0:AV) (x1:AV) (x68:Int) (x69:Int) (h:AHeap):Y7.J Q 2 [(0,x0),(1,x1),(68,(AV.i .i64 x68)),(69,(AV.i .i64 x69))] h=Y7.p1 Q x0 x1 x68 x69 h:=rfl
def Y7.p2 (Q:AV→AHeap→Prop) (x0:AV) (x1:AV) (x14:AV) (x193:Bool) (h:AHeap):Prop:=Y7.J Q 3 [(0,x0),(1,x1),(14,x14),(193,(AV.b x193))] h
theorem Y7.j2 (Q:AV→AHeap→Prop) (x0:AV) (x1:AV) (x14:AV) (x193:Bool) (h:AHeap):Y7.J Q 3 [(0,x0),(1,x1),(14,x14),(193,(AV.b x193))] h=Y7.p2 Q x0 x1 x14 x193 h:=rfl
def Y7.p3 (Q:AV→AHeap→Prop) (x0:AV) (x15:AV) (x223:Bool) (h:AHeap):Prop:=Y7.J Q 4 [(0,x0),(15,x15),(223,(AV.b x223))] h
theorem Y7.j3 (Q:AV→AHeap→Prop) (x0:AV) (x15:AV) (x223:Bool) (h:AHeap):Y7.J Q 4 [(0,x0),(15,x15),(223,(AV.b x223))] h=Y7.p3 Q x0 x15 x223 h:=rfl
def Y7.p0 (Q:AV→AHeap→Prop) (x0:AV) (x1:AV) (h:AHeap):Prop:=Y7.J Q 1 [(0,x0),(1,x1)] h
theorem Y7.j0 (Q:AV→AHeap→Prop) (x0:AV) (x1:AV) (h:AHeap):Y7.J Q 1 [(0,x0),(1,x1)] h=Y7.p0 Q x0 x1 h:=rfl
def Y7.t1 (J:JT) (Q:AV→AHeap→Prop) (x0:AV) (x1:AV) (x68:Int) (x69:Int) (h:AHeap):Prop:=
(bif (decide ((x69:Int)<x68)) then
(pIdxAddrSl 5 x1 (AV.i .i64 1) h fun v95=>
pFieldAddr 3 v95 fun v96=>
pLoad1 v96 h fun v97=>
asS v97 fun l98=>
pIdxStr (AV.s l98) (AV.i .i64 x69) fun n99=>
pNil x0 fun v101=>
pFieldAddr 0 v101 fun v102=>
pFieldAddr 0 v102 fun v103=>
pLoad1 v103 h fun v104=>
asS v104 fun l105=>
pShr .u8 n99 4 fun n106=>
pShr .u8 n99 4 fun n107=>
withI (IntKind.wrap .u8 (n107+1)) fun n108=>
pSliceStr (AV.s [48,49,50,51,52,53,54,55,56,57,97,98,99,100,101,102]) (some (AV.i .u8 n106)) (some (AV.i .u8 n108)) fun l109=>
withI (IntKind.wrap .u8 ((bitsOp .and .u8 n99 15)+1)) fun n110=>
pSliceStr (AV.s [48,49,50,51,52,53,54,55,56,57,97,98,99,100,101,102]) (some (AV.i .u8 (bitsOp .and .u8 n99 15))) (some (AV.i .u8 n110)) fun l111=>
pCat l109 l111 fun l112=>
pCat l105 l112 fun l113=>
pNil x0 fun v114=>
pFieldAddr 0 v114 fun v115=>
pFieldAddr 0 v115 fun v116=>
pStore 1 v116 (AV.s l113) h fun h117=>
withI (IntKind.wrap .i64 (x69+1)) fun n119=>
J 2 [(0,x0),(1,x1),(68,(AV.i .i64 x68)),(69,(AV.i .i64 n119))] h117)
else
(pIdxAddrSl 5 x1 (AV.i .i64 3) h fun v121=>
pLoadN 5 v121 h fun v122=>
pIdxAddrSl 5 x1 (AV.i .i64 5) h fun v123=>
pLoadN 5 v123 h fun v124=>
C Y53.id [x0,v122] h fun v125 h126=>
asS v125 fun l127=>
pLoadN 5 v123 h126 fun v128=>
(v124=v128 ∧
(pIdxAddrSl 5 x1 (AV.i .i64 5) h126 fun v129=>
(v123=v129 ∧
(pIdxAddrSl 5 x1 (AV.i .i64 3) h126 fun v130=>
(v121=v130 ∧
(C Y53.id [x0,v124] h126 fun v131 h132=>
asS v131 fun l133=>
pIdxAddrSl 5 x1 (AV.i .i64 5) h132 fun v134=>
(v123=v134 ∧
(pLoadN 5 v121 h132 fun v135=>
(v122=v135 ∧
(pIdxAddrSl 5 x1 (AV.i .i64 3) h132 fun v136=>
(v121=v136 ∧
(pNil x0 fun v137=>
pFieldAddr 0 v137 fun v138=>
pFieldAddr 1 v138 fun v139=>
pStore 1 v139 (AV.s l127) h132 fun h140=>
pIdxAddrSl 5 x1 (AV.i .i64 5) h140 fun v141=>
(v123=v141 ∧
(pNil x0 fun v142=>
pFieldAddr 0 v142 fun v143=>
pFieldAddr 2 v143 fun v144=>
pStore 1 v144 (AV.s l133) h140 fun h145=>
pLoadN 3 (gvar h145 0) h145 fun v147=>
pIdxAddrSl 5 x1 (AV.i .i64 4) h145 fun v148=>
pLoadN 5 v148 h145 fun v149=>
C Y28.id [v147,v149,(AV.i .i64 2)] h145 fun v150 h151=>
pIdxAddrSl 5 x1 (AV.i .i64 4) h151 fun v152=>
(v148=v152 ∧
(pExtract 0 v150 fun v153=>
pExtract 1 v150 fun v154=>
asB v154 fun c155=>
C Y24.id [x0,(AV.b c155)] h151 fun v157 h158=>
asB v157 fun c159=>
(bif (!c159) then
(Q (AV.tu []) h158)
else
(pIdxAddrSl 5 v153 (AV.i .i64 0) h158 fun v162=>
pLoadN 5 v162 h158 fun v163=>
C Y2.id [v163] h158 fun v164 h165=>
pExtract 0 v164 fun v166=>
asI .i64 v166 fun n167=>
pExtract 1 v164 fun v168=>
asB v168 fun c169=>
pIdxAddrSl 5 v153 (AV.i .i64 1) h165 fun v171=>
pLoadN 5 v171 h165 fun v172=>
C Y2.id [v172] h165 fun v173 h174=>
pExtract 0 v173 fun v175=>
asI .i64 v175 fun n176=>
pExtract 1 v173 fun v177=>
asB v177 fun c178=>
pNil x0 fun v180=>
pFieldAddr 0 v180 fun v181=>
pFieldAddr 3 v181 fun v182=>
pStore 1 v182 (AV.i .i64 n167) h174 fun h183=>
pNil x0 fun v184=>
pFieldAddr 0 v184 fun v185=>
pFieldAddr 4 v185 fun v186=>
pStore 1 v186 (AV.i .i64 n176) h183 fun h187=>
pLoadN 3 (gvar h187 0) h187 fun v189=>
pIdxAddrSl 5 x1 (AV.i .i64 6) h187 fun v190=>
pLoadN 5 v190 h187 fun v191=>
C Y28.id [v189,v191,(AV.i .i64 2)] h187 fun v192 h193=>
pIdxAddrSl 5 x1 (AV.i .i64 6) h193 fun v194=>
(v190=v194 ∧
(pExtract 0 v192 fun v195=>
pExtract 1 v192 fun v196=>
asB v196 fun c197=>
(bif c169 then
((bif c178 then
((bif c197 then
(pLoadN 3 (gvar h193 0) h193 fun v199=>
pIdxAddrSl 5 v195 (AV.i .i64 0) h193 fun v200=>
pLoadN 5 v200 h193 fun v201=>
C Y45.id [v199,v201] h193 fun v202 h203=>
asB v202 fun c204=>
pIdxAddrSl 5 v195 (AV.i .i64 0) h203 fun v205=>
(v200=v205 ∧
((bif c204 then
(pLoadN 3 (gvar h203 1) h203 fun v206=>
pIdxAddrSl 5 v195 (AV.i .i64 1) h203 fun v207=>
pLoadN 5 v207 h203 fun v208=>
C Y45.id [v206,v208] h203 fun v209 h210=>
asB v209 fun c211=>
pIdxAddrSl 5 v195 (AV.i .i64 1) h210 fun v212=>
(v207=v212 ∧
(pLoadN 5 v200 h210 fun v213=>
(v201=v213 ∧
(pIdxAddrSl 5 v195 (AV.i .i64 0) h210 fun v214=>
(v200=v214 ∧
(pLoadN 3 (gvar h210 0) h210 fun v215=>
(v199=v215 ∧
((bif c211 then
(pIdxAddrSl 5 v195 (AV.i .i64 1) h210 fun v216=>
pFieldAddr 3 v216 fun v217=>
pLoad1 v217 h210 fun v218=>
asS v218 fun l219=>
C Y71.id [(AV.s l219),(AV.s [0])] h210 fun v220 h221=>
asB v220 fun c222=>
pIdxAddrSl 5 v195 (AV.i .i64 1) h221 fun v223=>
(v216=v223 ∧
(pLoadN 5 v207 h221 fun v224=>
(v208=v224 ∧
(pIdxAddrSl 5 v195 (AV.i .i64 1) h221 fun v225=>
(v207=v225 ∧
(pLoadN 3 (gvar h221 1) h221 fun v226=>
(v206=v226 ∧
(pLoadN 5 v200 h221 fun v227=>
(v201=v227 ∧
(pIdxAddrSl 5 v195 (AV.i .i64 0) h221 fun v228=>
(v200=v228 ∧
(pLoadN 3 (gvar h221 0) h221 fun v229=>
(v199=v229 ∧
(C Y24.id [x0,(AV.b c222)] h221 fun v230 h231=>
asB v230 fun c232=>
pLoad1 v217 h231 fun v233=>
asS v233 fun l234=>
((AV.s l219)=(AV.s l234) ∧
(pIdxAddrSl 5 v195 (AV.i .i64 1) h231 fun v235=>
(v216=v235 ∧
(pLoadN 5 v207 h231 fun v236=>
(v208=v236 ∧
(pIdxAddrSl 5 v195 (AV.i .i64 1) h231 fun v237=>
(v207=v237 ∧
(pLoadN 3 (gvar h231 1) h231 fun v238=>
(v206=v238 ∧
(pLoadN 5 v200 h231 fun v239=>
(v201=v239 ∧
(pIdxAddrSl 5 v195 (AV.i .i64 0) h231 fun v240=>
(v200=v240 ∧
(pLoadN 3 (gvar h231 0) h231 fun v241=>
(v199=v241 ∧
(J 3 [(0,x0),(1,x1),(14,v195),(193,(AV.b (!c232)))] h231)))))))))))))))))))))))))))))))
else
(C Y24.id [x0,(AV.b false)] h210 fun v243 h244=>
asB v243 fun c245=>
((AV.tu [])=(AV.tu []) ∧
(((AV.tu [])=(AV.tu []) ∧
(pLoadN 5 v207 h244 fun v246=>
(v208=v246 ∧
(pIdxAddrSl 5 v195 (AV.i .i64 1) h244 fun v247=>
(v207=v247 ∧
(pLoadN 3 (gvar h244 1) h244 fun v248=>
(v206=v248 ∧
(pLoadN 5 v200 h244 fun v249=>
(v201=v249 ∧
(pIdxAddrSl 5 v195 (AV.i .i64 0) h244 fun v250=>
(v200=v250 ∧
(pLoadN 3 (gvar h244 0) h244 fun v251=>
(v199=v251 ∧
(J 3 [(0,x0),(1,x1),(14,v195),(193,(AV.b (!c245)))] h244)))))))))))))))))))))))))))
else
(C Y24.id [x0,(AV.b false)] h203 fun v253 h254=>
asB v253 fun c255=>
((AV.tu [])=(AV.tu []) ∧
(((AV.tu [])=(AV.tu []) ∧
(((AV.tu [])=(AV.tu []) ∧
(((AV.tu [])=(AV.tu []) ∧
(((AV.tu [])=(AV.tu []) ∧
(pLoadN 5 v200 h254 fun v256=>
(v201=v256 ∧
(pIdxAddrSl 5 v195 (AV.i .i64 0) h254 fun v257=>
(v200=v257 ∧
(pLoadN 3 (gvar h254 0) h254 fun v258=>
(v199=v258 ∧
(J 3 [(0,x0),(1,x1),(14,v195),(193,(AV.b (!c255)))] h254)))))))))))))))))))))
else
(C Y24.id [x0,(AV.b false)] h193 fun v260 h261=>
asB v260 fun c262=>
((AV.tu [])=(AV.tu []) ∧
(((AV.tu [])=(AV.tu []) ∧
(((AV.tu [])=(AV.tu []) ∧
(((AV.tu [])=(AV.tu []) ∧
(((AV.tu [])=(AV.tu []) ∧
(((AV.tu [])=(AV.tu []) ∧
(((AV.tu [])=(AV.tu []) ∧
(((AV.tu [])=(AV.tu []) ∧
(J 3 [(0,x0),(1,x1),(14,v195),(193,(AV.b (!c262)))] h261)))))))))))))))))))
else
(C Y24.id [x0,(AV.b false)] h193 fun v264 h265=>
asB v264 fun c266=>
((AV.tu [])=(AV.tu []) ∧
(((AV.tu [])=(AV.tu []) ∧
(((AV.tu [])=(AV.tu []) ∧
(((AV.tu [])=(AV.tu []) ∧
(((AV.tu [])=(AV.tu []) ∧
(((AV.tu [])=(AV.tu []) ∧
(((AV.tu [])=(AV.tu []) ∧
(((AV.tu [])=(AV.tu []) ∧
(J 3 [(0,x0),(1,x1),(14,v195),(193,(AV.b (!c266)))] h265)))))))))))))))))))
else
(C Y24.id [x0,(AV.b false)] h193 fun v268 h269=>
asB v268 fun c270=>
((AV.tu [])=(AV.tu []) ∧
(((AV.tu [])=(AV.tu []) ∧
(((AV.tu [])=(AV.tu []) ∧
(((AV.tu [])=(AV.tu []) ∧
(((AV.tu [])=(AV.tu []) ∧
(((AV.tu [])=(AV.tu []) ∧
(((AV.tu [])=(AV.tu []) ∧
(((AV.tu [])=(AV.tu []) ∧
(J 3 [(0,x0),(1,x1),(14,v195),(193,(AV.b (!c270)))] h269))))))))))))))))))))))))))))))))))))))))
theorem Y7.t1_eq (J:JT) (Q:AV→AHeap→Prop) (x0:AV) (x1:AV) (x68:Int) (x69:Int) (h:AHeap):Y7.t1 J Q x0 x1 x68 x69 h=atJ prog C 230 J true [1,1,1,1,0,1,0] Y7.ann Y7.body [(0,x0),(1,x1),(68,(AV.i .i64 x68)),(69,(AV.i .i64 x69))] h (kFun prog Tryz.f22 Q):=by kernel_rfl
theorem Y7.i1 {Q:AV→AHeap→Prop} {x0:AV} {x1:AV} {x68:Int} {x69:Int} {h:AHeap} (H:Y7.t1 (Y7.J Q) Q x0 x1 x68 x69 h):Y7.p1 Q x0 x1 x68 x69 h:=Y7.goH (k:=2) (p:=[1,1,1,1,0,1,0]) (by kernel_rfl) ((Y7.t1_eq (Y7.J Q) Q x0 x1 x68 x69 h).mp H)
def Y7.t2 (J:JT) (Q:AV→AHeap→Prop) (x0:AV) (x1:AV) (x14:AV) (x193:Bool) (h:AHeap):Prop:=
(bif x193 then
(Q (AV.tu []) h)
else
(pIdxAddrSl 5 x14 (AV.i .i64 1) h fun v273=>
pFieldAddr 3 v273 fun v274=>
pLoad1 v274 h fun v275=>
asS v275 fun l276=>
pSliceStr (AV.s l276) (some (AV.i .i64 1)) none fun l277=>
pNil x0 fun v278=>
pFieldAddr 0 v278 fun v279=>
pFieldAddr 7 v279 fun v280=>
pStore 1 v280 (AV.s l277) h fun h281=>
pLenSl x1 fun n283=>
(bif (decide ((n283:Int)=8)) then
(pLoadN 3 (gvar h281 6) h281 fun v285=>
pIdxAddrSl 5 x1 (AV.i .i64 7) h281 fun v286=>
pLoadN 5 v286 h281 fun v287=>
C Y28.id [v285,v287,(AV.i .i64 1)] h281 fun v288 h289=>
pIdxAddrSl 5 x1 (AV.i .i64 7) h289 fun v290=>
(v286=v290 ∧
(pExtract 0 v288 fun v291=>
pExtract 1 v288 fun v292=>
asB v292 fun c293=>
(bif c293 then
(pLoadN 3 (gvar h289 0) h289 fun v295=>
pIdxAddrSl 5 v291 (AV.i .i64 0) h289 fun v296=>
pLoadN 5 v296 h289 fun v297=>
C Y45.id [v295,v297] h289 fun v298 h299=>
asB v298 fun c300=>
pIdxAddrSl 5 v291 (AV.i .i64 0) h299 fun v301=>
(v296=v301 ∧
(C Y24.id [x0,(AV.b c300)] h299 fun v302 h303=>
asB v302 fun c304=>
pLoadN 5 v296 h303 fun v305=>
(v297=v305 ∧
(pIdxAddrSl 5 v291 (AV.i .i64 0) h303 fun v306=>
(v296=v306 ∧
(pLoadN 3 (gvar h303 0) h303 fun v307=>
(v295=v307 ∧
(J 4 [(0,x0),(15,v291),(223,(AV.b c304))] h303)))))))))
else
(C Y24.id [x0,(AV.b false)] h289 fun v309 h310=>
asB v309 fun c311=>
((AV.tu [])=(AV.tu []) ∧
(((AV.tu [])=(AV.tu []) ∧
(((AV.tu [])=(AV.tu []) ∧
(J 4 [(0,x0),(15,v291),(223,(AV.b c311))] h310)))))))))))
else
(Q (AV.tu []) h281))))
theorem Y7.t2_eq (J:JT) (Q:AV→AHeap→Prop) (x0:AV) (x1:AV) (x14:AV) (x193:Bool) (h:AHeap):Y7.t2 J Q x0 x1 x14 x193 h=atJ prog C 230 J false [1,1,1,1,1,1,1,1,1,1,1,1,0,1] Y7.ann Y7.body [(0,x0),(1,x1),(14,x14),(193,(AV.b x193))] h (kFun prog Tryz.f22 Q):=by kernel_rfl
theorem Y7.i2 {Q:AV→AHeap→Prop} {x0:AV} {x1:AV} {x14:AV} {x193:Bool} {h:AHeap} (H:Y7.t2 (Y7.J Q) Q x0 x1 x14 x193 h):Y7.p2 Q x0 x1 x14 x193 h:=Y7.goR (k:=3) (p:=[1,1,1,1,1,1,1,1,1,1,1,1,0,1]) (by kernel_rfl) ((Y7.t2_eq (Y7.J Q) Q x0 x1 x14 x193 h).mp H)
def Y7.t3 (J:JT) (Q:AV→AHeap→Prop) (x0:AV) (x15:AV) (x223:Bool) (h:AHeap):Prop:=
(bif x223 then
(pIdxAddrSl 5 x15 (AV.i .i64 0) h fun v313=>
pFieldAddr 4 v313 fun v314=>
pLoad1 v314 h fun v315=>
C Y0.id [x0,v315] h fun v316 h317=>
Q (AV.tu []) h317)
else
(Q (AV.tu []) h))
theorem Y7.t3_eq (J:JT) (Q:AV→AHeap→Prop) (x0:AV) (x15:AV) (x223:Bool) (h:AHeap):Y7.t3 J Q x0 x15 x223 h=atJ prog C 230 J false [1,1,1,1,1,1,1,1,1,1,1,1,1,1,1,0,1,1] Y7.ann Y7.body [(0,x0),(15,x15),(223,(AV.b x223))] h (kFun prog Tryz.f22 Q):=by kernel_rfl
theorem Y7.i3 {Q:AV→AHeap→Prop} {x0:AV} {x15:AV} {x223:Bool} {h:AHeap} (H:Y7.t3 (Y7.J Q) Q x0 x15 x223 h):Y7.p3 Q x0 x15 x223 h:=Y7.goR (k:=4) (p:=[1,1,1,1,1,1,1,1,1,1,1,1,1,1,1,0,1,1]) (by kernel_rfl) ((Y7.t3_eq (Y7.J Q) Q x0 x15 x223 h).mp H)
def Y7.t0 (J:JT) (Q:AV→AHeap→Prop) (x0:AV) (x1:AV) (h:AHeap):Prop:=
pIdxAddrSl 5 x1 (AV.i .i64 1) h fun v86=>
pFieldAddr 3 v86 fun v87=>
pLoad1 v87 h fun v88=>
asS v88 fun l89=>
J 2 [(0,x0),(1,x1),(68,(AV.i .i64 (l89.length:Int))),(69,(AV.i .i64 0))] h
theorem Y7.t0_eq (J:JT) (Q:AV→AHeap→Prop) (x0:AV) (x1:AV) (h:AHeap):Y7.t0 J Q x0 x1 h=atJ prog C 230 J false [1,1,1,1] Y7.ann Y7.body [(0,x0),(1,x1)] h (kFun prog Tryz.f22 Q):=by kernel_rfl
theorem Y7.i0 {Q:AV→AHeap→Prop} {x0:AV} {x1:AV} {h:AHeap} (H:Y7.t0 (Y7.J Q) Q x0 x1 h):Y7.p0 Q x0 x1 h:=Y7.goR (k:=1) (p:=[1,1,1,1]) (by kernel_rfl) ((Y7.t0_eq (Y7.J Q) Q x0 x1 h).mp H)
def Y7.t (J:JT) (Q:AV→AHeap→Prop) (x0:AV) (x1:AV) (h:AHeap):Prop:=
pLoadN 3 (gvar h 2) h fun v0=>
pIdxAddrSl 5 x1 (AV.i .i64 0) h fun v1=>
pLoadN 5 v1 h fun v2=>
C Y28.id [v0,v2,(AV.i .i64 1)] h fun v3 h4=>
pIdxAddrSl 5 x1 (AV.i .i64 0) h4 fun v5=>
(v1=v5 ∧
(pExtract 0 v3 fun v6=>
pExtract 1 v3 fun v7=>
asB v7 fun c8=>
C Y24.id [x0,(AV.b c8)] h4 fun v10 h11=>
asB v10 fun c12=>
(bif (!c12) then
(Q (AV.tu []) h11)
else
(pIdxAddrSl 5 v6 (AV.i .i64 0) h11 fun v15=>
pLoadN 5 v15 h11 fun v16=>
C Y14.id [v16] h11 fun v17 h18=>
pExtract 0 v17 fun v19=>
asI .i64 v19 fun n20=>
pExtract 1 v17 fun v21=>
asB v21 fun c22=>
(bif c22 then
((bif (decide ((n20:Int)=2)) then
(pLoadN 3 (gvar h18 3) h18 fun v24=>
pIdxAddrSl 5 x1 (AV.i .i64 1) h18 fun v25=>
pLoadN 5 v25 h18 fun v26=>
C Y45.id [v24,v26] h18 fun v27 h28=>
asB v27 fun c29=>
pIdxAddrSl 5 x1 (AV.i .i64 1) h28 fun v30=>
(v25=v30 ∧
((bif c29 then
(pIdxAddrSl 5 x1 (AV.i .i64 1) h28 fun v31=>
pFieldAddr 3 v31 fun v32=>
pLoad1 v32 h28 fun v33=>
asS v33 fun l34=>
(bif (!(decide ((l34:List UInt8)=[]))) then
(pLoadN 3 (gvar h28 0) h28 fun v35=>
pIdxAddrSl 5 x1 (AV.i .i64 2) h28 fun v36=>
pLoadN 5 v36 h28 fun v37=>
C Y45.id [v35,v37] h28 fun v38 h39=>
asB v38 fun c40=>
pIdxAddrSl 5 x1 (AV.i .i64 2) h39 fun v41=>
(v36=v41 ∧
(pLoad1 v32 h39 fun v42=>
asS v42 fun l43=>
((AV.s l34)=(AV.s l43) ∧
(pIdxAddrSl 5 x1 (AV.i .i64 1) h39 fun v44=>
(v31=v44 ∧
(pLoadN 5 v25 h39 fun v45=>
(v26=v45 ∧
(pIdxAddrSl 5 x1 (AV.i .i64 1) h39 fun v46=>
(v25=v46 ∧
(pLoadN 3 (gvar h39 3) h39 fun v47=>
(v24=v47 ∧
(C Y24.id [x0,(AV.b c40)] h39 fun v48 h49=>
asB v48 fun c50=>
pLoadN 5 v36 h49 fun v51=>
(v37=v51 ∧
(pIdxAddrSl 5 x1 (AV.i .i64 2) h49 fun v52=>
(v36=v52 ∧
(pLoadN 3 (gvar h49 0) h49 fun v53=>
(v35=v53 ∧
(pLoad1 v32 h49 fun v54=>
asS v54 fun l55=>
((AV.s l34)=(AV.s l55) ∧
(pIdxAddrSl 5 x1 (AV.i .i64 1) h49 fun v56=>
(v31=v56 ∧
(pLoadN 5 v25 h49 fun v57=>
(v26=v57 ∧
(pIdxAddrSl 5 x1 (AV.i .i64 1) h49 fun v58=>
(v25=v58 ∧
(pLoadN 3 (gvar h49 3) h49 fun v59=>
(v24=v59 ∧
(J 1 [(0,x0),(1,x1)] h49)))))))))))))))))))))))))))))
else
(C Y24.id [x0,(AV.b false)] h28 fun v61 h62=>
asB v61 fun c63=>
((AV.tu [])=(AV.tu []) ∧
(((AV.tu [])=(AV.tu []) ∧
(((AV.tu [])=(AV.tu []) ∧
(pLoad1 v32 h62 fun v64=>
asS v64 fun l65=>
((AV.s l34)=(AV.s l65) ∧
(pIdxAddrSl 5 x1 (AV.i .i64 1) h62 fun v66=>
(v31=v66 ∧
(pLoadN 5 v25 h62 fun v67=>
(v26=v67 ∧
(pIdxAddrSl 5 x1 (AV.i .i64 1) h62 fun v68=>
(v25=v68 ∧
(pLoadN 3 (gvar h62 3) h62 fun v69=>
(v24=v69 ∧
(J 1 [(0,x0),(1,x1)] h62)))))))))))))))))))
else
(C Y24.id [x0,(AV.b false)] h28 fun v71 h72=>
asB v71 fun c73=>
((AV.tu [])=(AV.tu []) ∧
(((AV.tu [])=(AV.tu []) ∧
(((AV.tu [])=(AV.tu []) ∧
(((AV.tu [])=(AV.tu []) ∧
(((AV.tu [])=(AV.tu []) ∧
(pLoadN 5 v25 h72 fun v74=>
(v26=v74 ∧
(pIdxAddrSl 5 x1 (AV.i .i64 1) h72 fun v75=>
(v25=v75 ∧
(pLoadN 3 (gvar h72 3) h72 fun v76=>
(v24=v76 ∧
(J 1 [(0,x0),(1,x1)] h72)))))))))))))))))))))
else
(C Y24.id [x0,(AV.b false)] h18 fun v78 h79=>
asB v78 fun c80=>
((AV.tu [])=(AV.tu []) ∧
(((AV.tu [])=(AV.tu []) ∧
(((AV.tu [])=(AV.tu []) ∧
(((AV.tu [])=(AV.tu []) ∧
(((AV.tu [])=(AV.tu []) ∧
(((AV.tu [])=(AV.tu []) ∧
(((AV.tu [])=(AV.tu []) ∧
(((AV.tu [])=(AV.tu []) ∧
(J 1 [(0,x0),(1,x1)] h79)))))))))))))))))))
else
(C Y24.id [x0,(AV.b false)] h18 fun v82 h83=>
asB v82 fun c84=>
((AV.tu [])=(AV.tu []) ∧
(((AV.tu [])=(AV.tu []) ∧
(((AV.tu [])=(AV.tu []) ∧
(((AV.tu [])=(AV.tu []) ∧
(((AV.tu [])=(AV.tu []) ∧
(((AV.tu [])=(AV.tu []) ∧
(((AV.tu [])=(AV.tu []) ∧
(((AV.tu [])=(AV.tu []) ∧
(J 1 [(0,x0),(1,x1)] h83))))))))))))))))))))))
theorem Y7.t_eq (J:JT) (Q:AV→AHeap→Prop) (x0:AV) (x1:AV) (h:AHeap):Y7.t J Q x0 x1 h=exJ prog C 230 J Y7.ann Y7.body (initEnv 0 [x0,x1]) h (kFun prog Tryz.f22 Q):=by kernel_rfl
theorem Y7.call {K:AV→AHeap→Prop} {x0:AV} {x1:AV} {h:AHeap} (H:Y7.t (Y7.J (kRet h K)) (kRet h K) x0 x1 h):C Y7.id [x0,x1] h K:=
  callJ (P:=prog) (fn:=Tryz.f22) (ann:=Y7.ann) (body:=Y7.body) Tryz.func22 Y7.body_eq (by kernel_rfl) Y7.dist (by kernel_rfl) ((Y7.t_eq (Y7.J (kRet h K)) (kRet h K) x0 x1 h).mp H)
end Go.Proofs.YtcdkpkkdolmfdaaGreatDoor
namespace Go.Proofs.YtcdkpkkdolmfdaaGreatDoor
open Go.GAM
variable [XR]
noncomputable def Y12.body:Code:=(Tryz.f29.body).getD .skip
def Y12.ann:Ann:=(.seq 0 [1] .leaf (.seq 0 [1] (.seq 1 [1,25] .leaf (.br (.seq 0 [2] .leaf .leaf) .leaf)) (.seq 0 [1,4] .leaf (.seq 0 [1,4,6] .leaf (.seq 0 [1] (.seq 2 [1,43] .leaf (.br (.seq 0 [2] .leaf .leaf) .leaf)) (.seq 0 [1] (.seq 0 [1,45,46,47] .leaf (.one (.loop 3 [1,45,46,47] (.seq 0 [1,45,46,47,48] .leaf (.seq 0 [1,45,46,47] (.br .leaf .leaf) (.seq 0 [1,45,46,47] (.one (.seq 0 [1,8,45,46,47] .leaf (.seq 0 [1,45,46,47,54] .leaf (.br (.seq 0 [2] .leaf .leaf) .leaf)))) .leaf)))))) (.seq 0 [1] (.seq 0 [1,10] .leaf (.seq 0 [1,63] .leaf (.br (.seq 0 [2] .leaf .leaf) .leaf))) (.seq 0 [] (.seq 4 [73] .leaf (.br (.seq 0 [2] .leaf .leaf) .leaf)) (.seq 0 [2] .leaf .leaf)))))))))
theorem Y12.body_eq:Tryz.f29.body=some Y12.body:=by kernel_rfl
theorem Y12.dist:noTwice (places Y12.ann Y12.body)=true:=by kernel_rfl
noncomputable def Y12.J (Q:AV→AHeap→Prop):JT:=funJ prog C Tryz.f29 Y12.ann Y12.body Q
theorem Y12.goR {Q:AV→AHeap→Prop} {k:Nat} {p:List Nat} (hl:lookJ (places Y12.ann Y12.body) k=some (p,false)) {e:Env} {h:AHeap} (hk:atJ prog C 74 (Y12.J Q) false p Y12.ann Y12.body e h (kFun prog Tryz.f29 Q)):Y12.J Q k e h:=goJ_run (P:=prog) (fn:=Tryz.f29) (ann:=Y12.ann) (body:=Y12.body) (Q:=Q) (k:=k) (p:=p) (e:=e) (h:=h) (acall_le X) Y12.dist hl hk
theorem Y12.goH {Q:AV→AHeap→Prop} {k:Nat} {p:List Nat} (hl:lookJ (places Y12.ann Y12.body) k=some (p,true)) {e:Env} {h:AHeap} (hk:atJ prog C 74 (Y12.J Q) true p Y12.ann Y12.body e h (kFun prog Tryz.f29 Q)):Y12.J Q k e h:=goJ_head (P:=prog) (fn:=Tryz.f29) (ann:=Y12.ann) (body:=Y12.body) (Q:=Q) (k:=k) (p:=p) (e:=e) (h:=h) (acall_le X) Y12.dist hl hk
def Y12.p0 (Q:AV→AHeap→Prop) (x1:AV) (x25:Bool) (h:AHeap):Prop:=Y12.J Q 1 [(1,x1),(25,(AV.b x25))] h
theorem Y12.j0 (Q:AV→AHeap→Prop) (x1:AV) (x25:Bool) (h:AHeap):Y12.J Q 1 [(1,x1),(25,(AV.b x25))] h=Y12.p0 Q x1 x25 h:=rfl
def Y12.p1 (Q:AV→AHeap→Prop) (x1:AV) (x43:Bool) (h:AHeap):Prop:=Y12.J Q 2 [(1,x1),(43,(AV.b x43))] h
theorem Y12.j1 (Q:AV→AHeap→Prop) (x1:AV) (x43:Bool) (h:AHeap):Y12.J Q 2 [(1,x1),(43,(AV.b x43))] h=Y12.p1 Q x1 x43 h:=rfl
def Y12.p2 (Q:AV→AHeap→Prop) (x1:AV) (x45:AV) (x46:Int) (x47:Int) (h:AHeap):Prop:=Y12.J Q 3 [(1,x1),(45,x45),(46,(AV.i .i64 x46)),(47,(AV.i .i64 x47))] h
theorem Y12.j2 (Q:AV→AHeap→Prop) (x1:AV) (x45:AV) (x46:Int) (x47:Int) (h:AHeap):Y12.J Q 3 [(1,x1),(45,x45),(46,(AV.i .i64 x46)),(47,(AV.i .i64 x47))] h=Y12.p2 Q x1 x45 x46 x47 h:=rfl
def Y12.p3 (Q:AV→AHeap→Prop) (x73:Bool) (h:AHeap):Prop:=Y12.J Q 4 [(73,(AV.b x73))] h
theorem Y12.j3 (Q:AV→AHeap→Prop) (x73:Bool) (h:AHeap):Y12.J Q 4 [(73,(AV.b x73))] h=Y12.p3 Q x73 h:=rfl
def Y12.t0 (J:JT) (Q:AV→AHeap→Prop) (x1:AV) (x25:Bool) (h:AHeap):Prop:=
(bif x25 then
(Q (AV.i .i64 4) h)
else
(pFieldAddr 1 x1 fun v20=>
pLoad1 v20 h fun v21=>
asS v21 fun l22=>
C Y8.id [(AV.s l22)] h fun v23 h24=>
pExtract 0 v23 fun v25=>
pExtract 1 v23 fun v26=>
asI .i64 v26 fun n27=>
pAlloc (some 33) [(AV.i .i64 0),(AV.i .i64 0),(AV.b false),(AV.s []),(AV.sl none 0 none)] h24 fun v28 h29=>
pStore 5 v28 v25 h29 fun h30=>
pFieldAddr 2 x1 fun v32=>
pLoad1 v32 h30 fun v33=>
asS v33 fun l34=>
C Y8.id [(AV.s l34)] h30 fun v35 h36=>
pExtract 0 v35 fun v37=>
pExtract 1 v35 fun v38=>
asI .i64 v38 fun n39=>
pAlloc (some 33) [(AV.i .i64 0),(AV.i .i64 0),(AV.b false),(AV.s []),(AV.sl none 0 none)] h36 fun v40 h41=>
pStore 5 v40 v37 h41 fun h42=>
(bif (!decide ((n27:Int)=0)) then
(J 2 [(1,x1),(43,(AV.b true))] h42)
else
(J 2 [(1,x1),(43,(AV.b (!decide ((n39:Int)=0))))] h42))))
theorem Y12.t0_eq (J:JT) (Q:AV→AHeap→Prop) (x1:AV) (x25:Bool) (h:AHeap):Y12.t0 J Q x1 x25 h=atJ prog C 74 J false [1,0,1] Y12.ann Y12.body [(1,x1),(25,(AV.b x25))] h (kFun prog Tryz.f29 Q):=by kernel_rfl
theorem Y12.i0 {Q:AV→AHeap→Prop} {x1:AV} {x25:Bool} {h:AHeap} (H:Y12.t0 (Y12.J Q) Q x1 x25 h):Y12.p0 Q x1 x25 h:=Y12.goR (k:=1) (p:=[1,0,1]) (by kernel_rfl) ((Y12.t0_eq (Y12.J Q) Q x1 x25 h).mp H)
def Y12.t1 (J:JT) (Q:AV→AHeap→Prop) (x1:AV) (x43:Bool) (h:AHeap):Prop:=
(bif x43 then
(Q (AV.i .i64 5) h)
else
(pFieldAddr 5 x1 fun v48=>
pLoad1 v48 h fun v49=>
pLenSl v49 fun n50=>
J 3 [(1,x1),(45,v49),(46,(AV.i .i64 n50)),(47,(AV.i .i64 0))] h))
theorem Y12.t1_eq (J:JT) (Q:AV→AHeap→Prop) (x1:AV) (x43:Bool) (h:AHeap):Y12.t1 J Q x1 x43 h=atJ prog C 74 J false [1,1,1,1,0,1] Y12.ann Y12.body [(1,x1),(43,(AV.b x43))] h (kFun prog Tryz.f29 Q):=by kernel_rfl
theorem Y12.i1 {Q:AV→AHeap→Prop} {x1:AV} {x43:Bool} {h:AHeap} (H:Y12.t1 (Y12.J Q) Q x1 x43 h):Y12.p1 Q x1 x43 h:=Y12.goR (k:=2) (p:=[1,1,1,1,0,1]) (by kernel_rfl) ((Y12.t1_eq (Y12.J Q) Q x1 x43 h).mp H)
def Y12.t2 (J:JT) (Q:AV→AHeap→Prop) (x1:AV) (x45:AV) (x46:Int) (x47:Int) (h:AHeap):Prop:=
(bif (decide ((x47:Int)<x46)) then
(pIdxAddrSl 1 x45 (AV.i .i64 x47) h fun v55=>
pLoad1 v55 h fun v56=>
asS v56 fun l57=>
C Y17.id [(AV.s l57)] h fun v59 h60=>
asS v59 fun l61=>
(bif (!(decide ((l61:List UInt8)=l57))) then
(Q (AV.i .i64 5) h60)
else
(withI (IntKind.wrap .i64 (x47+1)) fun n65=>
J 3 [(1,x1),(45,x45),(46,(AV.i .i64 x46)),(47,(AV.i .i64 n65))] h60)))
else
(pFieldAddr 0 x1 fun v67=>
pLoad1 v67 h fun v68=>
asS v68 fun l69=>
C Y10.id [(AV.s l69)] h fun v70 h71=>
pExtract 0 v70 fun v72=>
asS v72 fun l73=>
pExtract 1 v70 fun v74=>
asB v74 fun c75=>
(bif (!c75) then
(Q (AV.i .i64 2) h71)
else
(pFieldAddr 5 x1 fun v80=>
pLoad1 v80 h71 fun v81=>
pLenSl v81 fun n82=>
(bif (decide ((16:Int)<n82)) then
(J 4 [(73,(AV.b true))] h71)
else
(pFieldAddr 7 x1 fun v84=>
pLoad1 v84 h71 fun v85=>
asS v85 fun l86=>
J 4 [(73,(AV.b (decide ((1024:Int)<(l86.length:Int)))))] h71))))))
theorem Y12.t2_eq (J:JT) (Q:AV→AHeap→Prop) (x1:AV) (x45:AV) (x46:Int) (x47:Int) (h:AHeap):Y12.t2 J Q x1 x45 x46 x47 h=atJ prog C 74 J true [1,1,1,1,1,0,1,0] Y12.ann Y12.body [(1,x1),(45,x45),(46,(AV.i .i64 x46)),(47,(AV.i .i64 x47))] h (kFun prog Tryz.f29 Q):=by kernel_rfl
theorem Y12.i2 {Q:AV→AHeap→Prop} {x1:AV} {x45:AV} {x46:Int} {x47:Int} {h:AHeap} (H:Y12.t2 (Y12.J Q) Q x1 x45 x46 x47 h):Y12.p2 Q x1 x45 x46 x47 h:=Y12.goH (k:=3) (p:=[1,1,1,1,1,0,1,0]) (by kernel_rfl) ((Y12.t2_eq (Y12.J Q) Q x1 x45 x46 x47 h).mp H)
def Y12.t3 (J:JT) (Q:AV→AHeap→Prop) (x73:Bool) (h:AHeap):Prop:=
(bif x73 then
(Q (AV.i .i64 3) h)
else
(Q (AV.i .i64 0) h))
theorem Y12.t3_eq (J:JT) (Q:AV→AHeap→Prop) (x73:Bool) (h:AHeap):Y12.t3 J Q x73 h=atJ prog C 74 J false [1,1,1,1,1,1,1,0,1] Y12.ann Y12.body [(73,(AV.b x73))] h (kFun prog Tryz.f29 Q):=by kernel_rfl
theorem Y12.i3 {Q:AV→AHeap→Prop} {x73:Bool} {h:AHeap} (H:Y12.t3 (Y12.J Q) Q x73 h):Y12.p3 Q x73 h:=Y12.goR (k:=4) (p:=[1,1,1,1,1,1,1,0,1]) (by kernel_rfl) ((Y12.t3_eq (Y12.J Q) Q x73 h).mp H)
def Y12.t (J:JT) (Q:AV→AHeap→Prop) (x0:AV) (h:AHeap):Prop:=
pBox (some 25) x0 h fun v0 h1=>
pFieldAddr 3 v0 fun v3=>
pLoad1 v3 h1 fun v4=>
asI .i64 v4 fun n5=>
(bif (decide ((n5:Int)<0)) then
(J 1 [(1,v0),(25,(AV.b true))] h1)
else
(pFieldAddr 4 v0 fun v7=>
pLoad1 v7 h1 fun v8=>
asI .i64 v8 fun n9=>
(bif (decide ((253402300799:Int)<n9)) then
(J 1 [(1,v0),(25,(AV.b true))] h1)
else
(pFieldAddr 3 v0 fun v11=>
pLoad1 v11 h1 fun v12=>
asI .i64 v12 fun n13=>
pFieldAddr 4 v0 fun v14=>
pLoad1 v14 h1 fun v15=>
asI .i64 v15 fun n16=>
J 1 [(1,v0),(25,(AV.b (decide ((n16:Int)<n13))))] h1))))
theorem Y12.t_eq (J:JT) (Q:AV→AHeap→Prop) (x0:AV) (h:AHeap):Y12.t J Q x0 h=exJ prog C 74 J Y12.ann Y12.body (initEnv 0 [x0]) h (kFun prog Tryz.f29 Q):=by kernel_rfl
theorem Y12.call {K:AV→AHeap→Prop} {x0:AV} {h:AHeap} (H:Y12.t (Y12.J (kRet h K)) (kRet h K) x0 h):C Y12.id [x0] h K:=
  callJ (P:=prog) (fn:=Tryz.f29) (ann:=Y12.ann) (body:=Y12.body) Tryz.func29 Y12.body_eq (by kernel_rfl) Y12.dist (by kernel_rfl) ((Y12.t_eq (Y12.J (kRet h K)) (kRet h K) x0 h).mp H)
noncomputable def Y3.body:Code:=(Tryz.f30.body).getD .skip
def Y3.ann:Ann:=(.seq 0 [0,2] .leaf (.seq 0 [0,2] (.seq 0 [0,2,15] .leaf (.br (.seq 0 [2,3] .leaf .leaf) .leaf)) (.seq 0 [0,2,4] .leaf (.seq 0 [2,4] (.seq 0 [2,4,18,19,20] .leaf (.one (.loop 1 [2,4,18,19,20] (.seq 0 [2,4,18,19,20,21] .leaf (.seq 0 [2,4,18,19,20] (.br .leaf .leaf) (.seq 0 [2,4,18,19,20] (.one (.seq 0 [2,4,6,18,19,20] .leaf (.seq 0 [2,4,7,8,18,19,20] .leaf (.seq 0 [2,4,7,18,19,20] (.seq 0 [2,4,7,18,19,20,30] .leaf (.br (.seq 0 [2,3] .leaf .leaf) .leaf)) .leaf)))) .leaf)))))) (.seq 0 [2,4] (.seq 2 [2,4,68] (.ord (.neu 0 (.neu 1 (.neu 2 (.neu 3 (.neu 4 (.neu 5 (.neu 6 (.neu 7 (.neu 8 (.neu 9 (.neu 10 (.neu 11 (.neu 12 (.neu 13 (.neu 14 (.neu 15 (.neu 16 (.neu 17 (.neu 18 (.neu 19 (.neu 20 (.neu 21 (.neu 22 (.neu 23 (.neu 24 (.neu 25 (.neu 26 (.neu 27 (.neu 28 (.neu 29 (.neu 30 (.neu 31 .done))))))))))))))))))))))))))))))))) (.br (.seq 0 [2,3] .leaf .leaf) .leaf)) (.seq 0 [2,4,9] .leaf (.seq 0 [2,9] (.seq 0 [2,9,81,82,83] (.ord (.neu 0 (.neu 1 (.neu 2 (.neu 3 (.neu 4 (.neu 5 (.neu 6 (.neu 7 (.neu 9 (.neu 10 (.neu 13 (.eff 8 (.eff 11 (.neu 12 .done) .stop) .stop))))))))))))) (.one (.loop 3 [2,9,81,82,83] (.seq 0 [2,9,81,82,83,84] .leaf (.seq 0 [2,9,81,82,83] (.br .leaf .leaf) (.seq 0 [2,9,81,82,83] (.one (.seq 0 [2,9,11,81,82,83] .leaf (.seq 0 [2,9,11,12,81,82,83] .leaf (.seq 0 [2,9,11,12,81,82,83] (.one (.loop 4 [2,9,11,12,81,82,83] (.seq 0 [2,9,11,12,81,82,83] (.seq 0 [2,9,11,12,81,82,83,92] .leaf (.br .leaf .leaf)) (.one .leaf)))) (.seq 0 [2,9,11,81,82,83] (.one (.loop 5 [2,9,11,12,81,82,83] (.seq 0 [2,9,11,12,81,82,83] (.seq 0 [2,9,11,12,81,82,83,96] .leaf (.br .leaf .leaf)) (.seq 0 [2,9,11,12,81,82,83] (.one .leaf) .leaf)))) .leaf))))) .leaf)))))) (.seq 0 [2,3] .leaf .leaf))))))))
theorem Y3.body_eq:Tryz.f30.body=some Y3.body:=by kernel_rfl
theorem Y3.dist:noTwice (places Y3.ann Y3.body)=true:=by kernel_rfl
noncomputable def Y3.J (Q:AV→AHeap→Prop):JT:=funJ prog C Tryz.f30 Y3.ann Y3.body Q
theorem Y3.goR {Q:AV→AHeap→Prop} {k:Nat} {p:List Nat} (hl:lookJ (places Y3.ann Y3.body) k=some (p,false)) {e:Env} {h:AHeap} (hk:atJ prog C 119 (Y3.J Q) false p Y3.ann Y3.body e h (kFun prog Tryz.f30 Q)):Y3.J Q k e h:=goJ_run (P:=prog) (fn:=Tryz.f30) (ann:=Y3.ann) (body:=Y3.body) (Q:=Q) (k:=k) (p:=p) (e:=e) (h:=h) (acall_le X) Y3.dist hl hk
theorem Y3.goH {Q:AV→AHeap→Prop} {k:Nat} {p:List Nat} (hl:lookJ (places Y3.ann Y3.body) k=some (p,true)) {e:Env} {h:AHeap} (hk:atJ prog C 119 (Y3.J Q) true p Y3.ann Y3.body e h (kFun prog Tryz.f30 Q)):Y3.J Q k e h:=goJ_head (P:=prog) (fn:=Tryz.f30) (ann:=Y3.ann) (body:=Y3.body) (Q:=Q) (k:=k) (p:=p) (e:=e) (h:=h) (acall_le X) Y3.dist hl hk
def Y3.p0 (Q:AV→AHeap→Prop) (x2:AV) (x4:AV) (x18:AV) (x19:Int) (x20:Int) (h:AHeap):Prop:=Y3.J Q 1 [(2,x2),(4,x4),(18,x18),(19,(AV.i .i64 x19)),(20,(AV.i .i64 x20))] h
theorem Y3.j0 (Q:AV→AHeap→Prop) (x2:AV) (x4:AV) (x18:AV) (x19:Int) (x20:Int) (h:AHeap):Y3.J Q 1 [(2,x2),(4,x4),(18,x18),(19,(AV.i .i64 x19)),(20,(AV.i .i64 x20))] h=Y3.p0 Q x2 x4 x18 x19 x20 h:=rfl
def Y3.p1 (Q:AV→AHeap→Prop) (x2:AV) (x4:AV) (x68:Bool) (h:AHeap):Prop:=Y3.J Q 2 [(2,x2),(4,x4),(68,(AV.b x68))] h
theorem Y3.j1 (Q:AV→AHeap→Prop) (x2:AV) (x4:AV) (x68:Bool) (h:AHeap):Y3.J Q 2 [(2,x2),(4,x4),(68,(AV.b x68))] h=Y3.p1 Q x2 x4 x68 h:=rfl
def Y3.p3 (Q:AV→AHeap→Prop) (x2:AV) (x9:AV) (x11:Int) (x12:Int) (x81:AV) (x82:Int) (x83:Int) (h:AHeap):Prop:=Y3.J Q 4 [(2,x2),(9,x9),(11,(AV.i .i64 x11)),(12,(AV.i .i64 x12)),(81,x81),(82,(AV.i .i64 x82)),(83,(AV.i .i64 x83))] h
theorem Y3.j3 (Q:AV→AHeap→Prop) (x2:AV) (x9:AV) (x11:Int) (x12:Int) (x81:AV) (x82:Int) (x83:Int) (h:AHeap):Y3.J Q 4 [(2,x2),(9,x9),(11,(AV.i .i64 x11)),(12,(AV.i .i64 x12)),(81,x81),(82,(AV.i .i64 x82)),(83,(AV.i .i64 x83))] h=Y3.p3 Q x2 x9 x11 x12 x81 x82 x83 h:=rfl
def Y3.p4 (Q:AV→AHeap→Prop) (x2:AV) (x9:AV) (x11:Int) (x12:Int) (x81:AV) (x82:Int) (x83:Int) (h:AHeap):Prop:=Y3.J Q 5 [(2,x2),(9,x9),(11,(AV.i .i64 x11)),(12,(AV.i .i64 x12)),(81,x81),(82,(AV.i .i64 x82)),(83,(AV.i .i64 x83))] h
theorem Y3.j4 (Q:AV→AHeap→Prop) (x2:AV) (x9:AV) (x11:Int) (x12:Int) (x81:AV) (x82:Int) (x83:Int) (h:AHeap):Y3.J Q 5 [(2,x2),(9,x9),(11,(AV.i .i64 x11)),(12,(AV.i .i64 x12)),(81,x81),(82,(AV.i .i64 x82)),(83,(AV.i .i64 x83))] h=Y3.p4 Q x2 x9 x11 x12 x81 x82 x83 h:=rfl
def Y3.p2 (Q:AV→AHeap→Prop) (x2:AV) (x9:AV) (x81:AV) (x82:Int) (x83:Int) (h:AHeap):Prop:=Y3.J Q 3 [(2,x2),(9,x9),(81,x81),(82,(AV.i .i64 x82)),(83,(AV.i .i64 x83))] h
theorem Y3.j2 (Q:AV→AHeap→Prop) (x2:AV) (x9:AV) (x81:AV) (x82:Int) (x83:Int) (h:AHeap):Y3.J Q 3 [(2,x2),(9,x9),(81,x81),(82,(AV.i .i64 x82)),(83,(AV.i .i64 x83))] h=Y3.p2 Q x2 x9 x81 x82 x83 h:=rfl
def Y3.t0 (J:JT) (Q:AV→AHeap→Prop) (x2:AV) (x4:AV) (x18:AV) (x19:Int) (x20:Int) (h:AHeap):Prop:=
(bif (decide ((x20:Int)<x19)) then
(pIdxAddrSl 1 x18 (AV.i .i64 x20) h fun v16=>
pLoad1 v16 h fun v17=>
asS v17 fun l18=>
C Y16.id [(AV.s l18)] h fun v20 h21=>
pExtract 0 v20 fun v22=>
asI .i64 v22 fun n23=>
pExtract 1 v20 fun v24=>
asB v24 fun c25=>
(bif (!c25) then
(pStore 5 x2 (AV.ag [(AV.i .i64 0),(AV.i .i64 0),(AV.b false),(AV.s []),(AV.sl none 0 none)]) h21 fun h28=>
pLoadN 5 x2 h28 fun v30=>
Q (AV.tu [v30,(AV.i .i64 2)]) h28)
else
(pBuildSl 1 1 [(AV.i .i64 0)] [(0,1,(AV.i .i64 n23))] h21 fun v32 h33=>
pAppend none 1 8 x4 v32 h33 fun v34 h35=>
withI (IntKind.wrap .i64 (x20+1)) fun n37=>
J 1 [(2,x2),(4,v34),(18,x18),(19,(AV.i .i64 x19)),(20,(AV.i .i64 n37))] h35)))
else
(pLenSl x4 fun n39=>
(bif (decide ((n39:Int)<2)) then
(J 2 [(2,x2),(4,x4),(68,(AV.b true))] h)
else
(pIdxAddrSl 1 x4 (AV.i .i64 0) h fun v41=>
pLoad1 v41 h fun v42=>
asI .i64 v42 fun n43=>
(bif (decide ((2:Int)<n43)) then
(J 2 [(2,x2),(4,x4),(68,(AV.b true))] h)
else
(pIdxAddrSl 1 x4 (AV.i .i64 0) h fun v45=>
pLoad1 v45 h fun v46=>
asI .i64 v46 fun n47=>
(bif (decide ((n47:Int)<2)) then
(pIdxAddrSl 1 x4 (AV.i .i64 1) h fun v48=>
pLoad1 v48 h fun v49=>
asI .i64 v49 fun n50=>
(bif (decide ((40:Int)≤n50)) then
(J 2 [(2,x2),(4,x4),(68,(AV.b true))] h)
else
(pIdxAddrSl 1 x4 (AV.i .i64 0) h fun v52=>
pLoad1 v52 h fun v53=>
asI .i64 v53 fun n54=>
withI (IntKind.wrap .i64 (40 * n54)) fun n55=>
pIdxAddrSl 1 x4 (AV.i .i64 1) h fun v56=>
pLoad1 v56 h fun v57=>
asI .i64 v57 fun n58=>
withI (IntKind.wrap .i64 (n55+n58)) fun n59=>
J 2 [(2,x2),(4,x4),(68,(AV.b (decide ((268435456:Int)≤n59))))] h)))
else
(pIdxAddrSl 1 x4 (AV.i .i64 0) h fun v61=>
pLoad1 v61 h fun v62=>
asI .i64 v62 fun n63=>
withI (IntKind.wrap .i64 (40 * n63)) fun n64=>
pIdxAddrSl 1 x4 (AV.i .i64 1) h fun v65=>
pLoad1 v65 h fun v66=>
asI .i64 v66 fun n67=>
withI (IntKind.wrap .i64 (n64+n67)) fun n68=>
J 2 [(2,x2),(4,x4),(68,(AV.b (decide ((268435456:Int)≤n68))))] h))))))))
theorem Y3.t0_eq (J:JT) (Q:AV→AHeap→Prop) (x2:AV) (x4:AV) (x18:AV) (x19:Int) (x20:Int) (h:AHeap):Y3.t0 J Q x2 x4 x18 x19 x20 h=atJ prog C 119 J true [1,1,1,0,1,0] Y3.ann Y3.body [(2,x2),(4,x4),(18,x18),(19,(AV.i .i64 x19)),(20,(AV.i .i64 x20))] h (kFun prog Tryz.f30 Q):=by kernel_rfl
theorem Y3.i0 {Q:AV→AHeap→Prop} {x2:AV} {x4:AV} {x18:AV} {x19:Int} {x20:Int} {h:AHeap} (H:Y3.t0 (Y3.J Q) Q x2 x4 x18 x19 x20 h):Y3.p0 Q x2 x4 x18 x19 x20 h:=Y3.goH (k:=1) (p:=[1,1,1,0,1,0]) (by kernel_rfl) ((Y3.t0_eq (Y3.J Q) Q x2 x4 x18 x19 x20 h).mp H)
def Y3.t1 (J:JT) (Q:AV→AHeap→Prop) (x2:AV) (x4:AV) (x68:Bool) (h:AHeap):Prop:=
(bif x68 then
(pStore 5 x2 (AV.ag [(AV.i .i64 0),(AV.i .i64 0),(AV.b false),(AV.s []),(AV.sl none 0 none)]) h fun h70=>
pLoadN 5 x2 h70 fun v72=>
Q (AV.tu [v72,(AV.i .i64 2)]) h70)
else
(pIdxAddrSl 1 x4 (AV.i .i64 0) h fun v75=>
pLoad1 v75 h fun v76=>
asI .i64 v76 fun n77=>
withI (IntKind.wrap .i64 (40 * n77)) fun n78=>
pIdxAddrSl 1 x4 (AV.i .i64 1) h fun v79=>
pLoad1 v79 h fun v80=>
asI .i64 v80 fun n81=>
withI (IntKind.wrap .i64 (n78+n81)) fun n82=>
pSliceSl 1 x4 (some (AV.i .i64 2)) none none h fun v83=>
pBuildSl 1 1 [(AV.i .i64 0)] [(0,1,(AV.i .i64 n82))] h fun v84 h85=>
pSliceSl 1 x4 (some (AV.i .i64 2)) none none h85 fun v86=>
(v83=v86 ∧
(pLoad1 v79 h85 fun v87=>
asI .i64 v87 fun n88=>
((AV.i .i64 n81)=(AV.i .i64 n88) ∧
(pIdxAddrSl 1 x4 (AV.i .i64 1) h85 fun v89=>
(v79=v89 ∧
(pLoad1 v75 h85 fun v90=>
asI .i64 v90 fun n91=>
((AV.i .i64 n77)=(AV.i .i64 n91) ∧
(pIdxAddrSl 1 x4 (AV.i .i64 0) h85 fun v92=>
(v75=v92 ∧
(pAppend none 1 8 v84 v83 h85 fun v93 h94=>
pLoad1 v79 h94 fun v95=>
asI .i64 v95 fun n96=>
((AV.i .i64 n81)=(AV.i .i64 n96) ∧
(pIdxAddrSl 1 x4 (AV.i .i64 1) h94 fun v97=>
(v79=v97 ∧
(pLoad1 v75 h94 fun v98=>
asI .i64 v98 fun n99=>
((AV.i .i64 n77)=(AV.i .i64 n99) ∧
(pIdxAddrSl 1 x4 (AV.i .i64 0) h94 fun v100=>
(v75=v100 ∧
(pLenSl v93 fun n101=>
J 3 [(2,x2),(9,(AV.sl none 0 none)),(81,v93),(82,(AV.i .i64 n101)),(83,(AV.i .i64 0))] h94))))))))))))))))))))
theorem Y3.t1_eq (J:JT) (Q:AV→AHeap→Prop) (x2:AV) (x4:AV) (x68:Bool) (h:AHeap):Y3.t1 J Q x2 x4 x68 h=atJ prog C 119 J false [1,1,1,1,0,1] Y3.ann Y3.body [(2,x2),(4,x4),(68,(AV.b x68))] h (kFun prog Tryz.f30 Q):=by kernel_rfl
theorem Y3.i1 {Q:AV→AHeap→Prop} {x2:AV} {x4:AV} {x68:Bool} {h:AHeap} (H:Y3.t1 (Y3.J Q) Q x2 x4 x68 h):Y3.p1 Q x2 x4 x68 h:=Y3.goR (k:=2) (p:=[1,1,1,1,0,1]) (by kernel_rfl) ((Y3.t1_eq (Y3.J Q) Q x2 x4 x68 h).mp H)
def Y3.t3 (J:JT) (Q:AV→AHeap→Prop) (x2:AV) (x9:AV) (x11:Int) (x12:Int) (x81:AV) (x82:Int) (x83:Int) (h:AHeap):Prop:=
withI (IntKind.wrap .i64 (x12+1)) fun n111=>
withI (IntKind.wrap .i64 (7 * n111)) fun n112=>
pShr .i64 x11 n112 fun n113=>
(bif (decide ((0:Int)<n113)) then
(withI (IntKind.wrap .i64 (x12+1)) fun n117=>
J 4 [(2,x2),(9,x9),(11,(AV.i .i64 x11)),(12,(AV.i .i64 n117)),(81,x81),(82,(AV.i .i64 x82)),(83,(AV.i .i64 x83))] h)
else
(J 5 [(2,x2),(9,x9),(11,(AV.i .i64 x11)),(12,(AV.i .i64 x12)),(81,x81),(82,(AV.i .i64 x82)),(83,(AV.i .i64 x83))] h))
theorem Y3.t3_eq (J:JT) (Q:AV→AHeap→Prop) (x2:AV) (x9:AV) (x11:Int) (x12:Int) (x81:AV) (x82:Int) (x83:Int) (h:AHeap):Y3.t3 J Q x2 x9 x11 x12 x81 x82 x83 h=atJ prog C 119 J true [1,1,1,1,1,1,0,1,0,0,1,1,0,0,1,1,0,0] Y3.ann Y3.body [(2,x2),(9,x9),(11,(AV.i .i64 x11)),(12,(AV.i .i64 x12)),(81,x81),(82,(AV.i .i64 x82)),(83,(AV.i .i64 x83))] h (kFun prog Tryz.f30 Q):=by kernel_rfl
theorem Y3.i3 {Q:AV→AHeap→Prop} {x2:AV} {x9:AV} {x11:Int} {x12:Int} {x81:AV} {x82:Int} {x83:Int} {h:AHeap} (H:Y3.t3 (Y3.J Q) Q x2 x9 x11 x12 x81 x82 x83 h):Y3.p3 Q x2 x9 x11 x12 x81 x82 x83 h:=Y3.goH (k:=4) (p:=[1,1,1,1,1,1,0,1,0,0,1,1,0,0,1,1,0,0]) (by kernel_rfl) ((Y3.t3_eq (Y3.J Q) Q x2 x9 x11 x12 x81 x82 x83 h).mp H)
def Y3.t4 (J:JT) (Q:AV→AHeap→Prop) (x2:AV) (x9:AV) (x11:Int) (x12:Int) (x81:AV) (x82:Int) (x83:Int) (h:AHeap):Prop:=
(bif (decide ((0:Int)<x12)) then
(withI (IntKind.wrap .i64 (7 * x12)) fun n122=>
pShr .i64 x11 n122 fun n123=>
withI (bitsOp .and .i64 n123 127) fun n124=>
withI (bitsOp .or .i64 n124 128) fun n125=>
pBuildSl 1 1 [(AV.i .u8 0)] [(0,1,(AV.i .u8 (IntKind.wrap .u8 n125)))] h fun v126 h127=>
pAppend (some 5) 1 1 x9 v126 h127 fun v128 h129=>
withI (IntKind.wrap .i64 (x12 - 1)) fun n131=>
J 5 [(2,x2),(9,v128),(11,(AV.i .i64 x11)),(12,(AV.i .i64 n131)),(81,x81),(82,(AV.i .i64 x82)),(83,(AV.i .i64 x83))] h129)
else
(withI (bitsOp .and .i64 x11 127) fun n133=>
pBuildSl 1 1 [(AV.i .u8 0)] [(0,1,(AV.i .u8 (IntKind.wrap .u8 n133)))] h fun v134 h135=>
pAppend (some 5) 1 1 x9 v134 h135 fun v136 h137=>
withI (IntKind.wrap .i64 (x83+1)) fun n139=>
J 3 [(2,x2),(9,v136),(81,x81),(82,(AV.i .i64 x82)),(83,(AV.i .i64 n139))] h137))
theorem Y3.t4_eq (J:JT) (Q:AV→AHeap→Prop) (x2:AV) (x9:AV) (x11:Int) (x12:Int) (x81:AV) (x82:Int) (x83:Int) (h:AHeap):Y3.t4 J Q x2 x9 x11 x12 x81 x82 x83 h=atJ prog C 119 J true [1,1,1,1,1,1,0,1,0,0,1,1,0,0,1,1,1,0,0] Y3.ann Y3.body [(2,x2),(9,x9),(11,(AV.i .i64 x11)),(12,(AV.i .i64 x12)),(81,x81),(82,(AV.i .i64 x82)),(83,(AV.i .i64 x83))] h (kFun prog Tryz.f30 Q):=by kernel_rfl
theorem Y3.i4 {Q:AV→AHeap→Prop} {x2:AV} {x9:AV} {x11:Int} {x12:Int} {x81:AV} {x82:Int} {x83:Int} {h:AHeap} (H:Y3.t4 (Y3.J Q) Q x2 x9 x11 x12 x81 x82 x83 h):Y3.p4 Q x2 x9 x11 x12 x81 x82 x83 h:=Y3.goH (k:=5) (p:=[1,1,1,1,1,1,0,1,0,0,1,1,0,0,1,1,1,0,0]) (by kernel_rfl) ((Y3.t4_eq (Y3.J Q) Q x2 x9 x11 x12 x81 x82 x83 h).mp H)
def Y3.t2 (J:JT) (Q:AV→AHeap→Prop) (x2:AV) (x9:AV) (x81:AV) (x82:Int) (x83:Int) (h:AHeap):Prop:=
(bif (decide ((x83:Int)<x82)) then
(pIdxAddrSl 1 x81 (AV.i .i64 x83) h fun v106=>
pLoad1 v106 h fun v107=>
asI .i64 v107 fun n108=>
J 4 [(2,x2),(9,x9),(11,(AV.i .i64 n108)),(12,(AV.i .i64 0)),(81,x81),(82,(AV.i .i64 x82)),(83,(AV.i .i64 x83))] h)
else
(pBytesStr x9 h fun l141=>
pStore 5 x2 (AV.ag [(AV.i .i64 0),(AV.i .i64 6),(AV.b false),(AV.s l141),(AV.sl none 0 none)]) h fun h142=>
pLoadN 5 x2 h142 fun v144=>
Q (AV.tu [v144,(AV.i .i64 0)]) h142))
theorem Y3.t2_eq (J:JT) (Q:AV→AHeap→Prop) (x2:AV) (x9:AV) (x81:AV) (x82:Int) (x83:Int) (h:AHeap):Y3.t2 J Q x2 x9 x81 x82 x83 h=atJ prog C 119 J true [1,1,1,1,1,1,0,1,0] Y3.ann Y3.body [(2,x2),(9,x9),(81,x81),(82,(AV.i .i64 x82)),(83,(AV.i .i64 x83))] h (kFun prog Tryz.f30 Q):=by kernel_rfl
theorem Y3.i2 {Q:AV→AHeap→Prop} {x2:AV} {x9:AV} {x81:AV} {x82:Int} {x83:Int} {h:AHeap} (H:Y3.t2 (Y3.J Q) Q x2 x9 x81 x82 x83 h):Y3.p2 Q x2 x9 x81 x82 x83 h:=Y3.goH (k:=3) (p:=[1,1,1,1,1,1,0,1,0]) (by kernel_rfl) ((Y3.t2_eq (Y3.J Q) Q x2 x9 x81 x82 x83 h).mp H)
def Y3.t (J:JT) (Q:AV→AHeap→Prop) (x0:List UInt8) (h:AHeap):Prop:=
pAlloc (some 33) [(AV.i .i64 0),(AV.i .i64 0),(AV.b false),(AV.s []),(AV.sl none 0 none)] h fun v0 h1=>
(bif (decide ((256:Int)<(x0.length:Int))) then
(pStore 5 v0 (AV.ag [(AV.i .i64 0),(AV.i .i64 0),(AV.b false),(AV.s []),(AV.sl none 0 none)]) h1 fun h4=>
pLoadN 5 v0 h4 fun v6=>
Q (AV.tu [v6,(AV.i .i64 3)]) h4)
else
(C Y66.id [(AV.s x0),(AV.s [46])] h1 fun v9 h10=>
pLenSl v9 fun n11=>
J 1 [(2,v0),(4,(AV.sl none 0 none)),(18,v9),(19,(AV.i .i64 n11)),(20,(AV.i .i64 0))] h10))
theorem Y3.t_eq (J:JT) (Q:AV→AHeap→Prop) (x0:List UInt8) (h:AHeap):Y3.t J Q x0 h=exJ prog C 119 J Y3.ann Y3.body (initEnv 0 [(AV.s x0)]) h (kFun prog Tryz.f30 Q):=by kernel_rfl
theorem Y3.call {K:AV→AHeap→Prop} {x0:List UInt8} {h:AHeap} (H:Y3.t (Y3.J (kRet h K)) (kRet h K) x0 h):C Y3.id [(AV.s x0)] h K:=
  callJ (P:=prog) (fn:=Tryz.f30) (ann:=Y3.ann) (body:=Y3.body) Tryz.func30 Y3.body_eq (by kernel_rfl) Y3.dist (by kernel_rfl) ((Y3.t_eq (Y3.J (kRet h K)) (kRet h K) x0 h).mp H)
noncomputable def Y44.body:Code:=(Tryz.f31.body).getD .skip
def Y44.ann:Ann:=(.seq 0 [1,2,4] .leaf (.seq 0 [4] .leaf .leaf))
theorem Y44.body_eq:Tryz.f31.body=some Y44.body:=by kernel_rfl
theorem Y44.dist:noTwice (places Y44.ann Y44.body)=true:=by kernel_rfl
noncomputable def Y44.J (Q:AV→AHeap→Prop):JT:=funJ prog C Tryz.f31 Y44.ann Y44.body Q
def Y44.t (J:JT) (Q:AV→AHeap→Prop) (x0:AV) (x1:AV) (h:AHeap):Prop:=
pBox (some 46) x0 h fun v0 h1=>
pAlloc (some 33) [(AV.i .i64 0),(AV.i .i64 0),(AV.b false),(AV.s []),(AV.sl none 0 none)] h1 fun v2 h3=>
pFieldAddr 0 v0 fun v5=>
pLoad1 v5 h3 fun v6=>
asI .i64 v6 fun n7=>
pFieldAddr 1 v0 fun v8=>
pLoad1 v8 h3 fun v9=>
asI .i64 v9 fun n10=>
pBuild [(AV.i .i64 0),(AV.i .i64 0),(AV.b false),(AV.s []),(AV.sl none 0 none)] [(0,1,(AV.i .i64 n7)),(1,1,(AV.i .i64 n10)),(2,1,(AV.b true)),(4,1,x1)] fun v11=>
pStore 5 v2 v11 h3 fun h12=>
pLoadN 5 v2 h12 fun v14=>
Q v14 h12
theorem Y44.t_eq (J:JT) (Q:AV→AHeap→Prop) (x0:AV) (x1:AV) (h:AHeap):Y44.t J Q x0 x1 h=exJ prog C 11 J Y44.ann Y44.body (initEnv 0 [x0,x1]) h (kFun prog Tryz.f31 Q):=by kernel_rfl
theorem Y44.call {K:AV→AHeap→Prop} {x0:AV} {x1:AV} {h:AHeap} (H:Y44.t (Y44.J (kRet h K)) (kRet h K) x0 x1 h):C Y44.id [x0,x1] h K:=
  callJ (P:=prog) (fn:=Tryz.f31) (ann:=Y44.ann) (body:=Y44.body) Tryz.func31 Y44.body_eq (by kernel_rfl) Y44.dist (by kernel_rfl) ((Y44.t_eq (Y44.J (kRet h K)) (kRet h K) x0 x1 h).mp H)
noncomputable def Y10.body:Code:=(Tryz.f32.body).getD .skip
def Y10.ann:Ann:=(.seq 0 [0] .leaf (.seq 0 [0] (.seq 1 [0,20] .leaf (.br (.seq 0 [2,3] .leaf .leaf) .leaf)) (.seq 0 [0,4] .leaf (.seq 0 [4] (.seq 0 [0,4,5] .leaf (.one (.loop 2 [0,4,5] (.seq 0 [0,4,5] (.seq 0 [0,4,5,24] .leaf (.br .leaf .leaf)) (.seq 0 [0,4,5] (.one (.seq 0 [0,4,5,6,7] (.ord (.neu 0 (.neu 1 (.neu 2 (.neu 4 (.neu 5 (.neu 6 (.neu 7 (.eff 3 (.eff 8 (.neu 9 (.neu 10 .done)) .stop) .stop))))))))) (.seq 0 [0,4,5,6,7] (.seq 3 [0,4,5,6,7,41] .leaf (.br (.seq 0 [2,3] .leaf .leaf) .leaf)) .leaf))) .leaf))))) (.seq 0 [4] (.seq 4 [4,76] .leaf (.br (.seq 0 [2,3] .leaf .leaf) .leaf)) (.seq 0 [2,3] .leaf .leaf))))))
theorem Y10.body_eq:Tryz.f32.body=some Y10.body:=by kernel_rfl
theorem Y10.dist:noTwice (places Y10.ann Y10.body)=true:=by kernel_rfl
noncomputable def Y10.J (Q:AV→AHeap→Prop):JT:=funJ prog C Tryz.f32 Y10.ann Y10.body Q
theorem Y10.goR {Q:AV→AHeap→Prop} {k:Nat} {p:List Nat} (hl:lookJ (places Y10.ann Y10.body) k=some (p,false)) {e:Env} {h:AHeap} (hk:atJ prog C 79 (Y10.J Q) false p Y10.ann Y10.body e h (kFun prog Tryz.f32 Q)):Y10.J Q k e h:=goJ_run (P:=prog) (fn:=Tryz.f32) (ann:=Y10.ann) (body:=Y10.body) (Q:=Q) (k:=k) (p:=p) (e:=e) (h:=h) (acall_le X) Y10.dist hl hk
theorem Y10.goH {Q:AV→AHeap→Prop} {k:Nat} {p:List Nat} (hl:lookJ (places Y10.ann Y10.body) k=some (p,true)) {e:Env} {h:AHeap} (hk:atJ prog C 79 (Y10.J Q) true p Y10.ann Y10.body e h (kFun prog Tryz.f32 Q)):Y10.J Q k e h:=goJ_head (P:=prog) (fn:=Tryz.f32) (ann:=Y10.ann) (body:=Y10.body) (Q:=Q) (k:=k) (p:=p) (e:=e) (h:=h) (acall_le X) Y10.dist hl hk
def Y10.p0 (Q:AV→AHeap→Prop) (x0:List UInt8) (x20:Bool) (h:AHeap):Prop:=Y10.J Q 1 [(0,(AV.s x0)),(20,(AV.b x20))] h
theorem Y10.j0 (Q:AV→AHeap→Prop) (x0:List UInt8) (x20:Bool) (h:AHeap):Y10.J Q 1 [(0,(AV.s x0)),(20,(AV.b x20))] h=Y10.p0 Q x0 x20 h:=rfl
def Y10.p2 (Q:AV→AHeap→Prop) (x0:List UInt8) (x4:AV) (x5:Int) (x6:Int) (x7:Int) (x41:Bool) (h:AHeap):Prop:=Y10.J Q 3 [(0,(AV.s x0)),(4,x4),(5,(AV.i .i64 x5)),(6,(AV.i .i64 x6)),(7,(AV.i .i64 x7)),(41,(AV.b x41))] h
theorem Y10.j2 (Q:AV→AHeap→Prop) (x0:List UInt8) (x4:AV) (x5:Int) (x6:Int) (x7:Int) (x41:Bool) (h:AHeap):Y10.J Q 3 [(0,(AV.s x0)),(4,x4),(5,(AV.i .i64 x5)),(6,(AV.i .i64 x6)),(7,(AV.i .i64 x7)),(41,(AV.b x41))] h=Y10.p2 Q x0 x4 x5 x6 x7 x41 h:=rfl
def Y10.p1 (Q:AV→AHeap→Prop) (x0:List UInt8) (x4:AV) (x5:Int) (h:AHeap):Prop:=Y10.J Q 2 [(0,(AV.s x0)),(4,x4),(5,(AV.i .i64 x5))] h
theorem Y10.j1 (Q:AV→AHeap→Prop) (x0:List UInt8) (x4:AV) (x5:Int) (h:AHeap):Y10.J Q 2 [(0,(AV.s x0)),(4,x4),(5,(AV.i .i64 x5))] h=Y10.p1 Q x0 x4 x5 h:=rfl
def Y10.p3 (Q:AV→AHeap→Prop) (x4:AV) (x76:Bool) (h:AHeap):Prop:=Y10.J Q 4 [(4,x4),(76,(AV.b x76))] h
theorem Y10.j3 (Q:AV→AHeap→Prop) (x4:AV) (x76:Bool) (h:AHeap):Y10.J Q 4 [(4,x4),(76,(AV.b x76))] h=Y10.p3 Q x4 x76 h:=rfl
def Y10.t0 (J:JT) (Q:AV→AHeap→Prop) (x0:List UInt8) (x20:Bool) (h:AHeap):Prop:=
(bif x20 then
(Q (AV.tu [(AV.s []),(AV.b false)]) h)
else
(J 2 [(0,(AV.s x0)),(4,(AV.sl none 0 none)),(5,(AV.i .i64 0))] h))
theorem Y10.t0_eq (J:JT) (Q:AV→AHeap→Prop) (x0:List UInt8) (x20:Bool) (h:AHeap):Y10.t0 J Q x0 x20 h=atJ prog C 79 J false [1,0,1] Y10.ann Y10.body [(0,(AV.s x0)),(20,(AV.b x20))] h (kFun prog Tryz.f32 Q):=by kernel_rfl
theorem Y10.i0 {Q:AV→AHeap→Prop} {x0:List UInt8} {x20:Bool} {h:AHeap} (H:Y10.t0 (Y10.J Q) Q x0 x20 h):Y10.p0 Q x0 x20 h:=Y10.goR (k:=1) (p:=[1,0,1]) (by kernel_rfl) ((Y10.t0_eq (Y10.J Q) Q x0 x20 h).mp H)
def Y10.t2 (J:JT) (Q:AV→AHeap→Prop) (x0:List UInt8) (x4:AV) (x5:Int) (x6:Int) (x7:Int) (x41:Bool) (h:AHeap):Prop:=
(bif x41 then
(Q (AV.tu [(AV.s []),(AV.b false)]) h)
else
(pShl .i64 x6 4 fun n26=>
withI (IntKind.wrap .u8 (bitsOp .or .i64 n26 x7)) fun n27=>
pBuildSl 1 1 [(AV.i .u8 0)] [(0,1,(AV.i .u8 n27))] h fun v28 h29=>
pAppend (some 5) 1 1 x4 v28 h29 fun v30 h31=>
withI (IntKind.wrap .i64 (x5+2)) fun n33=>
J 2 [(0,(AV.s x0)),(4,v30),(5,(AV.i .i64 n33))] h31))
theorem Y10.t2_eq (J:JT) (Q:AV→AHeap→Prop) (x0:List UInt8) (x4:AV) (x5:Int) (x6:Int) (x7:Int) (x41:Bool) (h:AHeap):Y10.t2 J Q x0 x4 x5 x6 x7 x41 h=atJ prog C 79 J false [1,1,1,0,1,0,0,1,0,0,1,0,1] Y10.ann Y10.body [(0,(AV.s x0)),(4,x4),(5,(AV.i .i64 x5)),(6,(AV.i .i64 x6)),(7,(AV.i .i64 x7)),(41,(AV.b x41))] h (kFun prog Tryz.f32 Q):=by kernel_rfl
theorem Y10.i2 {Q:AV→AHeap→Prop} {x0:List UInt8} {x4:AV} {x5:Int} {x6:Int} {x7:Int} {x41:Bool} {h:AHeap} (H:Y10.t2 (Y10.J Q) Q x0 x4 x5 x6 x7 x41 h):Y10.p2 Q x0 x4 x5 x6 x7 x41 h:=Y10.goR (k:=3) (p:=[1,1,1,0,1,0,0,1,0,0,1,0,1]) (by kernel_rfl) ((Y10.t2_eq (Y10.J Q) Q x0 x4 x5 x6 x7 x41 h).mp H)
def Y10.t1 (J:JT) (Q:AV→AHeap→Prop) (x0:List UInt8) (x4:AV) (x5:Int) (h:AHeap):Prop:=
(bif (decide ((x5:Int)<(x0.length:Int))) then
(pIdxStr (AV.s x0) (AV.i .i64 x5) fun n12=>
withI (IntKind.wrap .i64 (x5+1)) fun n13=>
pIdxStr (AV.s x0) (AV.i .i64 n13) fun n14=>
C Y52.id [(AV.s [48,49,50,51,52,53,54,55,56,57,97,98,99,100,101,102]),(AV.i .u8 n12)] h fun v15 h16=>
asI .i64 v15 fun n17=>
C Y52.id [(AV.s [48,49,50,51,52,53,54,55,56,57,97,98,99,100,101,102]),(AV.i .u8 n14)] h16 fun v18 h19=>
asI .i64 v18 fun n20=>
(bif (decide ((n17:Int)<0)) then
(J 3 [(0,(AV.s x0)),(4,x4),(5,(AV.i .i64 x5)),(6,(AV.i .i64 n17)),(7,(AV.i .i64 n20)),(41,(AV.b true))] h19)
else
(J 3 [(0,(AV.s x0)),(4,x4),(5,(AV.i .i64 x5)),(6,(AV.i .i64 n17)),(7,(AV.i .i64 n20)),(41,(AV.b (decide ((n20:Int)<0))))] h19)))
else
(pLenSl x4 fun n35=>
(bif (decide ((1:Int)<n35)) then
(pIdxAddrSl 1 x4 (AV.i .i64 0) h fun v36=>
pLoad1 v36 h fun v37=>
asI .u8 v37 fun n38=>
(bif (decide ((n38:Int)=0)) then
(pIdxAddrSl 1 x4 (AV.i .i64 1) h fun v39=>
pLoad1 v39 h fun v40=>
asI .u8 v40 fun n41=>
(bif (decide ((n41:Int)<128)) then
(J 4 [(4,x4),(76,(AV.b true))] h)
else
(pIdxAddrSl 1 x4 (AV.i .i64 0) h fun v43=>
pLoad1 v43 h fun v44=>
asI .u8 v44 fun n45=>
(bif (decide ((n45:Int)=255)) then
(pIdxAddrSl 1 x4 (AV.i .i64 1) h fun v46=>
pLoad1 v46 h fun v47=>
asI .u8 v47 fun n48=>
J 4 [(4,x4),(76,(AV.b (decide ((128:Int)≤n48))))] h)
else
(J 4 [(4,x4),(76,(AV.b false))] h)))))
else
(pIdxAddrSl 1 x4 (AV.i .i64 0) h fun v51=>
pLoad1 v51 h fun v52=>
asI .u8 v52 fun n53=>
(bif (decide ((n53:Int)=255)) then
(pIdxAddrSl 1 x4 (AV.i .i64 1) h fun v54=>
pLoad1 v54 h fun v55=>
asI .u8 v55 fun n56=>
J 4 [(4,x4),(76,(AV.b (decide ((128:Int)≤n56))))] h)
else
(J 4 [(4,x4),(76,(AV.b false))] h)))))
else
(J 4 [(4,x4),(76,(AV.b false))] h))))
theorem Y10.t1_eq (J:JT) (Q:AV→AHeap→Prop) (x0:List UInt8) (x4:AV) (x5:Int) (h:AHeap):Y10.t1 J Q x0 x4 x5 h=atJ prog C 79 J true [1,1,1,0,1,0] Y10.ann Y10.body [(0,(AV.s x0)),(4,x4),(5,(AV.i .i64 x5))] h (kFun prog Tryz.f32 Q):=by kernel_rfl
theorem Y10.i1 {Q:AV→AHeap→Prop} {x0:List UInt8} {x4:AV} {x5:Int} {h:AHeap} (H:Y10.t1 (Y10.J Q) Q x0 x4 x5 h):Y10.p1 Q x0 x4 x5 h:=Y10.goH (k:=2) (p:=[1,1,1,0,1,0]) (by kernel_rfl) ((Y10.t1_eq (Y10.J Q) Q x0 x4 x5 h).mp H)
def Y10.t3 (J:JT) (Q:AV→AHeap→Prop) (x4:AV) (x76:Bool) (h:AHeap):Prop:=
(bif x76 then
(Q (AV.tu [(AV.s []),(AV.b false)]) h)
else
(pBytesStr x4 h fun l62=>
Q (AV.tu [(AV.s l62),(AV.b true)]) h))
theorem Y10.t3_eq (J:JT) (Q:AV→AHeap→Prop) (x4:AV) (x76:Bool) (h:AHeap):Y10.t3 J Q x4 x76 h=atJ prog C 79 J false [1,1,1,1,0,1] Y10.ann Y10.body [(4,x4),(76,(AV.b x76))] h (kFun prog Tryz.f32 Q):=by kernel_rfl
theorem Y10.i3 {Q:AV→AHeap→Prop} {x4:AV} {x76:Bool} {h:AHeap} (H:Y10.t3 (Y10.J Q) Q x4 x76 h):Y10.p3 Q x4 x76 h:=Y10.goR (k:=4) (p:=[1,1,1,1,0,1]) (by kernel_rfl) ((Y10.t3_eq (Y10.J Q) Q x4 x76 h).mp H)
def Y10.t (J:JT) (Q:AV→AHeap→Prop) (x0:List UInt8) (h:AHeap):Prop:=
(bif (decide ((x0:List UInt8)=[])) then
(J 1 [(0,(AV.s x0)),(20,(AV.b true))] h)
else
(pRem (x0.length:Int) 2 fun n2=>
(bif (decide ((n2:Int)=1)) then
(J 1 [(0,(AV.s x0)),(20,(AV.b true))] h)
else
(J 1 [(0,(AV.s x0)),(20,(AV.b (decide ((40:Int)<(x0.length:Int)))))] h))))
theorem Y10.t_eq (J:JT) (Q:AV→AHeap→Prop) (x0:List UInt8) (h:AHeap):Y10.t J Q x0 h=exJ prog C 79 J Y10.ann Y10.body (initEnv 0 [(AV.s x0)]) h (kFun prog Tryz.f32 Q):=by kernel_rfl
theorem Y10.call {K:AV→AHeap→Prop} {x0:List UInt8} {h:AHeap} (H:Y10.t (Y10.J (kRet h K)) (kRet h K) x0 h):C Y10.id [(AV.s x0)] h K:=
  callJ (P:=prog) (fn:=Tryz.f32) (ann:=Y10.ann) (body:=Y10.body) Tryz.func32 Y10.body_eq (by kernel_rfl) Y10.dist (by kernel_rfl) ((Y10.t_eq (Y10.J (kRet h K)) (kRet h K) x0 h).mp H)
noncomputable def Y9.body:Code:=(Tryz.f33.body).getD .skip
def Y9.ann:Ann:=(.seq 0 [0,2] .leaf (.seq 0 [0,2] (.seq 1 [0,2,11] .leaf (.br (.seq 0 [2] .leaf .leaf) .leaf)) (.seq 0 [0,2,3] .leaf (.seq 0 [0,2,3] (.one (.loop 2 [0,2,3] (.seq 0 [0,2,3] (.seq 3 [0,2,3,26] .leaf (.br .leaf .leaf)) (.one .leaf)))) (.seq 0 [0,2,3,4] .leaf (.seq 0 [2,4] (.seq 0 [0,2,4,5] .leaf (.one (.loop 4 [0,2,4,5] (.seq 0 [0,2,4,5] (.seq 0 [0,2,4,5,32] .leaf (.br .leaf .leaf)) (.seq 0 [0,2,4,5] (.one .leaf) .leaf))))) (.seq 0 [2] .leaf .leaf)))))))
theorem Y9.body_eq:Tryz.f33.body=some Y9.body:=by kernel_rfl
theorem Y9.dist:noTwice (places Y9.ann Y9.body)=true:=by kernel_rfl
noncomputable def Y9.J (Q:AV→AHeap→Prop):JT:=funJ prog C Tryz.f33 Y9.ann Y9.body Q
theorem Y9.goR {Q:AV→AHeap→Prop} {k:Nat} {p:List Nat} (hl:lookJ (places Y9.ann Y9.body) k=some (p,false)) {e:Env} {h:AHeap} (hk:atJ prog C 46 (Y9.J Q) false p Y9.ann Y9.body e h (kFun prog Tryz.f33 Q)):Y9.J Q k e h:=goJ_run (P:=prog) (fn:=Tryz.f33) (ann:=Y9.ann) (body:=Y9.body) (Q:=Q) (k:=k) (p:=p) (e:=e) (h:=h) (acall_le X) Y9.dist hl hk
theorem Y9.goH {Q:AV→AHeap→Prop} {k:Nat} {p:List Nat} (hl:lookJ (places Y9.ann Y9.body) k=some (p,true)) {e:Env} {h:AHeap} (hk:atJ prog C 46 (Y9.J Q) true p Y9.ann Y9.body e h (kFun prog Tryz.f33 Q)):Y9.J Q k e h:=goJ_head (P:=prog) (fn:=Tryz.f33) (ann:=Y9.ann) (body:=Y9.body) (Q:=Q) (k:=k) (p:=p) (e:=e) (h:=h) (acall_le X) Y9.dist hl hk
def Y9.p0 (Q:AV→AHeap→Prop) (x0:Int) (x2:AV) (x11:Bool) (h:AHeap):Prop:=Y9.J Q 1 [(0,(AV.i .i64 x0)),(2,x2),(11,(AV.b x11))] h
theorem Y9.j0 (Q:AV→AHeap→Prop) (x0:Int) (x2:AV) (x11:Bool) (h:AHeap):Y9.J Q 1 [(0,(AV.i .i64 x0)),(2,x2),(11,(AV.b x11))] h=Y9.p0 Q x0 x2 x11 h:=rfl
def Y9.p2 (Q:AV→AHeap→Prop) (x0:Int) (x2:AV) (x3:Int) (x26:Bool) (h:AHeap):Prop:=Y9.J Q 3 [(0,(AV.i .i64 x0)),(2,x2),(3,(AV.i .i64 x3)),(26,(AV.b x26))] h
theorem Y9.j2 (Q:AV→AHeap→Prop) (x0:Int) (x2:AV) (x3:Int) (x26:Bool) (h:AHeap):Y9.J Q 3 [(0,(AV.i .i64 x0)),(2,x2),(3,(AV.i .i64 x3)),(26,(AV.b x26))] h=Y9.p2 Q x0 x2 x3 x26 h:=rfl
def Y9.p1 (Q:AV→AHeap→Prop) (x0:Int) (x2:AV) (x3:Int) (h:AHeap):Prop:=Y9.J Q 2 [(0,(AV.i .i64 x0)),(2,x2),(3,(AV.i .i64 x3))] h
theorem Y9.j1 (Q:AV→AHeap→Prop) (x0:Int) (x2:AV) (x3:Int) (h:AHeap):Y9.J Q 2 [(0,(AV.i .i64 x0)),(2,x2),(3,(AV.i .i64 x3))] h=Y9.p1 Q x0 x2 x3 h:=rfl
def Y9.p3 (Q:AV→AHeap→Prop) (x0:Int) (x2:AV) (x4:AV) (x5:Int) (h:AHeap):Prop:=Y9.J Q 4 [(0,(AV.i .i64 x0)),(2,x2),(4,x4),(5,(AV.i .i64 x5))] h
theorem Y9.j3 (Q:AV→AHeap→Prop) (x0:Int) (x2:AV) (x4:AV) (x5:Int) (h:AHeap):Y9.J Q 4 [(0,(AV.i .i64 x0)),(2,x2),(4,x4),(5,(AV.i .i64 x5))] h=Y9.p3 Q x0 x2 x4 x5 h:=rfl
def Y9.t0 (J:JT) (Q:AV→AHeap→Prop) (x0:Int) (x2:AV) (x11:Bool) (h:AHeap):Prop:=
(bif x11 then
(pStore 5 x2 (AV.ag [(AV.i .i64 0),(AV.i .i64 0),(AV.b false),(AV.s []),(AV.sl none 0 none)]) h fun h5=>
pLoadN 5 x2 h5 fun v7=>
Q v7 h5)
else
(J 2 [(0,(AV.i .i64 x0)),(2,x2),(3,(AV.i .i64 1))] h))
theorem Y9.t0_eq (J:JT) (Q:AV→AHeap→Prop) (x0:Int) (x2:AV) (x11:Bool) (h:AHeap):Y9.t0 J Q x0 x2 x11 h=atJ prog C 46 J false [1,0,1] Y9.ann Y9.body [(0,(AV.i .i64 x0)),(2,x2),(11,(AV.b x11))] h (kFun prog Tryz.f33 Q):=by kernel_rfl
theorem Y9.i0 {Q:AV→AHeap→Prop} {x0:Int} {x2:AV} {x11:Bool} {h:AHeap} (H:Y9.t0 (Y9.J Q) Q x0 x2 x11 h):Y9.p0 Q x0 x2 x11 h:=Y9.goR (k:=1) (p:=[1,0,1]) (by kernel_rfl) ((Y9.t0_eq (Y9.J Q) Q x0 x2 x11 h).mp H)
def Y9.t2 (J:JT) (Q:AV→AHeap→Prop) (x0:Int) (x2:AV) (x3:Int) (x26:Bool) (h:AHeap):Prop:=
(bif x26 then
(withI (IntKind.wrap .i64 (x3+1)) fun n20=>
J 2 [(0,(AV.i .i64 x0)),(2,x2),(3,(AV.i .i64 n20))] h)
else
(withI (IntKind.wrap .i64 (x3 - 1)) fun n23=>
J 4 [(0,(AV.i .i64 x0)),(2,x2),(4,(AV.sl none 0 none)),(5,(AV.i .i64 n23))] h))
theorem Y9.t2_eq (J:JT) (Q:AV→AHeap→Prop) (x0:Int) (x2:AV) (x3:Int) (x26:Bool) (h:AHeap):Y9.t2 J Q x0 x2 x3 x26 h=atJ prog C 46 J false [1,1,1,0,0,0,0,1] Y9.ann Y9.body [(0,(AV.i .i64 x0)),(2,x2),(3,(AV.i .i64 x3)),(26,(AV.b x26))] h (kFun prog Tryz.f33 Q):=by kernel_rfl
theorem Y9.i2 {Q:AV→AHeap→Prop} {x0:Int} {x2:AV} {x3:Int} {x26:Bool} {h:AHeap} (H:Y9.t2 (Y9.J Q) Q x0 x2 x3 x26 h):Y9.p2 Q x0 x2 x3 x26 h:=Y9.goR (k:=3) (p:=[1,1,1,0,0,0,0,1]) (by kernel_rfl) ((Y9.t2_eq (Y9.J Q) Q x0 x2 x3 x26 h).mp H)
def Y9.t1 (J:JT) (Q:AV→AHeap→Prop) (x0:Int) (x2:AV) (x3:Int) (h:AHeap):Prop:=
withI (IntKind.wrap .i64 (8 * x3)) fun n10=>
withI (IntKind.wrap .i64 (n10 - 1)) fun n11=>
pShl .i64 (-1) n11 fun n12=>
(bif (decide ((x0:Int)<n12)) then
(J 3 [(0,(AV.i .i64 x0)),(2,x2),(3,(AV.i .i64 x3)),(26,(AV.b true))] h)
else
(withI (IntKind.wrap .i64 (8 * x3)) fun n14=>
withI (IntKind.wrap .i64 (n14 - 1)) fun n15=>
pShl .i64 1 n15 fun n16=>
J 3 [(0,(AV.i .i64 x0)),(2,x2),(3,(AV.i .i64 x3)),(26,(AV.b (decide ((n16:Int)≤x0))))] h))
theorem Y9.t1_eq (J:JT) (Q:AV→AHeap→Prop) (x0:Int) (x2:AV) (x3:Int) (h:AHeap):Y9.t1 J Q x0 x2 x3 h=atJ prog C 46 J true [1,1,1,0,0] Y9.ann Y9.body [(0,(AV.i .i64 x0)),(2,x2),(3,(AV.i .i64 x3))] h (kFun prog Tryz.f33 Q):=by kernel_rfl
theorem Y9.i1 {Q:AV→AHeap→Prop} {x0:Int} {x2:AV} {x3:Int} {h:AHeap} (H:Y9.t1 (Y9.J Q) Q x0 x2 x3 h):Y9.p1 Q x0 x2 x3 h:=Y9.goH (k:=2) (p:=[1,1,1,0,0]) (by kernel_rfl) ((Y9.t1_eq (Y9.J Q) Q x0 x2 x3 h).mp H)
def Y9.t3 (J:JT) (Q:AV→AHeap→Prop) (x0:Int) (x2:AV) (x4:AV) (x5:Int) (h:AHeap):Prop:=
(bif (decide ((0:Int)≤x5)) then
(withI (IntKind.wrap .i64 (8 * x5)) fun n28=>
pShr .i64 x0 n28 fun n29=>
pBuildSl 1 1 [(AV.i .u8 0)] [(0,1,(AV.i .u8 (IntKind.wrap .u8 n29)))] h fun v30 h31=>
pAppend (some 5) 1 1 x4 v30 h31 fun v32 h33=>
withI (IntKind.wrap .i64 (x5 - 1)) fun n35=>
J 4 [(0,(AV.i .i64 x0)),(2,x2),(4,v32),(5,(AV.i .i64 n35))] h33)
else
(pBytesStr x4 h fun l37=>
pStore 5 x2 (AV.ag [(AV.i .i64 0),(AV.i .i64 2),(AV.b false),(AV.s l37),(AV.sl none 0 none)]) h fun h38=>
pLoadN 5 x2 h38 fun v40=>
Q v40 h38))
theorem Y9.t3_eq (J:JT) (Q:AV→AHeap→Prop) (x0:Int) (x2:AV) (x4:AV) (x5:Int) (h:AHeap):Y9.t3 J Q x0 x2 x4 x5 h=atJ prog C 46 J true [1,1,1,1,1,0,1,0] Y9.ann Y9.body [(0,(AV.i .i64 x0)),(2,x2),(4,x4),(5,(AV.i .i64 x5))] h (kFun prog Tryz.f33 Q):=by kernel_rfl
theorem Y9.i3 {Q:AV→AHeap→Prop} {x0:Int} {x2:AV} {x4:AV} {x5:Int} {h:AHeap} (H:Y9.t3 (Y9.J Q) Q x0 x2 x4 x5 h):Y9.p3 Q x0 x2 x4 x5 h:=Y9.goH (k:=4) (p:=[1,1,1,1,1,0,1,0]) (by kernel_rfl) ((Y9.t3_eq (Y9.J Q) Q x0 x2 x4 x5 h).mp H)
def Y9.t (J:JT) (Q:AV→AHeap→Prop) (x0:Int) (h:AHeap):Prop:=
pAlloc (some 33) [(AV.i .i64 0),(AV.i .i64 0),(AV.b false),(AV.s []),(AV.sl none 0 none)] h fun v0 h1=>
(bif (decide ((x0:Int)<(-140737488355328))) then
(J 1 [(0,(AV.i .i64 x0)),(2,v0),(11,(AV.b true))] h1)
else
(J 1 [(0,(AV.i .i64 x0)),(2,v0),(11,(AV.b (decide ((140737488355328:Int)≤x0))))] h1))
theorem Y9.t_eq (J:JT) (Q:AV→AHeap→Prop) (x0:Int) (h:AHeap):Y9.t J Q x0 h=exJ prog C 46 J Y9.ann Y9.body (initEnv 0 [(AV.i .i64 x0)]) h (kFun prog Tryz.f33 Q):=by kernel_rfl
theorem Y9.call {K:AV→AHeap→Prop} {x0:Int} {h:AHeap} (H:Y9.t (Y9.J (kRet h K)) (kRet h K) x0 h):C Y9.id [(AV.i .i64 x0)] h K:=
  callJ (P:=prog) (fn:=Tryz.f33) (ann:=Y9.ann) (body:=Y9.body) Tryz.func33 Y9.body_eq (by kernel_rfl) Y9.dist (by kernel_rfl) ((Y9.t_eq (Y9.J (kRet h K)) (kRet h K) x0 h).mp H)
noncomputable def Y46.body:Code:=(Tryz.f34.body).getD .skip
def Y46.ann:Ann:=(.seq 0 [1,2,4] .leaf (.seq 0 [4] .leaf .leaf))
theorem Y46.body_eq:Tryz.f34.body=some Y46.body:=by kernel_rfl
theorem Y46.dist:noTwice (places Y46.ann Y46.body)=true:=by kernel_rfl
noncomputable def Y46.J (Q:AV→AHeap→Prop):JT:=funJ prog C Tryz.f34 Y46.ann Y46.body Q
def Y46.t (J:JT) (Q:AV→AHeap→Prop) (x0:AV) (x1:List UInt8) (h:AHeap):Prop:=
pBox (some 46) x0 h fun v0 h1=>
pAlloc (some 33) [(AV.i .i64 0),(AV.i .i64 0),(AV.b false),(AV.s []),(AV.sl none 0 none)] h1 fun v2 h3=>
pFieldAddr 0 v0 fun v5=>
pLoad1 v5 h3 fun v6=>
asI .i64 v6 fun n7=>
pFieldAddr 1 v0 fun v8=>
pLoad1 v8 h3 fun v9=>
asI .i64 v9 fun n10=>
pStore 5 v2 (AV.ag [(AV.i .i64 n7),(AV.i .i64 n10),(AV.b false),(AV.s x1),(AV.sl none 0 none)]) h3 fun h11=>
pLoadN 5 v2 h11 fun v13=>
Q v13 h11
theorem Y46.t_eq (J:JT) (Q:AV→AHeap→Prop) (x0:AV) (x1:List UInt8) (h:AHeap):Y46.t J Q x0 x1 h=exJ prog C 11 J Y46.ann Y46.body (initEnv 0 [x0,(AV.s x1)]) h (kFun prog Tryz.f34 Q):=by kernel_rfl
theorem Y46.call {K:AV→AHeap→Prop} {x0:AV} {x1:List UInt8} {h:AHeap} (H:Y46.t (Y46.J (kRet h K)) (kRet h K) x0 x1 h):C Y46.id [x0,(AV.s x1)] h K:=
  callJ (P:=prog) (fn:=Tryz.f34) (ann:=Y46.ann) (body:=Y46.body) Tryz.func34 Y46.body_eq (by kernel_rfl) Y46.dist (by kernel_rfl) ((Y46.t_eq (Y46.J (kRet h K)) (kRet h K) x0 x1 h).mp H)
noncomputable def Y15.body:Code:=(Tryz.f35.body).getD .skip
def Y15.ann:Ann:=(.seq 0 [0,2] .leaf (.seq 0 [0,2] (.seq 1 [0,2,16] .leaf (.br (.seq 0 [2] .leaf .leaf) .leaf)) (.seq 0 [2,3,4] .leaf (.seq 0 [2,3,4,5] .leaf (.seq 0 [2,3,4,5] (.one (.loop 2 [2,3,4,5] (.seq 0 [2,3,4,5] (.seq 0 [2,3,4,5,29] .leaf (.br .leaf .leaf)) (.one .leaf)))) (.seq 0 [2,3,4,5] .leaf (.seq 0 [2,3,4,5,6] .leaf (.seq 0 [2,3,4,5,6] (.one (.loop 3 [2,3,4,5,6] (.seq 0 [2,3,4,5,6] (.seq 0 [2,3,4,5,6,40] .leaf (.br .leaf .leaf)) (.one (.seq 0 [2,3,4,5,6] .leaf .leaf))))) (.seq 0 [2,3,4,5,6,7] .leaf (.seq 0 [2,5,7,8] .leaf (.seq 0 [2,5,7,8] (.seq 0 [2,5,7,8,79] .leaf (.br (.seq 0 [2] .leaf .leaf) .leaf)) (.seq 0 [2] .leaf .leaf))))))))))))
theorem Y15.body_eq:Tryz.f35.body=some Y15.body:=by kernel_rfl
theorem Y15.dist:noTwice (places Y15.ann Y15.body)=true:=by kernel_rfl
noncomputable def Y15.J (Q:AV→AHeap→Prop):JT:=funJ prog C Tryz.f35 Y15.ann Y15.body Q
theorem Y15.goR {Q:AV→AHeap→Prop} {k:Nat} {p:List Nat} (hl:lookJ (places Y15.ann Y15.body) k=some (p,false)) {e:Env} {h:AHeap} (hk:atJ prog C 89 (Y15.J Q) false p Y15.ann Y15.body e h (kFun prog Tryz.f35 Q)):Y15.J Q k e h:=goJ_run (P:=prog) (fn:=Tryz.f35) (ann:=Y15.ann) (body:=Y15.body) (Q:=Q) (k:=k) (p:=p) (e:=e) (h:=h) (acall_le X) Y15.dist hl hk
theorem Y15.goH {Q:AV→AHeap→Prop} {k:Nat} {p:List Nat} (hl:lookJ (places Y15.ann Y15.body) k=some (p,true)) {e:Env} {h:AHeap} (hk:atJ prog C 89 (Y15.J Q) true p Y15.ann Y15.body e h (kFun prog Tryz.f35 Q)):Y15.J Q k e h:=goJ_head (P:=prog) (fn:=Tryz.f35) (ann:=Y15.ann) (body:=Y15.body) (Q:=Q) (k:=k) (p:=p) (e:=e) (h:=h) (acall_le X) Y15.dist hl hk
def Y15.p0 (Q:AV→AHeap→Prop) (x0:Int) (x2:AV) (x16:Bool) (h:AHeap):Prop:=Y15.J Q 1 [(0,(AV.i .i64 x0)),(2,x2),(16,(AV.b x16))] h
theorem Y15.j0 (Q:AV→AHeap→Prop) (x0:Int) (x2:AV) (x16:Bool) (h:AHeap):Y15.J Q 1 [(0,(AV.i .i64 x0)),(2,x2),(16,(AV.b x16))] h=Y15.p0 Q x0 x2 x16 h:=rfl
def Y15.p1 (Q:AV→AHeap→Prop) (x2:AV) (x3:Int) (x4:Int) (x5:Int) (h:AHeap):Prop:=Y15.J Q 2 [(2,x2),(3,(AV.i .i64 x3)),(4,(AV.i .i64 x4)),(5,(AV.i .i64 x5))] h
theorem Y15.j1 (Q:AV→AHeap→Prop) (x2:AV) (x3:Int) (x4:Int) (x5:Int) (h:AHeap):Y15.J Q 2 [(2,x2),(3,(AV.i .i64 x3)),(4,(AV.i .i64 x4)),(5,(AV.i .i64 x5))] h=Y15.p1 Q x2 x3 x4 x5 h:=rfl
def Y15.p2 (Q:AV→AHeap→Prop) (x2:AV) (x3:Int) (x4:Int) (x5:Int) (x6:Int) (h:AHeap):Prop:=Y15.J Q 3 [(2,x2),(3,(AV.i .i64 x3)),(4,(AV.i .i64 x4)),(5,(AV.i .i64 x5)),(6,(AV.i .i64 x6))] h
theorem Y15.j2 (Q:AV→AHeap→Prop) (x2:AV) (x3:Int) (x4:Int) (x5:Int) (x6:Int) (h:AHeap):Y15.J Q 3 [(2,x2),(3,(AV.i .i64 x3)),(4,(AV.i .i64 x4)),(5,(AV.i .i64 x5)),(6,(AV.i .i64 x6))] h=Y15.p2 Q x2 x3 x4 x5 x6 h:=rfl
def Y15.t0 (J:JT) (Q:AV→AHeap→Prop) (x0:Int) (x2:AV) (x16:Bool) (h:AHeap):Prop:=
(bif x16 then
(pStore 5 x2 (AV.ag [(AV.i .i64 0),(AV.i .i64 0),(AV.b false),(AV.s []),(AV.sl none 0 none)]) h fun h9=>
pLoadN 5 x2 h9 fun v11=>
Q v11 h9)
else
(pQuo .i64 x0 86400 fun n13=>
pRem x0 86400 fun n14=>
pQuo .i64 n13 366 fun n16=>
withI (IntKind.wrap .i64 (1970+n16)) fun n17=>
J 2 [(2,x2),(3,(AV.i .i64 n13)),(4,(AV.i .i64 n14)),(5,(AV.i .i64 n17))] h))
theorem Y15.t0_eq (J:JT) (Q:AV→AHeap→Prop) (x0:Int) (x2:AV) (x16:Bool) (h:AHeap):Y15.t0 J Q x0 x2 x16 h=atJ prog C 89 J false [1,0,1] Y15.ann Y15.body [(0,(AV.i .i64 x0)),(2,x2),(16,(AV.b x16))] h (kFun prog Tryz.f35 Q):=by kernel_rfl
theorem Y15.i0 {Q:AV→AHeap→Prop} {x0:Int} {x2:AV} {x16:Bool} {h:AHeap} (H:Y15.t0 (Y15.J Q) Q x0 x2 x16 h):Y15.p0 Q x0 x2 x16 h:=Y15.goR (k:=1) (p:=[1,0,1]) (by kernel_rfl) ((Y15.t0_eq (Y15.J Q) Q x0 x2 x16 h).mp H)
def Y15.t1 (J:JT) (Q:AV→AHeap→Prop) (x2:AV) (x3:Int) (x4:Int) (x5:Int) (h:AHeap):Prop:=
withI (IntKind.wrap .i64 (x5+1)) fun n19=>
C Y50.id [(AV.i .i64 n19)] h fun v20 h21=>
asI .i64 v20 fun n22=>
(bif (decide ((n22:Int)≤x3)) then
(withI (IntKind.wrap .i64 (x5+1)) fun n26=>
J 2 [(2,x2),(3,(AV.i .i64 x3)),(4,(AV.i .i64 x4)),(5,(AV.i .i64 n26))] h21)
else
(C Y50.id [(AV.i .i64 x5)] h21 fun v28 h29=>
asI .i64 v28 fun n30=>
withI (IntKind.wrap .i64 (x3 - n30)) fun n31=>
J 3 [(2,x2),(3,(AV.i .i64 n31)),(4,(AV.i .i64 x4)),(5,(AV.i .i64 x5)),(6,(AV.i .i64 1))] h29))
theorem Y15.t1_eq (J:JT) (Q:AV→AHeap→Prop) (x2:AV) (x3:Int) (x4:Int) (x5:Int) (h:AHeap):Y15.t1 J Q x2 x3 x4 x5 h=atJ prog C 89 J true [1,1,1,1,0,0] Y15.ann Y15.body [(2,x2),(3,(AV.i .i64 x3)),(4,(AV.i .i64 x4)),(5,(AV.i .i64 x5))] h (kFun prog Tryz.f35 Q):=by kernel_rfl
theorem Y15.i1 {Q:AV→AHeap→Prop} {x2:AV} {x3:Int} {x4:Int} {x5:Int} {h:AHeap} (H:Y15.t1 (Y15.J Q) Q x2 x3 x4 x5 h):Y15.p1 Q x2 x3 x4 x5 h:=Y15.goH (k:=2) (p:=[1,1,1,1,0,0]) (by kernel_rfl) ((Y15.t1_eq (Y15.J Q) Q x2 x3 x4 x5 h).mp H)
def Y15.t2 (J:JT) (Q:AV→AHeap→Prop) (x2:AV) (x3:Int) (x4:Int) (x5:Int) (x6:Int) (h:AHeap):Prop:=
C Y32.id [(AV.i .i64 x5),(AV.i .i64 x6)] h fun v34 h35=>
asI .i64 v34 fun n36=>
(bif (decide ((n36:Int)≤x3)) then
(C Y32.id [(AV.i .i64 x5),(AV.i .i64 x6)] h35 fun v40 h41=>
asI .i64 v40 fun n42=>
withI (IntKind.wrap .i64 (x3 - n42)) fun n43=>
withI (IntKind.wrap .i64 (x6+1)) fun n45=>
J 3 [(2,x2),(3,(AV.i .i64 n43)),(4,(AV.i .i64 x4)),(5,(AV.i .i64 x5)),(6,(AV.i .i64 n45))] h41)
else
(pRem x5 100 fun n48=>
pCallV C (AV.fn (.func Y48.id) [] []) [(AV.i .i64 n48)] h35 fun v49 h50=>
asS v49 fun l51=>
pCallV C (AV.fn (.func Y48.id) [] []) [(AV.i .i64 x6)] h50 fun v52 h53=>
asS v52 fun l54=>
pCat l51 l54 fun l55=>
withI (IntKind.wrap .i64 (x3+1)) fun n56=>
pCallV C (AV.fn (.func Y48.id) [] []) [(AV.i .i64 n56)] h53 fun v57 h58=>
asS v57 fun l59=>
pCat l55 l59 fun l60=>
pQuo .i64 x4 3600 fun n61=>
pCallV C (AV.fn (.func Y48.id) [] []) [(AV.i .i64 n61)] h58 fun v62 h63=>
asS v62 fun l64=>
pCat l60 l64 fun l65=>
pQuo .i64 x4 60 fun n66=>
pRem n66 60 fun n67=>
pCallV C (AV.fn (.func Y48.id) [] []) [(AV.i .i64 n67)] h63 fun v68 h69=>
asS v68 fun l70=>
pCat l65 l70 fun l71=>
pRem x4 60 fun n72=>
pCallV C (AV.fn (.func Y48.id) [] []) [(AV.i .i64 n72)] h69 fun v73 h74=>
asS v73 fun l75=>
pCat l71 l75 fun l76=>
pCat l76 [90] fun l77=>
(bif (decide ((x5:Int)<2050)) then
(pStore 5 x2 (AV.ag [(AV.i .i64 0),(AV.i .i64 23),(AV.b false),(AV.s l77),(AV.sl none 0 none)]) h74 fun h80=>
pLoadN 5 x2 h80 fun v82=>
Q v82 h80)
else
(pQuo .i64 x5 100 fun n84=>
pCallV C (AV.fn (.func Y48.id) [] []) [(AV.i .i64 n84)] h74 fun v85 h86=>
asS v85 fun l87=>
pCat l87 l77 fun l88=>
pStore 5 x2 (AV.ag [(AV.i .i64 0),(AV.i .i64 24),(AV.b false),(AV.s l88),(AV.sl none 0 none)]) h86 fun h89=>
pLoadN 5 x2 h89 fun v91=>
Q v91 h89))))
theorem Y15.t2_eq (J:JT) (Q:AV→AHeap→Prop) (x2:AV) (x3:Int) (x4:Int) (x5:Int) (x6:Int) (h:AHeap):Y15.t2 J Q x2 x3 x4 x5 x6 h=atJ prog C 89 J true [1,1,1,1,1,1,1,0,0] Y15.ann Y15.body [(2,x2),(3,(AV.i .i64 x3)),(4,(AV.i .i64 x4)),(5,(AV.i .i64 x5)),(6,(AV.i .i64 x6))] h (kFun prog Tryz.f35 Q):=by kernel_rfl
theorem Y15.i2 {Q:AV→AHeap→Prop} {x2:AV} {x3:Int} {x4:Int} {x5:Int} {x6:Int} {h:AHeap} (H:Y15.t2 (Y15.J Q) Q x2 x3 x4 x5 x6 h):Y15.p2 Q x2 x3 x4 x5 x6 h:=Y15.goH (k:=3) (p:=[1,1,1,1,1,1,1,0,0]) (by kernel_rfl) ((Y15.t2_eq (Y15.J Q) Q x2 x3 x4 x5 x6 h).mp H)
def Y15.t (J:JT) (Q:AV→AHeap→Prop) (x0:Int) (h:AHeap):Prop:=
pAlloc (some 33) [(AV.i .i64 0),(AV.i .i64 0),(AV.b false),(AV.s []),(AV.sl none 0 none)] h fun v0 h1=>
(bif (decide ((x0:Int)<0)) then
(J 1 [(0,(AV.i .i64 x0)),(2,v0),(16,(AV.b true))] h1)
else
(pQuo .i64 x0 86400 fun n4=>
C Y50.id [(AV.i .i64 10000)] h1 fun v5 h6=>
asI .i64 v5 fun n7=>
J 1 [(0,(AV.i .i64 x0)),(2,v0),(16,(AV.b (decide ((n7:Int)≤n4))))] h6))
theorem Y15.t_eq (J:JT) (Q:AV→AHeap→Prop) (x0:Int) (h:AHeap):Y15.t J Q x0 h=exJ prog C 89 J Y15.ann Y15.body (initEnv 0 [(AV.i .i64 x0)]) h (kFun prog Tryz.f35 Q):=by kernel_rfl
theorem Y15.call {K:AV→AHeap→Prop} {x0:Int} {h:AHeap} (H:Y15.t (Y15.J (kRet h K)) (kRet h K) x0 h):C Y15.id [(AV.i .i64 x0)] h K:=
  callJ (P:=prog) (fn:=Tryz.f35) (ann:=Y15.ann) (body:=Y15.body) Tryz.func35 Y15.body_eq (by kernel_rfl) Y15.dist (by kernel_rfl) ((Y15.t_eq (Y15.J (kRet h K)) (kRet h K) x0 h).mp H)
noncomputable def Y49.body:Code:=(Tryz.f36.body).getD .skip
def Y49.ann:Ann:=(.seq 0 [0,3,4] .leaf (.seq 0 [3,4,6] .leaf (.seq 0 [4,6,8,9] .leaf (.seq 0 [4,5] (.ord (.neu 0 (.neu 1 (.neu 2 (.neu 3 (.neu 7 (.eff 4 (.eff 5 (.eff 6 (.eff 8 (.neu 9 .done) .stop) .stop) .stop) .stop))))))) .leaf))))
theorem Y49.body_eq:Tryz.f36.body=some Y49.body:=by kernel_rfl
theorem Y49.dist:noTwice (places Y49.ann Y49.body)=true:=by kernel_rfl
noncomputable def Y49.J (Q:AV→AHeap→Prop):JT:=funJ prog C Tryz.f36 Y49.ann Y49.body Q
def Y49.t (J:JT) (Q:AV→AHeap→Prop) (x0:List UInt8) (x1:AV) (h:AHeap):Prop:=
pBox (some 33) x1 h fun v0 h1=>
pAlloc (some 33) [(AV.i .i64 0),(AV.i .i64 0),(AV.b false),(AV.s []),(AV.sl none 0 none)] h1 fun v2 h3=>
C Y3.id [(AV.s x0)] h3 fun v5 h6=>
pExtract 0 v5 fun v7=>
pExtract 1 v5 fun v8=>
asI .i64 v8 fun n9=>
pAlloc (some 33) [(AV.i .i64 0),(AV.i .i64 0),(AV.b false),(AV.s []),(AV.sl none 0 none)] h6 fun v10 h11=>
pStore 5 v10 v7 h11 fun h12=>
pLoadN 5 v0 h12 fun v14=>
C Y56.id [v14] h12 fun v15 h16=>
pExtract 0 v15 fun v17=>
asS v17 fun l18=>
pExtract 1 v15 fun v19=>
asI .i64 v19 fun n20=>
pLoadN 3 (gvar h16 0) h16 fun v22=>
pLoadN 5 v10 h16 fun v23=>
pLoadN 3 (gvar h16 9) h16 fun v24=>
C Y46.id [v24,(AV.s l18)] h16 fun v25 h26=>
pLoadN 5 v10 h26 fun v27=>
(v23=v27 ∧
(pLoadN 3 (gvar h26 0) h26 fun v28=>
(v22=v28 ∧
(pBuildSl 5 2 [(AV.i .i64 0),(AV.i .i64 0),(AV.b false),(AV.s []),(AV.sl none 0 none),(AV.i .i64 0),(AV.i .i64 0),(AV.b false),(AV.s []),(AV.sl none 0 none)] [(0,5,v23),(5,5,v25)] h26 fun v29 h30=>
pLoadN 3 (gvar h30 9) h30 fun v31=>
(v24=v31 ∧
(pLoadN 3 (gvar h30 0) h30 fun v32=>
(v22=v32 ∧
(C Y44.id [v22,v29] h30 fun v33 h34=>
pLoadN 3 (gvar h34 9) h34 fun v35=>
(v24=v35 ∧
(pLoadN 5 v10 h34 fun v36=>
(v23=v36 ∧
(pStore 5 v2 v33 h34 fun h37=>
pLoadN 5 v2 h37 fun v39=>
Q (AV.tu [v39,(AV.i .i64 n20)]) h37))))))))))))
theorem Y49.t_eq (J:JT) (Q:AV→AHeap→Prop) (x0:List UInt8) (x1:AV) (h:AHeap):Y49.t J Q x0 x1 h=exJ prog C 28 J Y49.ann Y49.body (initEnv 0 [(AV.s x0),x1]) h (kFun prog Tryz.f36 Q):=by kernel_rfl
theorem Y49.call {K:AV→AHeap→Prop} {x0:List UInt8} {x1:AV} {h:AHeap} (H:Y49.t (Y49.J (kRet h K)) (kRet h K) x0 x1 h):C Y49.id [(AV.s x0),x1] h K:=
  callJ (P:=prog) (fn:=Tryz.f36) (ann:=Y49.ann) (body:=Y49.body) Tryz.func36 Y49.body_eq (by kernel_rfl) Y49.dist (by kernel_rfl) ((Y49.t_eq (Y49.J (kRet h K)) (kRet h K) x0 x1 h).mp H)
noncomputable def Y56.body:Code:=(Tryz.f37.body).getD .skip
def Y56.ann:Ann:=(.seq 0 [1] .leaf (.seq 0 [1,4] .leaf (.seq 0 [1] (.seq 0 [1,5] .leaf (.seq 0 [1,5,13] .leaf (.br (.seq 0 [2,3] .leaf .leaf) .leaf))) (.seq 0 [6] .leaf (.seq 0 [6] (.seq 0 [6,19] .leaf (.br (.seq 0 [2,3] .leaf .leaf) .leaf)) (.seq 0 [2,3] .leaf .leaf))))))
theorem Y56.body_eq:Tryz.f37.body=some Y56.body:=by kernel_rfl
theorem Y56.dist:noTwice (places Y56.ann Y56.body)=true:=by kernel_rfl
noncomputable def Y56.J (Q:AV→AHeap→Prop):JT:=funJ prog C Tryz.f37 Y56.ann Y56.body Q
def Y56.t (J:JT) (Q:AV→AHeap→Prop) (x0:AV) (h:AHeap):Prop:=
pBox (some 33) x0 h fun v0 h1=>
pBox (some 78) (AV.ag [(AV.i .i64 0)]) h1 fun v3 h4=>
pLoadN 5 v0 h4 fun v6=>
C Y26.id [v3,v6,(AV.i .i64 1)] h4 fun v7 h8=>
asI .i64 v7 fun n9=>
(bif (!decide ((n9:Int)=0)) then
(Q (AV.tu [(AV.s []),(AV.i .i64 n9)]) h8)
else
(pLoadN 5 v0 h8 fun v14=>
C Y13.id [v14] h8 fun v15 h16=>
asS v15 fun l17=>
(bif (decide ((65535:Int)<(l17.length:Int))) then
(Q (AV.tu [(AV.s []),(AV.i .i64 3)]) h16)
else
(Q (AV.tu [(AV.s l17),(AV.i .i64 0)]) h16))))
theorem Y56.t_eq (J:JT) (Q:AV→AHeap→Prop) (x0:AV) (h:AHeap):Y56.t J Q x0 h=exJ prog C 21 J Y56.ann Y56.body (initEnv 0 [x0]) h (kFun prog Tryz.f37 Q):=by kernel_rfl
theorem Y56.call {K:AV→AHeap→Prop} {x0:AV} {h:AHeap} (H:Y56.t (Y56.J (kRet h K)) (kRet h K) x0 h):C Y56.id [x0] h K:=
  callJ (P:=prog) (fn:=Tryz.f37) (ann:=Y56.ann) (body:=Y56.body) Tryz.func37 Y56.body_eq (by kernel_rfl) Y56.dist (by kernel_rfl) ((Y56.t_eq (Y56.J (kRet h K)) (kRet h K) x0 h).mp H)
noncomputable def Y23.body:Code:=(Tryz.f46.body).getD .skip
def Y23.ann:Ann:=(.seq 0 [0] .leaf (.seq 0 [0,3] .leaf (.seq 0 [0,3,4] .leaf (.seq 0 [0,3,4] (.seq 0 [0,3,4,5] .leaf (.one (.loop 1 [0,3,4,5] (.seq 0 [0,3,4,5] (.seq 0 [0,3,4,5,9] .leaf (.br .leaf .leaf)) (.seq 2 [0,3,4,5] (.one (.seq 0 [0,3,4,5,14] .leaf (.one (.seq 0 [0,3,4,5,14,15] .leaf (.br .leaf (.seq 0 [0,3,4,5,19] .leaf (.br (.seq 0 [0,3,5] .leaf .leaf) .leaf))))))) .leaf))))) (.seq 0 [2] .leaf .leaf)))))
theorem Y23.body_eq:Tryz.f46.body=some Y23.body:=by kernel_rfl
theorem Y23.dist:noTwice (places Y23.ann Y23.body)=true:=by kernel_rfl
noncomputable def Y23.J (Q:AV→AHeap→Prop):JT:=funJ prog C Tryz.f46 Y23.ann Y23.body Q
theorem Y23.goR {Q:AV→AHeap→Prop} {k:Nat} {p:List Nat} (hl:lookJ (places Y23.ann Y23.body) k=some (p,false)) {e:Env} {h:AHeap} (hk:atJ prog C 36 (Y23.J Q) false p Y23.ann Y23.body e h (kFun prog Tryz.f46 Q)):Y23.J Q k e h:=goJ_run (P:=prog) (fn:=Tryz.f46) (ann:=Y23.ann) (body:=Y23.body) (Q:=Q) (k:=k) (p:=p) (e:=e) (h:=h) (acall_le X) Y23.dist hl hk
theorem Y23.goH {Q:AV→AHeap→Prop} {k:Nat} {p:List Nat} (hl:lookJ (places Y23.ann Y23.body) k=some (p,true)) {e:Env} {h:AHeap} (hk:atJ prog C 36 (Y23.J Q) true p Y23.ann Y23.body e h (kFun prog Tryz.f46 Q)):Y23.J Q k e h:=goJ_head (P:=prog) (fn:=Tryz.f46) (ann:=Y23.ann) (body:=Y23.body) (Q:=Q) (k:=k) (p:=p) (e:=e) (h:=h) (acall_le X) Y23.dist hl hk
def Y23.p1 (Q:AV→AHeap→Prop) (x0:List UInt8) (x3:AV) (x4:Int) (x5:Int) (h:AHeap):Prop:=Y23.J Q 2 [(0,(AV.s x0)),(3,x3),(4,(AV.i .i64 x4)),(5,(AV.i .i64 x5))] h
theorem Y23.j1 (Q:AV→AHeap→Prop) (x0:List UInt8) (x3:AV) (x4:Int) (x5:Int) (h:AHeap):Y23.J Q 2 [(0,(AV.s x0)),(3,x3),(4,(AV.i .i64 x4)),(5,(AV.i .i64 x5))] h=Y23.p1 Q x0 x3 x4 x5 h:=rfl
def Y23.p0 (Q:AV→AHeap→Prop) (x0:List UInt8) (x3:AV) (x4:Int) (x5:Int) (h:AHeap):Prop:=Y23.J Q 1 [(0,(AV.s x0)),(3,x3),(4,(AV.i .i64 x4)),(5,(AV.i .i64 x5))] h
theorem Y23.j0 (Q:AV→AHeap→Prop) (x0:List UInt8) (x3:AV) (x4:Int) (x5:Int) (h:AHeap):Y23.J Q 1 [(0,(AV.s x0)),(3,x3),(4,(AV.i .i64 x4)),(5,(AV.i .i64 x5))] h=Y23.p0 Q x0 x3 x4 x5 h:=rfl
def Y23.t1 (J:JT) (Q:AV→AHeap→Prop) (x0:List UInt8) (x3:AV) (x4:Int) (x5:Int) (h:AHeap):Prop:=
withI (IntKind.wrap .i64 (x5+1)) fun n22=>
J 1 [(0,(AV.s x0)),(3,x3),(4,(AV.i .i64 x4)),(5,(AV.i .i64 n22))] h
theorem Y23.t1_eq (J:JT) (Q:AV→AHeap→Prop) (x0:List UInt8) (x3:AV) (x4:Int) (x5:Int) (h:AHeap):Y23.t1 J Q x0 x3 x4 x5 h=atJ prog C 36 J false [1,1,1,0,1,0,0,1,1] Y23.ann Y23.body [(0,(AV.s x0)),(3,x3),(4,(AV.i .i64 x4)),(5,(AV.i .i64 x5))] h (kFun prog Tryz.f46 Q):=by kernel_rfl
theorem Y23.i1 {Q:AV→AHeap→Prop} {x0:List UInt8} {x3:AV} {x4:Int} {x5:Int} {h:AHeap} (H:Y23.t1 (Y23.J Q) Q x0 x3 x4 x5 h):Y23.p1 Q x0 x3 x4 x5 h:=Y23.goR (k:=2) (p:=[1,1,1,0,1,0,0,1,1]) (by kernel_rfl) ((Y23.t1_eq (Y23.J Q) Q x0 x3 x4 x5 h).mp H)
def Y23.t0 (J:JT) (Q:AV→AHeap→Prop) (x0:List UInt8) (x3:AV) (x4:Int) (x5:Int) (h:AHeap):Prop:=
(bif (decide ((x5:Int)<(x0.length:Int))) then
(pIdxStr (AV.s x0) (AV.i .i64 x5) fun n7=>
(bif (decide ((n7:Int)=92)) then
(withI (IntKind.wrap .i64 (x5+1)) fun n10=>
J 2 [(0,(AV.s x0)),(3,x3),(4,(AV.i .i64 x4)),(5,(AV.i .i64 n10))] h)
else
((bif (decide ((n7:Int)=44)) then
(pSliceStr (AV.s x0) (some (AV.i .i64 x4)) (some (AV.i .i64 x5)) fun l13=>
pBuildSl 1 1 [(AV.s [])] [(0,1,(AV.s l13))] h fun v14 h15=>
pAppend none 1 16 x3 v14 h15 fun v16 h17=>
withI (IntKind.wrap .i64 (x5+1)) fun n19=>
J 2 [(0,(AV.s x0)),(3,v16),(4,(AV.i .i64 n19)),(5,(AV.i .i64 x5))] h17)
else
(J 2 [(0,(AV.s x0)),(3,x3),(4,(AV.i .i64 x4)),(5,(AV.i .i64 x5))] h)))))
else
(pSliceStr (AV.s x0) (some (AV.i .i64 x4)) none fun l24=>
pBuildSl 1 1 [(AV.s [])] [(0,1,(AV.s l24))] h fun v25 h26=>
pAppend none 1 16 x3 v25 h26 fun v27 h28=>
Q v27 h28))
theorem Y23.t0_eq (J:JT) (Q:AV→AHeap→Prop) (x0:List UInt8) (x3:AV) (x4:Int) (x5:Int) (h:AHeap):Y23.t0 J Q x0 x3 x4 x5 h=atJ prog C 36 J true [1,1,1,0,1,0] Y23.ann Y23.body [(0,(AV.s x0)),(3,x3),(4,(AV.i .i64 x4)),(5,(AV.i .i64 x5))] h (kFun prog Tryz.f46 Q):=by kernel_rfl
theorem Y23.i0 {Q:AV→AHeap→Prop} {x0:List UInt8} {x3:AV} {x4:Int} {x5:Int} {h:AHeap} (H:Y23.t0 (Y23.J Q) Q x0 x3 x4 x5 h):Y23.p0 Q x0 x3 x4 x5 h:=Y23.goH (k:=1) (p:=[1,1,1,0,1,0]) (by kernel_rfl) ((Y23.t0_eq (Y23.J Q) Q x0 x3 x4 x5 h).mp H)
def Y23.t (J:JT) (Q:AV→AHeap→Prop) (x0:List UInt8) (h:AHeap):Prop:=
J 1 [(0,(AV.s x0)),(3,(AV.sl none 0 none)),(4,(AV.i .i64 0)),(5,(AV.i .i64 0))] h
theorem Y23.t_eq (J:JT) (Q:AV→AHeap→Prop) (x0:List UInt8) (h:AHeap):Y23.t J Q x0 h=exJ prog C 36 J Y23.ann Y23.body (initEnv 0 [(AV.s x0)]) h (kFun prog Tryz.f46 Q):=by kernel_rfl
theorem Y23.call {K:AV→AHeap→Prop} {x0:List UInt8} {h:AHeap} (H:Y23.t (Y23.J (kRet h K)) (kRet h K) x0 h):C Y23.id [(AV.s x0)] h K:=
  callJ (P:=prog) (fn:=Tryz.f46) (ann:=Y23.ann) (body:=Y23.body) Tryz.func46 Y23.body_eq (by kernel_rfl) Y23.dist (by kernel_rfl) ((Y23.t_eq (Y23.J (kRet h K)) (kRet h K) x0 h).mp H)
noncomputable def Y64.body:Code:=(Tryz.f47.body).getD .skip
def Y64.ann:Ann:=(.seq 0 [0,1] .leaf (.seq 0 [4,5,6] .leaf .leaf))
theorem Y64.body_eq:Tryz.f47.body=some Y64.body:=by kernel_rfl
theorem Y64.dist:noTwice (places Y64.ann Y64.body)=true:=by kernel_rfl
noncomputable def Y64.J (Q:AV→AHeap→Prop):JT:=funJ prog C Tryz.f47 Y64.ann Y64.body Q
def Y64.t (J:JT) (Q:AV→AHeap→Prop) (x0:List UInt8) (x1:List UInt8) (h:AHeap):Prop:=
C Y74.id [(AV.s x0),(AV.s x1)] h fun v1 h2=>
pExtract 0 v1 fun v3=>
asS v3 fun l4=>
pExtract 1 v1 fun v5=>
asS v5 fun l6=>
pExtract 2 v1 fun v7=>
asB v7 fun c8=>
Q (AV.tu [(AV.s l4),(AV.s l6),(AV.b c8)]) h2
theorem Y64.t_eq (J:JT) (Q:AV→AHeap→Prop) (x0:List UInt8) (x1:List UInt8) (h:AHeap):Y64.t J Q x0 x1 h=exJ prog C 13 J Y64.ann Y64.body (initEnv 0 [(AV.s x0),(AV.s x1)]) h (kFun prog Tryz.f47 Q):=by kernel_rfl
theorem Y64.call {K:AV→AHeap→Prop} {x0:List UInt8} {x1:List UInt8} {h:AHeap} (H:Y64.t (Y64.J (kRet h K)) (kRet h K) x0 x1 h):C Y64.id [(AV.s x0),(AV.s x1)] h K:=
  callJ (P:=prog) (fn:=Tryz.f47) (ann:=Y64.ann) (body:=Y64.body) Tryz.func47 Y64.body_eq (by kernel_rfl) Y64.dist (by kernel_rfl) ((Y64.t_eq (Y64.J (kRet h K)) (kRet h K) x0 x1 h).mp H)
noncomputable def Y18.body:Code:=(Tryz.f48.body).getD .skip
def Y18.ann:Ann:=(.seq 0 [0] .leaf (.seq 0 [0,3] .leaf (.seq 0 [3] (.seq 0 [0,3,4] .leaf (.one (.loop 1 [0,3,4] (.seq 0 [0,3,4] (.seq 0 [0,3,4,8] .leaf (.br .leaf .leaf)) (.seq 0 [0,3,4] (.one (.seq 3 [0,3,4] (.seq 2 [0,3,4,21] .leaf (.br .leaf .leaf)) .leaf)) .leaf))))) (.seq 0 [2] .leaf .leaf))))
theorem Y18.body_eq:Tryz.f48.body=some Y18.body:=by kernel_rfl
theorem Y18.dist:noTwice (places Y18.ann Y18.body)=true:=by kernel_rfl
noncomputable def Y18.J (Q:AV→AHeap→Prop):JT:=funJ prog C Tryz.f48 Y18.ann Y18.body Q
theorem Y18.goR {Q:AV→AHeap→Prop} {k:Nat} {p:List Nat} (hl:lookJ (places Y18.ann Y18.body) k=some (p,false)) {e:Env} {h:AHeap} (hk:atJ prog C 29 (Y18.J Q) false p Y18.ann Y18.body e h (kFun prog Tryz.f48 Q)):Y18.J Q k e h:=goJ_run (P:=prog) (fn:=Tryz.f48) (ann:=Y18.ann) (body:=Y18.body) (Q:=Q) (k:=k) (p:=p) (e:=e) (h:=h) (acall_le X) Y18.dist hl hk
theorem Y18.goH {Q:AV→AHeap→Prop} {k:Nat} {p:List Nat} (hl:lookJ (places Y18.ann Y18.body) k=some (p,true)) {e:Env} {h:AHeap} (hk:atJ prog C 29 (Y18.J Q) true p Y18.ann Y18.body e h (kFun prog Tryz.f48 Q)):Y18.J Q k e h:=goJ_head (P:=prog) (fn:=Tryz.f48) (ann:=Y18.ann) (body:=Y18.body) (Q:=Q) (k:=k) (p:=p) (e:=e) (h:=h) (acall_le X) Y18.dist hl hk
def Y18.p1 (Q:AV→AHeap→Prop) (x0:List UInt8) (x3:AV) (x4:Int) (x21:Bool) (h:AHeap):Prop:=Y18.J Q 2 [(0,(AV.s x0)),(3,x3),(4,(AV.i .i64 x4)),(21,(AV.b x21))] h
theorem Y18.j1 (Q:AV→AHeap→Prop) (x0:List UInt8) (x3:AV) (x4:Int) (x21:Bool) (h:AHeap):Y18.J Q 2 [(0,(AV.s x0)),(3,x3),(4,(AV.i .i64 x4)),(21,(AV.b x21))] h=Y18.p1 Q x0 x3 x4 x21 h:=rfl
def Y18.p2 (Q:AV→AHeap→Prop) (x0:List UInt8) (x3:AV) (x4:Int) (h:AHeap):Prop:=Y18.J Q 3 [(0,(AV.s x0)),(3,x3),(4,(AV.i .i64 x4))] h
theorem Y18.j2 (Q:AV→AHeap→Prop) (x0:List UInt8) (x3:AV) (x4:Int) (h:AHeap):Y18.J Q 3 [(0,(AV.s x0)),(3,x3),(4,(AV.i .i64 x4))] h=Y18.p2 Q x0 x3 x4 h:=rfl
def Y18.p0 (Q:AV→AHeap→Prop) (x0:List UInt8) (x3:AV) (x4:Int) (h:AHeap):Prop:=Y18.J Q 1 [(0,(AV.s x0)),(3,x3),(4,(AV.i .i64 x4))] h
theorem Y18.j0 (Q:AV→AHeap→Prop) (x0:List UInt8) (x3:AV) (x4:Int) (h:AHeap):Y18.J Q 1 [(0,(AV.s x0)),(3,x3),(4,(AV.i .i64 x4))] h=Y18.p0 Q x0 x3 x4 h:=rfl
def Y18.t1 (J:JT) (Q:AV→AHeap→Prop) (x0:List UInt8) (x3:AV) (x4:Int) (x21:Bool) (h:AHeap):Prop:=
(bif x21 then
(withI (IntKind.wrap .i64 (x4+1)) fun n12=>
J 3 [(0,(AV.s x0)),(3,x3),(4,(AV.i .i64 n12))] h)
else
(J 3 [(0,(AV.s x0)),(3,x3),(4,(AV.i .i64 x4))] h))
theorem Y18.t1_eq (J:JT) (Q:AV→AHeap→Prop) (x0:List UInt8) (x3:AV) (x4:Int) (x21:Bool) (h:AHeap):Y18.t1 J Q x0 x3 x4 x21 h=atJ prog C 29 J false [1,1,0,1,0,0,1,0,0,0,1] Y18.ann Y18.body [(0,(AV.s x0)),(3,x3),(4,(AV.i .i64 x4)),(21,(AV.b x21))] h (kFun prog Tryz.f48 Q):=by kernel_rfl
theorem Y18.i1 {Q:AV→AHeap→Prop} {x0:List UInt8} {x3:AV} {x4:Int} {x21:Bool} {h:AHeap} (H:Y18.t1 (Y18.J Q) Q x0 x3 x4 x21 h):Y18.p1 Q x0 x3 x4 x21 h:=Y18.goR (k:=2) (p:=[1,1,0,1,0,0,1,0,0,0,1]) (by kernel_rfl) ((Y18.t1_eq (Y18.J Q) Q x0 x3 x4 x21 h).mp H)
def Y18.t2 (J:JT) (Q:AV→AHeap→Prop) (x0:List UInt8) (x3:AV) (x4:Int) (h:AHeap):Prop:=
pIdxStr (AV.s x0) (AV.i .i64 x4) fun n15=>
C Y69.id [x3,(AV.i .u8 n15)] h fun v16 h17=>
withI (IntKind.wrap .i64 (x4+1)) fun n19=>
J 1 [(0,(AV.s x0)),(3,x3),(4,(AV.i .i64 n19))] h17
theorem Y18.t2_eq (J:JT) (Q:AV→AHeap→Prop) (x0:List UInt8) (x3:AV) (x4:Int) (h:AHeap):Y18.t2 J Q x0 x3 x4 h=atJ prog C 29 J false [1,1,0,1,0,0,1,0,0,1] Y18.ann Y18.body [(0,(AV.s x0)),(3,x3),(4,(AV.i .i64 x4))] h (kFun prog Tryz.f48 Q):=by kernel_rfl
theorem Y18.i2 {Q:AV→AHeap→Prop} {x0:List UInt8} {x3:AV} {x4:Int} {h:AHeap} (H:Y18.t2 (Y18.J Q) Q x0 x3 x4 h):Y18.p2 Q x0 x3 x4 h:=Y18.goR (k:=3) (p:=[1,1,0,1,0,0,1,0,0,1]) (by kernel_rfl) ((Y18.t2_eq (Y18.J Q) Q x0 x3 x4 h).mp H)
def Y18.t0 (J:JT) (Q:AV→AHeap→Prop) (x0:List UInt8) (x3:AV) (x4:Int) (h:AHeap):Prop:=
(bif (decide ((x4:Int)<(x0.length:Int))) then
(pIdxStr (AV.s x0) (AV.i .i64 x4) fun n8=>
(bif (decide ((n8:Int)=92)) then
(withI (IntKind.wrap .i64 (x4+1)) fun n9=>
J 2 [(0,(AV.s x0)),(3,x3),(4,(AV.i .i64 x4)),(21,(AV.b (decide ((n9:Int)<(x0.length:Int)))))] h)
else
(J 2 [(0,(AV.s x0)),(3,x3),(4,(AV.i .i64 x4)),(21,(AV.b false))] h)))
else
(C Y65.id [x3] h fun v21 h22=>
asS v21 fun l23=>
Q (AV.s l23) h22))
theorem Y18.t0_eq (J:JT) (Q:AV→AHeap→Prop) (x0:List UInt8) (x3:AV) (x4:Int) (h:AHeap):Y18.t0 J Q x0 x3 x4 h=atJ prog C 29 J true [1,1,0,1,0] Y18.ann Y18.body [(0,(AV.s x0)),(3,x3),(4,(AV.i .i64 x4))] h (kFun prog Tryz.f48 Q):=by kernel_rfl
theorem Y18.i0 {Q:AV→AHeap→Prop} {x0:List UInt8} {x3:AV} {x4:Int} {h:AHeap} (H:Y18.t0 (Y18.J Q) Q x0 x3 x4 h):Y18.p0 Q x0 x3 x4 h:=Y18.goH (k:=1) (p:=[1,1,0,1,0]) (by kernel_rfl) ((Y18.t0_eq (Y18.J Q) Q x0 x3 x4 h).mp H)
def Y18.t (J:JT) (Q:AV→AHeap→Prop) (x0:List UInt8) (h:AHeap):Prop:=
pAlloc (some 110) [(AV.p none),(AV.sl none 0 none)] h fun v1 h2=>
J 1 [(0,(AV.s x0)),(3,v1),(4,(AV.i .i64 0))] h2
theorem Y18.t_eq (J:JT) (Q:AV→AHeap→Prop) (x0:List UInt8) (h:AHeap):Y18.t J Q x0 h=exJ prog C 29 J Y18.ann Y18.body (initEnv 0 [(AV.s x0)]) h (kFun prog Tryz.f48 Q):=by kernel_rfl
theorem Y18.call {K:AV→AHeap→Prop} {x0:List UInt8} {h:AHeap} (H:Y18.t (Y18.J (kRet h K)) (kRet h K) x0 h):C Y18.id [(AV.s x0)] h K:=
  callJ (P:=prog) (fn:=Tryz.f48) (ann:=Y18.ann) (body:=Y18.body) Tryz.func48 Y18.body_eq (by kernel_rfl) Y18.dist (by kernel_rfl) ((Y18.t_eq (Y18.J (kRet h K)) (kRet h K) x0 h).mp H)
noncomputable def Y11.body:Code:=(Tryz.f49.body).getD .skip
def Y11.ann:Ann:=(.seq 0 [1] .leaf (.seq 0 [4,5] .leaf (.seq 0 [4,5,6] .leaf (.seq 0 [5,6] (.seq 0 [5,6,24,25,26] .leaf (.one (.loop 1 [5,6,24,25,26] (.seq 0 [5,6,24,25,26,27] .leaf (.seq 0 [5,6,24,25,26] (.br .leaf .leaf) (.seq 0 [5,6,24,25,26] (.one (.seq 0 [5,6,8,24,25,26] .leaf (.seq 0 [5,6,9,10,24,25,26] .leaf (.seq 0 [5,6,9,24,25,26] (.seq 0 [5,6,9,24,25,26,37] .leaf (.br (.seq 0 [2,3] .leaf .leaf) .leaf)) (.seq 0 [5,6,10,11,24,25,26] (.ord (.neu 0 (.neu 1 (.neu 2 (.neu 3 (.eff 4 (.neu 5 (.neu 6 (.neu 7 (.neu 8 (.neu 9 .done))))) .stop)))))) (.seq 0 [5,6,11,24,25,26] (.seq 0 [5,6,11,24,25,26,47] .leaf (.br (.seq 0 [2,3] .leaf .leaf) .leaf)) (.seq 0 [5,6,10,11,12,24,25,26] .leaf (.seq 0 [5,6,10,12,13,14,24,25,26] .leaf (.seq 0 [5,6,10,12,13,14,15,24,25,26] .leaf (.seq 0 [5,6,10,13,14,15,24,25,26] (.seq 0 [5,6,10,12,13,14,15,24,25,26,62,63,64] .leaf (.one (.loop 2 [5,6,10,12,13,14,15,24,25,26,62,63,64] (.seq 0 [5,6,10,12,13,14,15,24,25,26,62,63,64,65] .leaf (.seq 0 [5,6,10,12,13,14,15,24,25,26,62,63,64] (.br .leaf .leaf) (.seq 3 [5,6,10,12,13,14,15,24,25,26,62,63,64] (.one (.seq 0 [5,6,10,12,13,14,15,17,24,25,26,62,63,64] .leaf (.seq 0 [5,6,10,12,13,14,15,17,24,25,26,62,63,64,71] .leaf (.br .leaf .leaf)))) .leaf)))))) (.seq 0 [5,6,13,15,24,25,26] (.seq 4 [5,6,13,15,24,25,26,84] .leaf (.br (.seq 0 [2,3] .leaf .leaf) .leaf)) .leaf))))))))))) .leaf)))))) (.seq 0 [6] (.seq 0 [6,97] .leaf (.br (.seq 0 [2,3] .leaf .leaf) .leaf)) (.seq 0 [2,3] .leaf .leaf))))))
theorem Y11.body_eq:Tryz.f49.body=some Y11.body:=by kernel_rfl
theorem Y11.dist:noTwice (places Y11.ann Y11.body)=true:=by kernel_rfl
noncomputable def Y11.J (Q:AV→AHeap→Prop):JT:=funJ prog C Tryz.f49 Y11.ann Y11.body Q
theorem Y11.goR {Q:AV→AHeap→Prop} {k:Nat} {p:List Nat} (hl:lookJ (places Y11.ann Y11.body) k=some (p,false)) {e:Env} {h:AHeap} (hk:atJ prog C 100 (Y11.J Q) false p Y11.ann Y11.body e h (kFun prog Tryz.f49 Q)):Y11.J Q k e h:=goJ_run (P:=prog) (fn:=Tryz.f49) (ann:=Y11.ann) (body:=Y11.body) (Q:=Q) (k:=k) (p:=p) (e:=e) (h:=h) (acall_le X) Y11.dist hl hk
theorem Y11.goH {Q:AV→AHeap→Prop} {k:Nat} {p:List Nat} (hl:lookJ (places Y11.ann Y11.body) k=some (p,true)) {e:Env} {h:AHeap} (hk:atJ prog C 100 (Y11.J Q) true p Y11.ann Y11.body e h (kFun prog Tryz.f49 Q)):Y11.J Q k e h:=goJ_head (P:=prog) (fn:=Tryz.f49) (ann:=Y11.ann) (body:=Y11.body) (Q:=Q) (k:=k) (p:=p) (e:=e) (h:=h) (acall_le X) Y11.dist hl hk
def Y11.p2 (Q:AV→AHeap→Prop) (x5:Bool) (x6:AV) (x10:Bool) (x12:List UInt8) (x13:List UInt8) (x14:Bool) (x15:List UInt8) (x24:AV) (x25:Int) (x26:Int) (x62:AV) (x63:Int) (x64:Int) (h:AHeap):Prop:=Y11.J Q 3 [(5,(AV.b x5)),(6,x6),(10,(AV.b x10)),(12,(AV.s x12)),(13,(AV.s x13)),(14,(AV.b x14)),(15,(AV.s x15)),(24,x24),(25,(AV.i .i64 x25)),(26,(AV.i .i64 x26)),(62,x62),(63,(AV.i .i64 x63)),(64,(AV.i .i64 x64))] h
theorem Y11.j2 (Q:AV→AHeap→Prop) (x5:Bool) (x6:AV) (x10:Bool) (x12:List UInt8) (x13:List UInt8) (x14:Bool) (x15:List UInt8) (x24:AV) (x25:Int) (x26:Int) (x62:AV) (x63:Int) (x64:Int) (h:AHeap):Y11.J Q 3 [(5,(AV.b x5)),(6,x6),(10,(AV.b x10)),(12,(AV.s x12)),(13,(AV.s x13)),(14,(AV.b x14)),(15,(AV.s x15)),(24,x24),(25,(AV.i .i64 x25)),(26,(AV.i .i64 x26)),(62,x62),(63,(AV.i .i64 x63)),(64,(AV.i .i64 x64))] h=Y11.p2 Q x5 x6 x10 x12 x13 x14 x15 x24 x25 x26 x62 x63 x64 h:=rfl
def Y11.p1 (Q:AV→AHeap→Prop) (x5:Bool) (x6:AV) (x10:Bool) (x12:List UInt8) (x13:List UInt8) (x14:Bool) (x15:List UInt8) (x24:AV) (x25:Int) (x26:Int) (x62:AV) (x63:Int) (x64:Int) (h:AHeap):Prop:=Y11.J Q 2 [(5,(AV.b x5)),(6,x6),(10,(AV.b x10)),(12,(AV.s x12)),(13,(AV.s x13)),(14,(AV.b x14)),(15,(AV.s x15)),(24,x24),(25,(AV.i .i64 x25)),(26,(AV.i .i64 x26)),(62,x62),(63,(AV.i .i64 x63)),(64,(AV.i .i64 x64))] h
theorem Y11.j1 (Q:AV→AHeap→Prop) (x5:Bool) (x6:AV) (x10:Bool) (x12:List UInt8) (x13:List UInt8) (x14:Bool) (x15:List UInt8) (x24:AV) (x25:Int) (x26:Int) (x62:AV) (x63:Int) (x64:Int) (h:AHeap):Y11.J Q 2 [(5,(AV.b x5)),(6,x6),(10,(AV.b x10)),(12,(AV.s x12)),(13,(AV.s x13)),(14,(AV.b x14)),(15,(AV.s x15)),(24,x24),(25,(AV.i .i64 x25)),(26,(AV.i .i64 x26)),(62,x62),(63,(AV.i .i64 x63)),(64,(AV.i .i64 x64))] h=Y11.p1 Q x5 x6 x10 x12 x13 x14 x15 x24 x25 x26 x62 x63 x64 h:=rfl
def Y11.p3 (Q:AV→AHeap→Prop) (x5:Bool) (x6:AV) (x13:List UInt8) (x15:List UInt8) (x24:AV) (x25:Int) (x26:Int) (x84:Bool) (h:AHeap):Prop:=Y11.J Q 4 [(5,(AV.b x5)),(6,x6),(13,(AV.s x13)),(15,(AV.s x15)),(24,x24),(25,(AV.i .i64 x25)),(26,(AV.i .i64 x26)),(84,(AV.b x84))] h
theorem Y11.j3 (Q:AV→AHeap→Prop) (x5:Bool) (x6:AV) (x13:List UInt8) (x15:List UInt8) (x24:AV) (x25:Int) (x26:Int) (x84:Bool) (h:AHeap):Y11.J Q 4 [(5,(AV.b x5)),(6,x6),(13,(AV.s x13)),(15,(AV.s x15)),(24,x24),(25,(AV.i .i64 x25)),(26,(AV.i .i64 x26)),(84,(AV.b x84))] h=Y11.p3 Q x5 x6 x13 x15 x24 x25 x26 x84 h:=rfl
def Y11.p0 (Q:AV→AHeap→Prop) (x5:Bool) (x6:AV) (x24:AV) (x25:Int) (x26:Int) (h:AHeap):Prop:=Y11.J Q 1 [(5,(AV.b x5)),(6,x6),(24,x24),(25,(AV.i .i64 x25)),(26,(AV.i .i64 x26))] h
theorem Y11.j0 (Q:AV→AHeap→Prop) (x5:Bool) (x6:AV) (x24:AV) (x25:Int) (x26:Int) (h:AHeap):Y11.J Q 1 [(5,(AV.b x5)),(6,x6),(24,x24),(25,(AV.i .i64 x25)),(26,(AV.i .i64 x26))] h=Y11.p0 Q x5 x6 x24 x25 x26 h:=rfl
def Y11.t2 (J:JT) (Q:AV→AHeap→Prop) (x5:Bool) (x6:AV) (x10:Bool) (x12:List UInt8) (x13:List UInt8) (x14:Bool) (x15:List UInt8) (x24:AV) (x25:Int) (x26:Int) (x62:AV) (x63:Int) (x64:Int) (h:AHeap):Prop:=
withI (IntKind.wrap .i64 (x64+1)) fun n87=>
J 2 [(5,(AV.b x5)),(6,x6),(10,(AV.b x10)),(12,(AV.s x12)),(13,(AV.s x13)),(14,(AV.b x14)),(15,(AV.s x15)),(24,x24),(25,(AV.i .i64 x25)),(26,(AV.i .i64 x26)),(62,x62),(63,(AV.i .i64 x63)),(64,(AV.i .i64 n87))] h
theorem Y11.t2_eq (J:JT) (Q:AV→AHeap→Prop) (x5:Bool) (x6:AV) (x10:Bool) (x12:List UInt8) (x13:List UInt8) (x14:Bool) (x15:List UInt8) (x24:AV) (x25:Int) (x26:Int) (x62:AV) (x63:Int) (x64:Int) (h:AHeap):Y11.t2 J Q x5 x6 x10 x12 x13 x14 x15 x24 x25 x26 x62 x63 x64 h=atJ prog C 100 J false [1,1,1,0,1,0,0,1,1,0,0,1,1,1,1,1,1,1,1,0,1,0,0,1,1,1] Y11.ann Y11.body [(5,(AV.b x5)),(6,x6),(10,(AV.b x10)),(12,(AV.s x12)),(13,(AV.s x13)),(14,(AV.b x14)),(15,(AV.s x15)),(24,x24),(25,(AV.i .i64 x25)),(26,(AV.i .i64 x26)),(62,x62),(63,(AV.i .i64 x63)),(64,(AV.i .i64 x64))] h (kFun prog Tryz.f49 Q):=by kernel_rfl
theorem Y11.i2 {Q:AV→AHeap→Prop} {x5:Bool} {x6:AV} {x10:Bool} {x12:List UInt8} {x13:List UInt8} {x14:Bool} {x15:List UInt8} {x24:AV} {x25:Int} {x26:Int} {x62:AV} {x63:Int} {x64:Int} {h:AHeap} (H:Y11.t2 (Y11.J Q) Q x5 x6 x10 x12 x13 x14 x15 x24 x25 x26 x62 x63 x64 h):Y11.p2 Q x5 x6 x10 x12 x13 x14 x15 x24 x25 x26 x62 x63 x64 h:=Y11.goR (k:=3) (p:=[1,1,1,0,1,0,0,1,1,0,0,1,1,1,1,1,1,1,1,0,1,0,0,1,1,1]) (by kernel_rfl) ((Y11.t2_eq (Y11.J Q) Q x5 x6 x10 x12 x13 x14 x15 x24 x25 x26 x62 x63 x64 h).mp H)
def Y11.t1 (J:JT) (Q:AV→AHeap→Prop) (x5:Bool) (x6:AV) (x10:Bool) (x12:List UInt8) (x13:List UInt8) (x14:Bool) (x15:List UInt8) (x24:AV) (x25:Int) (x26:Int) (x62:AV) (x63:Int) (x64:Int) (h:AHeap):Prop:=
(bif (decide ((x64:Int)<x63)) then
(pIdxAddrSl 2 x62 (AV.i .i64 x64) h fun v72=>
pLoadN 2 v72 h fun v73=>
pAlloc (some 74) [(AV.s []),(AV.s [])] h fun v74 h75=>
pStore 2 v74 v73 h75 fun h76=>
pFieldAddr 1 v74 fun v78=>
pLoad1 v78 h76 fun v79=>
asS v79 fun l80=>
(bif (decide ((l80:List UInt8)=x12)) then
(pFieldAddr 0 v74 fun v82=>
pLoad1 v82 h76 fun v83=>
asS v83 fun l84=>
J 3 [(5,(AV.b x5)),(6,x6),(10,(AV.b x10)),(12,(AV.s x12)),(13,(AV.s x13)),(14,(AV.b x14)),(15,(AV.s l84)),(24,x24),(25,(AV.i .i64 x25)),(26,(AV.i .i64 x26)),(62,x62),(63,(AV.i .i64 x63)),(64,(AV.i .i64 x64))] h76)
else
(J 3 [(5,(AV.b x5)),(6,x6),(10,(AV.b x10)),(12,(AV.s x12)),(13,(AV.s x13)),(14,(AV.b x14)),(15,(AV.s x15)),(24,x24),(25,(AV.i .i64 x25)),(26,(AV.i .i64 x26)),(62,x62),(63,(AV.i .i64 x63)),(64,(AV.i .i64 x64))] h76)))
else
((bif (!x10) then
(J 4 [(5,(AV.b x5)),(6,x6),(13,(AV.s x13)),(15,(AV.s x15)),(24,x24),(25,(AV.i .i64 x25)),(26,(AV.i .i64 x26)),(84,(AV.b true))] h)
else
((bif (!x14) then
(J 4 [(5,(AV.b x5)),(6,x6),(13,(AV.s x13)),(15,(AV.s x15)),(24,x24),(25,(AV.i .i64 x25)),(26,(AV.i .i64 x26)),(84,(AV.b true))] h)
else
(J 4 [(5,(AV.b x5)),(6,x6),(13,(AV.s x13)),(15,(AV.s x15)),(24,x24),(25,(AV.i .i64 x25)),(26,(AV.i .i64 x26)),(84,(AV.b (decide ((x15:List UInt8)=[]))))] h))))))
theorem Y11.t1_eq (J:JT) (Q:AV→AHeap→Prop) (x5:Bool) (x6:AV) (x10:Bool) (x12:List UInt8) (x13:List UInt8) (x14:Bool) (x15:List UInt8) (x24:AV) (x25:Int) (x26:Int) (x62:AV) (x63:Int) (x64:Int) (h:AHeap):Y11.t1 J Q x5 x6 x10 x12 x13 x14 x15 x24 x25 x26 x62 x63 x64 h=atJ prog C 100 J true [1,1,1,0,1,0,0,1,1,0,0,1,1,1,1,1,1,1,1,0,1,0] Y11.ann Y11.body [(5,(AV.b x5)),(6,x6),(10,(AV.b x10)),(12,(AV.s x12)),(13,(AV.s x13)),(14,(AV.b x14)),(15,(AV.s x15)),(24,x24),(25,(AV.i .i64 x25)),(26,(AV.i .i64 x26)),(62,x62),(63,(AV.i .i64 x63)),(64,(AV.i .i64 x64))] h (kFun prog Tryz.f49 Q):=by kernel_rfl
theorem Y11.i1 {Q:AV→AHeap→Prop} {x5:Bool} {x6:AV} {x10:Bool} {x12:List UInt8} {x13:List UInt8} {x14:Bool} {x15:List UInt8} {x24:AV} {x25:Int} {x26:Int} {x62:AV} {x63:Int} {x64:Int} {h:AHeap} (H:Y11.t1 (Y11.J Q) Q x5 x6 x10 x12 x13 x14 x15 x24 x25 x26 x62 x63 x64 h):Y11.p1 Q x5 x6 x10 x12 x13 x14 x15 x24 x25 x26 x62 x63 x64 h:=Y11.goH (k:=2) (p:=[1,1,1,0,1,0,0,1,1,0,0,1,1,1,1,1,1,1,1,0,1,0]) (by kernel_rfl) ((Y11.t1_eq (Y11.J Q) Q x5 x6 x10 x12 x13 x14 x15 x24 x25 x26 x62 x63 x64 h).mp H)
def Y11.t3 (J:JT) (Q:AV→AHeap→Prop) (x5:Bool) (x6:AV) (x13:List UInt8) (x15:List UInt8) (x24:AV) (x25:Int) (x26:Int) (x84:Bool) (h:AHeap):Prop:=
(bif x84 then
(Q (AV.tu [(AV.s []),(AV.i .i64 2)]) h)
else
(pCat x15 [61] fun l94=>
pBuildSl 1 6 [(AV.s []),(AV.s []),(AV.s []),(AV.s []),(AV.s []),(AV.s [])] [(0,1,(AV.s [92])),(1,1,(AV.s [92,92])),(2,1,(AV.s [44])),(3,1,(AV.s [92,44])),(4,1,(AV.s [61])),(5,1,(AV.s [92,61]))] h fun v95 h96=>
C Y68.id [v95] h96 fun v97 h98=>
C Y60.id [v97,(AV.s x13)] h98 fun v99 h100=>
asS v99 fun l101=>
pCat l94 l101 fun l102=>
pBuildSl 1 1 [(AV.s [])] [(0,1,(AV.s l102))] h100 fun v103 h104=>
pAppend none 1 16 x6 v103 h104 fun v105 h106=>
withI (IntKind.wrap .i64 (x26+1)) fun n108=>
J 1 [(5,(AV.b x5)),(6,v105),(24,x24),(25,(AV.i .i64 x25)),(26,(AV.i .i64 n108))] h106))
theorem Y11.t3_eq (J:JT) (Q:AV→AHeap→Prop) (x5:Bool) (x6:AV) (x13:List UInt8) (x15:List UInt8) (x24:AV) (x25:Int) (x26:Int) (x84:Bool) (h:AHeap):Y11.t3 J Q x5 x6 x13 x15 x24 x25 x26 x84 h=atJ prog C 100 J false [1,1,1,0,1,0,0,1,1,0,0,1,1,1,1,1,1,1,1,1,0,1] Y11.ann Y11.body [(5,(AV.b x5)),(6,x6),(13,(AV.s x13)),(15,(AV.s x15)),(24,x24),(25,(AV.i .i64 x25)),(26,(AV.i .i64 x26)),(84,(AV.b x84))] h (kFun prog Tryz.f49 Q):=by kernel_rfl
theorem Y11.i3 {Q:AV→AHeap→Prop} {x5:Bool} {x6:AV} {x13:List UInt8} {x15:List UInt8} {x24:AV} {x25:Int} {x26:Int} {x84:Bool} {h:AHeap} (H:Y11.t3 (Y11.J Q) Q x5 x6 x13 x15 x24 x25 x26 x84 h):Y11.p3 Q x5 x6 x13 x15 x24 x25 x26 x84 h:=Y11.goR (k:=4) (p:=[1,1,1,0,1,0,0,1,1,0,0,1,1,1,1,1,1,1,1,1,0,1]) (by kernel_rfl) ((Y11.t3_eq (Y11.J Q) Q x5 x6 x13 x15 x24 x25 x26 x84 h).mp H)
def Y11.t0 (J:JT) (Q:AV→AHeap→Prop) (x5:Bool) (x6:AV) (x24:AV) (x25:Int) (x26:Int) (h:AHeap):Prop:=
(bif (decide ((x26:Int)<x25)) then
(pIdxAddrSl 5 x24 (AV.i .i64 x26) h fun v17=>
pLoadN 5 v17 h fun v18=>
pAlloc (some 33) [(AV.i .i64 0),(AV.i .i64 0),(AV.b false),(AV.s []),(AV.sl none 0 none)] h fun v19 h20=>
pStore 5 v19 v18 h20 fun h21=>
pLoadN 3 (gvar h21 8) h21 fun v23=>
pLoadN 5 v19 h21 fun v24=>
C Y28.id [v23,v24,(AV.i .i64 1)] h21 fun v25 h26=>
pExtract 0 v25 fun v27=>
pExtract 1 v25 fun v28=>
asB v28 fun c29=>
(bif (!c29) then
(Q (AV.tu [(AV.s []),(AV.i .i64 2)]) h26)
else
(pLoadN 3 (gvar h26 0) h26 fun v34=>
pIdxAddrSl 5 v27 (AV.i .i64 0) h26 fun v35=>
pLoadN 5 v35 h26 fun v36=>
C Y28.id [v34,v36,(AV.i .i64 2)] h26 fun v37 h38=>
pIdxAddrSl 5 v27 (AV.i .i64 0) h38 fun v39=>
(v35=v39 ∧
(pExtract 0 v37 fun v40=>
pExtract 1 v37 fun v41=>
asB v41 fun c42=>
(bif (!c42) then
(Q (AV.tu [(AV.s []),(AV.i .i64 2)]) h38)
else
(pIdxAddrSl 5 v40 (AV.i .i64 0) h38 fun v47=>
pLoadN 5 v47 h38 fun v48=>
C Y5.id [v48] h38 fun v49 h50=>
pExtract 0 v49 fun v51=>
asS v51 fun l52=>
pExtract 1 v49 fun v53=>
asB v53 fun c54=>
pIdxAddrSl 5 v40 (AV.i .i64 1) h50 fun v56=>
pLoadN 5 v56 h50 fun v57=>
C Y39.id [v57] h50 fun v58 h59=>
pExtract 0 v58 fun v60=>
asS v60 fun l61=>
pExtract 1 v58 fun v62=>
asB v62 fun c63=>
pLoad1 (gvar h59 7) h59 fun v66=>
pLenSl v66 fun n67=>
J 2 [(5,(AV.b x5)),(6,x6),(10,(AV.b c54)),(12,(AV.s l52)),(13,(AV.s l61)),(14,(AV.b c63)),(15,(AV.s [])),(24,x24),(25,(AV.i .i64 x25)),(26,(AV.i .i64 x26)),(62,v66),(63,(AV.i .i64 n67)),(64,(AV.i .i64 0))] h59)))))))
else
((bif (!x5) then
(Q (AV.tu [(AV.s []),(AV.i .i64 2)]) h)
else
(C Y92.id [x6,(AV.s [44])] h fun v113 h114=>
asS v113 fun l115=>
Q (AV.tu [(AV.s l115),(AV.i .i64 0)]) h114))))
theorem Y11.t0_eq (J:JT) (Q:AV→AHeap→Prop) (x5:Bool) (x6:AV) (x24:AV) (x25:Int) (x26:Int) (h:AHeap):Y11.t0 J Q x5 x6 x24 x25 x26 h=atJ prog C 100 J true [1,1,1,0,1,0] Y11.ann Y11.body [(5,(AV.b x5)),(6,x6),(24,x24),(25,(AV.i .i64 x25)),(26,(AV.i .i64 x26))] h (kFun prog Tryz.f49 Q):=by kernel_rfl
theorem Y11.i0 {Q:AV→AHeap→Prop} {x5:Bool} {x6:AV} {x24:AV} {x25:Int} {x26:Int} {h:AHeap} (H:Y11.t0 (Y11.J Q) Q x5 x6 x24 x25 x26 h):Y11.p0 Q x5 x6 x24 x25 x26 h:=Y11.goH (k:=1) (p:=[1,1,1,0,1,0]) (by kernel_rfl) ((Y11.t0_eq (Y11.J Q) Q x5 x6 x24 x25 x26 h).mp H)
def Y11.t (J:JT) (Q:AV→AHeap→Prop) (x0:AV) (h:AHeap):Prop:=
pBox (some 33) x0 h fun v0 h1=>
pLoadN 3 (gvar h1 0) h1 fun v3=>
pLoadN 5 v0 h1 fun v4=>
C Y28.id [v3,v4,(AV.i .i64 (-1))] h1 fun v5 h6=>
pExtract 0 v5 fun v7=>
pExtract 1 v5 fun v8=>
asB v8 fun c9=>
pLenSl v7 fun n12=>
J 1 [(5,(AV.b c9)),(6,(AV.sl none 0 none)),(24,v7),(25,(AV.i .i64 n12)),(26,(AV.i .i64 0))] h6
theorem Y11.t_eq (J:JT) (Q:AV→AHeap→Prop) (x0:AV) (h:AHeap):Y11.t J Q x0 h=exJ prog C 100 J Y11.ann Y11.body (initEnv 0 [x0]) h (kFun prog Tryz.f49 Q):=by kernel_rfl
theorem Y11.call {K:AV→AHeap→Prop} {x0:AV} {h:AHeap} (H:Y11.t (Y11.J (kRet h K)) (kRet h K) x0 h):C Y11.id [x0] h K:=
  callJ (P:=prog) (fn:=Tryz.f49) (ann:=Y11.ann) (body:=Y11.body) Tryz.func49 Y11.body_eq (by kernel_rfl) Y11.dist (by kernel_rfl) ((Y11.t_eq (Y11.J (kRet h K)) (kRet h K) x0 h).mp H)
noncomputable def Y61.body:Code:=(Tryz.f50.body).getD .skip
def Y61.ann:Ann:=(.seq 0 [0,1] .leaf (.seq 0 [4,5] .leaf .leaf))
theorem Y61.body_eq:Tryz.f50.body=some Y61.body:=by kernel_rfl
theorem Y61.dist:noTwice (places Y61.ann Y61.body)=true:=by kernel_rfl
noncomputable def Y61.J (Q:AV→AHeap→Prop):JT:=funJ prog C Tryz.f50 Y61.ann Y61.body Q
def Y61.t (J:JT) (Q:AV→AHeap→Prop) (x0:List UInt8) (x1:List UInt8) (h:AHeap):Prop:=
C Y76.id [(AV.s x0),(AV.s x1)] h fun v1 h2=>
pExtract 0 v1 fun v3=>
asS v3 fun l4=>
pExtract 1 v1 fun v5=>
asB v5 fun c6=>
Q (AV.tu [(AV.s l4),(AV.b c6)]) h2
theorem Y61.t_eq (J:JT) (Q:AV→AHeap→Prop) (x0:List UInt8) (x1:List UInt8) (h:AHeap):Y61.t J Q x0 x1 h=exJ prog C 11 J Y61.ann Y61.body (initEnv 0 [(AV.s x0),(AV.s x1)]) h (kFun prog Tryz.f50 Q):=by kernel_rfl
theorem Y61.call {K:AV→AHeap→Prop} {x0:List UInt8} {x1:List UInt8} {h:AHeap} (H:Y61.t (Y61.J (kRet h K)) (kRet h K) x0 x1 h):C Y61.id [(AV.s x0),(AV.s x1)] h K:=
  callJ (P:=prog) (fn:=Tryz.f50) (ann:=Y61.ann) (body:=Y61.body) Tryz.func50 Y61.body_eq (by kernel_rfl) Y61.dist (by kernel_rfl) ((Y61.t_eq (Y61.J (kRet h K)) (kRet h K) x0 x1 h).mp H)
noncomputable def Y34.body:Code:=(Tryz.f51.body).getD .skip
def Y34.ann:Ann:=(.seq 0 [0,1,2,6] .leaf (.seq 0 [0,1,2,6] (.seq 0 [0,1,2,6,17] .leaf (.br (.seq 0 [6,7,8] .leaf .leaf) .leaf)) (.seq 0 [0,1,2,6,9] .leaf (.seq 0 [0,1,2,6,10] .leaf (.seq 0 [0,1,2,6,10] .leaf (.seq 0 [0,1,2,6,10] (.one (.seq 0 [0,1,2,6,10,37] .leaf (.br (.seq 0 [6,7,8] .leaf .leaf) (.seq 0 [0,1,2,6,10,42] .leaf (.br (.seq 0 [6,7,8] .leaf .leaf) (.seq 0 [0,1,2,6,10,46] .leaf (.br (.seq 0 [6,7,8] .leaf .leaf) .leaf))))))) (.seq 0 [0,1,2,6,10,11,12] .leaf (.seq 0 [0,1,2,6,10,11] (.seq 0 [0,1,2,6,10,11,12,61] .leaf (.br (.seq 0 [6,7,8] .leaf .leaf) .leaf)) (.seq 0 [0,1,2,6,10,11] (.seq 0 [0,1,2,6,10,11,67] .leaf (.br (.seq 0 [6,7,8] .leaf .leaf) .leaf)) (.seq 0 [0,2,6,10,13,14] (.ord (.neu 0 (.neu 1 (.neu 2 (.neu 3 (.neu 4 (.neu 5 (.neu 6 (.neu 7 .done))))))))) (.seq 0 [0,2,6,10,13,14] (.seq 0 [0,2,6,10,13,14,77] .leaf (.br (.seq 0 [6,10,14] .leaf (.seq 0 [6,7,8] .leaf .leaf)) .leaf)) (.seq 0 [6,10,14] (.one (.loop 1 [0,2,6,10,13,14] (.seq 0 [0,2,6,10,13,14] (.seq 0 [0,2,6,10,13,14,83] .leaf (.br .leaf .leaf)) (.one (.seq 0 [0,2,6,10,13,14,15] .leaf (.seq 0 [0,2,6,10,12,13,14,15] .leaf (.seq 0 [0,2,6,10,13,14,15] (.seq 0 [0,2,6,10,12,13,14,15,94] .leaf (.br (.seq 0 [6,7,8] .leaf .leaf) .leaf)) .leaf))))))) (.seq 0 [6,7,8] .leaf .leaf)))))))))))))
theorem Y34.body_eq:Tryz.f51.body=some Y34.body:=by kernel_rfl
theorem Y34.dist:noTwice (places Y34.ann Y34.body)=true:=by kernel_rfl
noncomputable def Y34.J (Q:AV→AHeap→Prop):JT:=funJ prog C Tryz.f51 Y34.ann Y34.body Q
theorem Y34.goH {Q:AV→AHeap→Prop} {k:Nat} {p:List Nat} (hl:lookJ (places Y34.ann Y34.body) k=some (p,true)) {e:Env} {h:AHeap} (hk:atJ prog C 105 (Y34.J Q) true p Y34.ann Y34.body e h (kFun prog Tryz.f51 Q)):Y34.J Q k e h:=goJ_head (P:=prog) (fn:=Tryz.f51) (ann:=Y34.ann) (body:=Y34.body) (Q:=Q) (k:=k) (p:=p) (e:=e) (h:=h) (acall_le X) Y34.dist hl hk
def Y34.p0 (Q:AV→AHeap→Prop) (x0:AV) (x2:Int) (x6:AV) (x10:AV) (x13:List UInt8) (x14:List UInt8) (h:AHeap):Prop:=Y34.J Q 1 [(0,x0),(2,(AV.i .i64 x2)),(6,x6),(10,x10),(13,(AV.s x13)),(14,(AV.s x14))] h
theorem Y34.j0 (Q:AV→AHeap→Prop) (x0:AV) (x2:Int) (x6:AV) (x10:AV) (x13:List UInt8) (x14:List UInt8) (h:AHeap):Y34.J Q 1 [(0,x0),(2,(AV.i .i64 x2)),(6,x6),(10,x10),(13,(AV.s x13)),(14,(AV.s x14))] h=Y34.p0 Q x0 x2 x6 x10 x13 x14 h:=rfl
def Y34.t0 (J:JT) (Q:AV→AHeap→Prop) (x0:AV) (x2:Int) (x6:AV) (x10:AV) (x13:List UInt8) (x14:List UInt8) (h:AHeap):Prop:=
(bif (!(decide ((x13:List UInt8)=[]))) then
(pAlloc (some 33) [(AV.i .i64 0),(AV.i .i64 0),(AV.b false),(AV.s []),(AV.sl none 0 none)] h fun v84 h85=>
withI (IntKind.wrap .i64 (x2+1)) fun n87=>
C Y34.id [x0,(AV.s x13),(AV.i .i64 n87)] h85 fun v88 h89=>
pExtract 0 v88 fun v90=>
pExtract 1 v88 fun v91=>
asS v91 fun l92=>
pExtract 2 v88 fun v93=>
asI .i64 v93 fun n94=>
pStore 5 v84 v90 h89 fun h95=>
(bif (!decide ((n94:Int)=0)) then
(pStore 5 x6 (AV.ag [(AV.i .i64 0),(AV.i .i64 0),(AV.b false),(AV.s []),(AV.sl none 0 none)]) h95 fun h98=>
pLoadN 5 x6 h98 fun v100=>
Q (AV.tu [v100,(AV.s []),(AV.i .i64 n94)]) h98)
else
(pFieldAddr 4 x10 fun v102=>
pLoad1 v102 h95 fun v103=>
pLoadN 5 v84 h95 fun v104=>
pBuildSl 5 1 [(AV.i .i64 0),(AV.i .i64 0),(AV.b false),(AV.s []),(AV.sl none 0 none)] [(0,5,v104)] h95 fun v105 h106=>
pAppend none 5 64 v103 v105 h106 fun v107 h108=>
pFieldAddr 4 x10 fun v109=>
pStore 1 v109 v107 h108 fun h110=>
J 1 [(0,x0),(2,(AV.i .i64 x2)),(6,x6),(10,x10),(13,(AV.s l92)),(14,(AV.s x14))] h110)))
else
(pLoadN 5 x10 h fun v112=>
pStore 5 x6 v112 h fun h113=>
pLoadN 5 x6 h113 fun v115=>
Q (AV.tu [v115,(AV.s x14),(AV.i .i64 0)]) h113))
theorem Y34.t0_eq (J:JT) (Q:AV→AHeap→Prop) (x0:AV) (x2:Int) (x6:AV) (x10:AV) (x13:List UInt8) (x14:List UInt8) (h:AHeap):Y34.t0 J Q x0 x2 x6 x10 x13 x14 h=atJ prog C 105 J true [1,1,1,1,1,1,1,1,1,1,1,0,0] Y34.ann Y34.body [(0,x0),(2,(AV.i .i64 x2)),(6,x6),(10,x10),(13,(AV.s x13)),(14,(AV.s x14))] h (kFun prog Tryz.f51 Q):=by kernel_rfl
theorem Y34.i0 {Q:AV→AHeap→Prop} {x0:AV} {x2:Int} {x6:AV} {x10:AV} {x13:List UInt8} {x14:List UInt8} {h:AHeap} (H:Y34.t0 (Y34.J Q) Q x0 x2 x6 x10 x13 x14 h):Y34.p0 Q x0 x2 x6 x10 x13 x14 h:=Y34.goH (k:=1) (p:=[1,1,1,1,1,1,1,1,1,1,1,0,0]) (by kernel_rfl) ((Y34.t0_eq (Y34.J Q) Q x0 x2 x6 x10 x13 x14 h).mp H)
def Y34.t (J:JT) (Q:AV→AHeap→Prop) (x0:AV) (x1:List UInt8) (x2:Int) (h:AHeap):Prop:=
pAlloc (some 33) [(AV.i .i64 0),(AV.i .i64 0),(AV.b false),(AV.s []),(AV.sl none 0 none)] h fun v0 h1=>
(bif (decide ((x1:List UInt8)=[])) then
(pStore 5 v0 (AV.ag [(AV.i .i64 0),(AV.i .i64 0),(AV.b false),(AV.s []),(AV.sl none 0 none)]) h1 fun h4=>
pLoadN 5 v0 h4 fun v6=>
Q (AV.tu [v6,(AV.s []),(AV.i .i64 1)]) h4)
else
(pIdxStr (AV.s x1) (AV.i .i64 0) fun n8=>
pShr .i64 (IntKind.wrap .i64 n8) 6 fun n10=>
withI (bitsOp .and .i64 (IntKind.wrap .i64 n8) 31) fun n11=>
withI (bitsOp .and .i64 (IntKind.wrap .i64 n8) 32) fun n12=>
pAlloc (some 33) [(AV.i .i64 0),(AV.i .i64 0),(AV.b false),(AV.s []),(AV.sl none 0 none)] h1 fun v13 h14=>
pStore 5 v13 (AV.ag [(AV.i .i64 n10),(AV.i .i64 n11),(AV.b (!decide ((n12:Int)=0))),(AV.s []),(AV.sl none 0 none)]) h14 fun h15=>
pNil x0 fun v17=>
pFieldAddr 0 v17 fun v18=>
pLoad1 v18 h15 fun v19=>
asI .i64 v19 fun n20=>
withI (IntKind.wrap .i64 (n20+1)) fun n21=>
pNil x0 fun v22=>
pFieldAddr 0 v22 fun v23=>
pStore 1 v23 (AV.i .i64 n21) h15 fun h24=>
pFieldAddr 1 v13 fun v26=>
pLoad1 v26 h24 fun v27=>
asI .i64 v27 fun n28=>
(bif (decide ((n28:Int)=31)) then
(pStore 5 v0 (AV.ag [(AV.i .i64 0),(AV.i .i64 0),(AV.b false),(AV.s []),(AV.sl none 0 none)]) h24 fun h30=>
pLoadN 5 v0 h30 fun v32=>
Q (AV.tu [v32,(AV.s []),(AV.i .i64 2)]) h30)
else
((bif (decide ((24:Int)<x2)) then
(pStore 5 v0 (AV.ag [(AV.i .i64 0),(AV.i .i64 0),(AV.b false),(AV.s []),(AV.sl none 0 none)]) h24 fun h34=>
pLoadN 5 v0 h34 fun v36=>
Q (AV.tu [v36,(AV.s []),(AV.i .i64 9)]) h34)
else
(pNil x0 fun v37=>
pFieldAddr 0 v37 fun v38=>
pLoad1 v38 h24 fun v39=>
asI .i64 v39 fun n40=>
(bif (decide ((256:Int)<n40)) then
(pStore 5 v0 (AV.ag [(AV.i .i64 0),(AV.i .i64 0),(AV.b false),(AV.s []),(AV.sl none 0 none)]) h24 fun h42=>
pLoadN 5 v0 h42 fun v44=>
Q (AV.tu [v44,(AV.s []),(AV.i .i64 3)]) h42)
else
(pSliceStr (AV.s x1) (some (AV.i .i64 1)) none fun l46=>
C Y20.id [(AV.s l46)] h24 fun v47 h48=>
pExtract 0 v47 fun v49=>
asI .i64 v49 fun n50=>
pExtract 1 v47 fun v51=>
asS v51 fun l52=>
pExtract 2 v47 fun v53=>
asI .i64 v53 fun n54=>
(bif (!decide ((n54:Int)=0)) then
(pStore 5 v0 (AV.ag [(AV.i .i64 0),(AV.i .i64 0),(AV.b false),(AV.s []),(AV.sl none 0 none)]) h48 fun h57=>
pLoadN 5 v0 h57 fun v59=>
Q (AV.tu [v59,(AV.s []),(AV.i .i64 n54)]) h57)
else
((bif (decide (((l52.length:Int):Int)<n50)) then
(pStore 5 v0 (AV.ag [(AV.i .i64 0),(AV.i .i64 0),(AV.b false),(AV.s []),(AV.sl none 0 none)]) h48 fun h62=>
pLoadN 5 v0 h62 fun v64=>
Q (AV.tu [v64,(AV.s []),(AV.i .i64 1)]) h62)
else
(pSliceStr (AV.s l52) none (some (AV.i .i64 n50)) fun l66=>
pSliceStr (AV.s l52) (some (AV.i .i64 n50)) none fun l67=>
pFieldAddr 2 v13 fun v69=>
pLoad1 v69 h48 fun v70=>
asB v70 fun c71=>
(bif (!c71) then
(pFieldAddr 3 v13 fun v73=>
pStore 1 v73 (AV.s l66) h48 fun h74=>
pLoadN 5 v13 h74 fun v76=>
pStore 5 v0 v76 h74 fun h77=>
pLoadN 5 v0 h77 fun v79=>
Q (AV.tu [v79,(AV.s l67),(AV.i .i64 0)]) h77)
else
(J 1 [(0,x0),(2,(AV.i .i64 x2)),(6,v0),(10,v13),(13,(AV.s l66)),(14,(AV.s l67))] h48))))))))))))))
theorem Y34.t_eq (J:JT) (Q:AV→AHeap→Prop) (x0:AV) (x1:List UInt8) (x2:Int) (h:AHeap):Y34.t J Q x0 x1 x2 h=exJ prog C 105 J Y34.ann Y34.body (initEnv 0 [x0,(AV.s x1),(AV.i .i64 x2)]) h (kFun prog Tryz.f51 Q):=by kernel_rfl
theorem Y34.call {K:AV→AHeap→Prop} {x0:AV} {x1:List UInt8} {x2:Int} {h:AHeap} (H:Y34.t (Y34.J (kRet h K)) (kRet h K) x0 x1 x2 h):C Y34.id [x0,(AV.s x1),(AV.i .i64 x2)] h K:=
  callJ (P:=prog) (fn:=Tryz.f51) (ann:=Y34.ann) (body:=Y34.body) Tryz.func51 Y34.body_eq (by kernel_rfl) Y34.dist (by kernel_rfl) ((Y34.t_eq (Y34.J (kRet h K)) (kRet h K) x0 x1 x2 h).mp H)
noncomputable def Y24.body:Code:=(Tryz.f52.body).getD .skip
def Y24.ann:Ann:=(.seq 0 [0,1] .leaf (.seq 1 [0] .leaf (.seq 0 [4] .leaf .leaf)))
theorem Y24.body_eq:Tryz.f52.body=some Y24.body:=by kernel_rfl
theorem Y24.dist:noTwice (places Y24.ann Y24.body)=true:=by kernel_rfl
noncomputable def Y24.J (Q:AV→AHeap→Prop):JT:=funJ prog C Tryz.f52 Y24.ann Y24.body Q
theorem Y24.goR {Q:AV→AHeap→Prop} {k:Nat} {p:List Nat} (hl:lookJ (places Y24.ann Y24.body) k=some (p,false)) {e:Env} {h:AHeap} (hk:atJ prog C 21 (Y24.J Q) false p Y24.ann Y24.body e h (kFun prog Tryz.f52 Q)):Y24.J Q k e h:=goJ_run (P:=prog) (fn:=Tryz.f52) (ann:=Y24.ann) (body:=Y24.body) (Q:=Q) (k:=k) (p:=p) (e:=e) (h:=h) (acall_le X) Y24.dist hl hk
def Y24.p0 (Q:AV→AHeap→Prop) (x0:AV) (h:AHeap):Prop:=Y24.J Q 1 [(0,x0)] h
theorem Y24.j0 (Q:AV→AHeap→Prop) (x0:AV) (h:AHeap):Y24.J Q 1 [(0,x0)] h=Y24.p0 Q x0 h:=rfl
def Y24.t0 (J:JT) (Q:AV→AHeap→Prop) (x0:AV) (h:AHeap):Prop:=
pNil x0 fun v13=>
pFieldAddr 8 v13 fun v14=>
pLoad1 v14 h fun v15=>
asB v15 fun c16=>
Q (AV.b (!c16)) h
theorem Y24.t0_eq (J:JT) (Q:AV→AHeap→Prop) (x0:AV) (h:AHeap):Y24.t0 J Q x0 h=atJ prog C 21 J false [1,1] Y24.ann Y24.body [(0,x0)] h (kFun prog Tryz.f52 Q):=by kernel_rfl
theorem Y24.i0 {Q:AV→AHeap→Prop} {x0:AV} {h:AHeap} (H:Y24.t0 (Y24.J Q) Q x0 h):Y24.p0 Q x0 h:=Y24.goR (k:=1) (p:=[1,1]) (by kernel_rfl) ((Y24.t0_eq (Y24.J Q) Q x0 h).mp H)
def Y24.t (J:JT) (Q:AV→AHeap→Prop) (x0:AV) (x1:Bool) (h:AHeap):Prop:=
pNil x0 fun v1=>
pFieldAddr 8 v1 fun v2=>
pLoad1 v2 h fun v3=>
asB v3 fun c4=>
(bif c4 then
(pNil x0 fun v5=>
pFieldAddr 8 v5 fun v6=>
pStore 1 v6 (AV.b true) h fun h7=>
J 1 [(0,x0)] h7)
else
(pNil x0 fun v9=>
pFieldAddr 8 v9 fun v10=>
pStore 1 v10 (AV.b (!x1)) h fun h11=>
J 1 [(0,x0)] h11))
theorem Y24.t_eq (J:JT) (Q:AV→AHeap→Prop) (x0:AV) (x1:Bool) (h:AHeap):Y24.t J Q x0 x1 h=exJ prog C 21 J Y24.ann Y24.body (initEnv 0 [x0,(AV.b x1)]) h (kFun prog Tryz.f52 Q):=by kernel_rfl
theorem Y24.call {K:AV→AHeap→Prop} {x0:AV} {x1:Bool} {h:AHeap} (H:Y24.t (Y24.J (kRet h K)) (kRet h K) x0 x1 h):C Y24.id [x0,(AV.b x1)] h K:=
  callJ (P:=prog) (fn:=Tryz.f52) (ann:=Y24.ann) (body:=Y24.body) Tryz.func52 Y24.body_eq (by kernel_rfl) Y24.dist (by kernel_rfl) ((Y24.t_eq (Y24.J (kRet h K)) (kRet h K) x0 x1 h).mp H)
noncomputable def Y14.body:Code:=(Tryz.f53.body).getD .skip
def Y14.ann:Ann:=(.seq 0 [1] .leaf (.seq 0 [1,4] .leaf (.seq 0 [4] (.seq 1 [4,20] .leaf (.br (.seq 0 [2,3] .leaf .leaf) .leaf)) (.seq 0 [4] (.seq 2 [4,43] .leaf (.br (.seq 0 [2,3] .leaf .leaf) .leaf)) (.seq 0 [4,5] .leaf (.seq 0 [5] (.seq 0 [4,5,6] .leaf (.one (.loop 3 [4,5,6] (.seq 0 [4,5,6] (.seq 0 [4,5,6,51] .leaf (.br .leaf .leaf)) (.seq 0 [4,5,6] (.one .leaf) .leaf))))) (.seq 0 [2,3] .leaf .leaf)))))))
theorem Y14.body_eq:Tryz.f53.body=some Y14.body:=by kernel_rfl
theorem Y14.dist:noTwice (places Y14.ann Y14.body)=true:=by kernel_rfl
noncomputable def Y14.J (Q:AV→AHeap→Prop):JT:=funJ prog C Tryz.f53 Y14.ann Y14.body Q
theorem Y14.goR {Q:AV→AHeap→Prop} {k:Nat} {p:List Nat} (hl:lookJ (places Y14.ann Y14.body) k=some (p,false)) {e:Env} {h:AHeap} (hk:atJ prog C 62 (Y14.J Q) false p Y14.ann Y14.body e h (kFun prog Tryz.f53 Q)):Y14.J Q k e h:=goJ_run (P:=prog) (fn:=Tryz.f53) (ann:=Y14.ann) (body:=Y14.body) (Q:=Q) (k:=k) (p:=p) (e:=e) (h:=h) (acall_le X) Y14.dist hl hk
theorem Y14.goH {Q:AV→AHeap→Prop} {k:Nat} {p:List Nat} (hl:lookJ (places Y14.ann Y14.body) k=some (p,true)) {e:Env} {h:AHeap} (hk:atJ prog C 62 (Y14.J Q) true p Y14.ann Y14.body e h (kFun prog Tryz.f53 Q)):Y14.J Q k e h:=goJ_head (P:=prog) (fn:=Tryz.f53) (ann:=Y14.ann) (body:=Y14.body) (Q:=Q) (k:=k) (p:=p) (e:=e) (h:=h) (acall_le X) Y14.dist hl hk
def Y14.p0 (Q:AV→AHeap→Prop) (x4:List UInt8) (x20:Bool) (h:AHeap):Prop:=Y14.J Q 1 [(4,(AV.s x4)),(20,(AV.b x20))] h
theorem Y14.j0 (Q:AV→AHeap→Prop) (x4:List UInt8) (x20:Bool) (h:AHeap):Y14.J Q 1 [(4,(AV.s x4)),(20,(AV.b x20))] h=Y14.p0 Q x4 x20 h:=rfl
def Y14.p1 (Q:AV→AHeap→Prop) (x4:List UInt8) (x43:Bool) (h:AHeap):Prop:=Y14.J Q 2 [(4,(AV.s x4)),(43,(AV.b x43))] h
theorem Y14.j1 (Q:AV→AHeap→Prop) (x4:List UInt8) (x43:Bool) (h:AHeap):Y14.J Q 2 [(4,(AV.s x4)),(43,(AV.b x43))] h=Y14.p1 Q x4 x43 h:=rfl
def Y14.p2 (Q:AV→AHeap→Prop) (x4:List UInt8) (x5:Int) (x6:Int) (h:AHeap):Prop:=Y14.J Q 3 [(4,(AV.s x4)),(5,(AV.i .i64 x5)),(6,(AV.i .i64 x6))] h
theorem Y14.j2 (Q:AV→AHeap→Prop) (x4:List UInt8) (x5:Int) (x6:Int) (h:AHeap):Y14.J Q 3 [(4,(AV.s x4)),(5,(AV.i .i64 x5)),(6,(AV.i .i64 x6))] h=Y14.p2 Q x4 x5 x6 h:=rfl
def Y14.t0 (J:JT) (Q:AV→AHeap→Prop) (x4:List UInt8) (x20:Bool) (h:AHeap):Prop:=
(bif x20 then
(Q (AV.tu [(AV.i .i64 0),(AV.b false)]) h)
else
((bif (decide ((1:Int)<(x4.length:Int))) then
(pIdxStr (AV.s x4) (AV.i .i64 0) fun n16=>
(bif (decide ((n16:Int)=0)) then
(pIdxStr (AV.s x4) (AV.i .i64 1) fun n17=>
(bif (decide ((n17:Int)<128)) then
(J 2 [(4,(AV.s x4)),(43,(AV.b true))] h)
else
(pIdxStr (AV.s x4) (AV.i .i64 0) fun n19=>
(bif (decide ((n19:Int)=255)) then
(pIdxStr (AV.s x4) (AV.i .i64 1) fun n20=>
J 2 [(4,(AV.s x4)),(43,(AV.b (decide ((128:Int)≤n20))))] h)
else
(J 2 [(4,(AV.s x4)),(43,(AV.b false))] h)))))
else
(pIdxStr (AV.s x4) (AV.i .i64 0) fun n23=>
(bif (decide ((n23:Int)=255)) then
(pIdxStr (AV.s x4) (AV.i .i64 1) fun n24=>
J 2 [(4,(AV.s x4)),(43,(AV.b (decide ((128:Int)≤n24))))] h)
else
(J 2 [(4,(AV.s x4)),(43,(AV.b false))] h)))))
else
(J 2 [(4,(AV.s x4)),(43,(AV.b false))] h))))
theorem Y14.t0_eq (J:JT) (Q:AV→AHeap→Prop) (x4:List UInt8) (x20:Bool) (h:AHeap):Y14.t0 J Q x4 x20 h=atJ prog C 62 J false [1,1,0,1] Y14.ann Y14.body [(4,(AV.s x4)),(20,(AV.b x20))] h (kFun prog Tryz.f53 Q):=by kernel_rfl
theorem Y14.i0 {Q:AV→AHeap→Prop} {x4:List UInt8} {x20:Bool} {h:AHeap} (H:Y14.t0 (Y14.J Q) Q x4 x20 h):Y14.p0 Q x4 x20 h:=Y14.goR (k:=1) (p:=[1,1,0,1]) (by kernel_rfl) ((Y14.t0_eq (Y14.J Q) Q x4 x20 h).mp H)
def Y14.t1 (J:JT) (Q:AV→AHeap→Prop) (x4:List UInt8) (x43:Bool) (h:AHeap):Prop:=
(bif x43 then
(Q (AV.tu [(AV.i .i64 0),(AV.b false)]) h)
else
(pIdxStr (AV.s x4) (AV.i .i64 0) fun n30=>
withI (IntKind.wrap .i64 (IntKind.wrap .i8 n30)) fun n31=>
J 3 [(4,(AV.s x4)),(5,(AV.i .i64 n31)),(6,(AV.i .i64 1))] h))
theorem Y14.t1_eq (J:JT) (Q:AV→AHeap→Prop) (x4:List UInt8) (x43:Bool) (h:AHeap):Y14.t1 J Q x4 x43 h=atJ prog C 62 J false [1,1,1,0,1] Y14.ann Y14.body [(4,(AV.s x4)),(43,(AV.b x43))] h (kFun prog Tryz.f53 Q):=by kernel_rfl
theorem Y14.i1 {Q:AV→AHeap→Prop} {x4:List UInt8} {x43:Bool} {h:AHeap} (H:Y14.t1 (Y14.J Q) Q x4 x43 h):Y14.p1 Q x4 x43 h:=Y14.goR (k:=2) (p:=[1,1,1,0,1]) (by kernel_rfl) ((Y14.t1_eq (Y14.J Q) Q x4 x43 h).mp H)
def Y14.t2 (J:JT) (Q:AV→AHeap→Prop) (x4:List UInt8) (x5:Int) (x6:Int) (h:AHeap):Prop:=
(bif (decide ((x6:Int)<(x4.length:Int))) then
(pShl .i64 x5 8 fun n37=>
pIdxStr (AV.s x4) (AV.i .i64 x6) fun n38=>
withI (bitsOp .or .i64 n37 (IntKind.wrap .i64 n38)) fun n39=>
withI (IntKind.wrap .i64 (x6+1)) fun n41=>
J 3 [(4,(AV.s x4)),(5,(AV.i .i64 n39)),(6,(AV.i .i64 n41))] h)
else
(Q (AV.tu [(AV.i .i64 x5),(AV.b true)]) h))
theorem Y14.t2_eq (J:JT) (Q:AV→AHeap→Prop) (x4:List UInt8) (x5:Int) (x6:Int) (h:AHeap):Y14.t2 J Q x4 x5 x6 h=atJ prog C 62 J true [1,1,1,1,1,0,1,0] Y14.ann Y14.body [(4,(AV.s x4)),(5,(AV.i .i64 x5)),(6,(AV.i .i64 x6))] h (kFun prog Tryz.f53 Q):=by kernel_rfl
theorem Y14.i2 {Q:AV→AHeap→Prop} {x4:List UInt8} {x5:Int} {x6:Int} {h:AHeap} (H:Y14.t2 (Y14.J Q) Q x4 x5 x6 h):Y14.p2 Q x4 x5 x6 h:=Y14.goH (k:=3) (p:=[1,1,1,1,1,0,1,0]) (by kernel_rfl) ((Y14.t2_eq (Y14.J Q) Q x4 x5 x6 h).mp H)
def Y14.t (J:JT) (Q:AV→AHeap→Prop) (x0:AV) (h:AHeap):Prop:=
pBox (some 33) x0 h fun v0 h1=>
pFieldAddr 3 v0 fun v3=>
pLoad1 v3 h1 fun v4=>
asS v4 fun l5=>
pLoadN 5 v0 h1 fun v7=>
C Y29.id [v7,(AV.i .i64 2)] h1 fun v8 h9=>
asB v8 fun c10=>
(bif (!c10) then
(J 1 [(4,(AV.s l5)),(20,(AV.b true))] h9)
else
((bif (decide ((l5:List UInt8)=[])) then
(J 1 [(4,(AV.s l5)),(20,(AV.b true))] h9)
else
(J 1 [(4,(AV.s l5)),(20,(AV.b (decide ((6:Int)<(l5.length:Int)))))] h9))))
theorem Y14.t_eq (J:JT) (Q:AV→AHeap→Prop) (x0:AV) (h:AHeap):Y14.t J Q x0 h=exJ prog C 62 J Y14.ann Y14.body (initEnv 0 [x0]) h (kFun prog Tryz.f53 Q):=by kernel_rfl
theorem Y14.call {K:AV→AHeap→Prop} {x0:AV} {h:AHeap} (H:Y14.t (Y14.J (kRet h K)) (kRet h K) x0 h):C Y14.id [x0] h K:=
  callJ (P:=prog) (fn:=Tryz.f53) (ann:=Y14.ann) (body:=Y14.body) Tryz.func53 Y14.body_eq (by kernel_rfl) Y14.dist (by kernel_rfl) ((Y14.t_eq (Y14.J (kRet h K)) (kRet h K) x0 h).mp H)
noncomputable def Y53.body:Code:=(Tryz.f54.body).getD .skip
def Y53.ann:Ann:=(.seq 0 [0,3] .leaf (.seq 0 [0,5,6] .leaf (.seq 0 [5] .leaf (.seq 0 [4] .leaf .leaf))))
theorem Y53.body_eq:Tryz.f54.body=some Y53.body:=by kernel_rfl
theorem Y53.dist:noTwice (places Y53.ann Y53.body)=true:=by kernel_rfl
noncomputable def Y53.J (Q:AV→AHeap→Prop):JT:=funJ prog C Tryz.f54 Y53.ann Y53.body Q
def Y53.t (J:JT) (Q:AV→AHeap→Prop) (x0:AV) (x1:AV) (h:AHeap):Prop:=
pBox (some 33) x1 h fun v0 h1=>
pLoadN 5 v0 h1 fun v3=>
C Y11.id [v3] h1 fun v4 h5=>
pExtract 0 v4 fun v6=>
asS v6 fun l7=>
pExtract 1 v4 fun v8=>
asI .i64 v8 fun n9=>
C Y24.id [x0,(AV.b (decide ((n9:Int)=0)))] h5 fun v11 h12=>
asB v11 fun c13=>
Q (AV.s l7) h12
theorem Y53.t_eq (J:JT) (Q:AV→AHeap→Prop) (x0:AV) (x1:AV) (h:AHeap):Y53.t J Q x0 x1 h=exJ prog C 17 J Y53.ann Y53.body (initEnv 0 [x0,x1]) h (kFun prog Tryz.f54 Q):=by kernel_rfl
theorem Y53.call {K:AV→AHeap→Prop} {x0:AV} {x1:AV} {h:AHeap} (H:Y53.t (Y53.J (kRet h K)) (kRet h K) x0 x1 h):C Y53.id [x0,x1] h K:=
  callJ (P:=prog) (fn:=Tryz.f54) (ann:=Y53.ann) (body:=Y53.body) Tryz.func54 Y53.body_eq (by kernel_rfl) Y53.dist (by kernel_rfl) ((Y53.t_eq (Y53.J (kRet h K)) (kRet h K) x0 x1 h).mp H)
noncomputable def Y2.body:Code:=(Tryz.f55.body).getD .skip
def Y2.ann:Ann:=(.seq 0 [1] .leaf (.seq 0 [1,4] .leaf (.seq 1 [1,4] (.seq 0 [1,4,11] .leaf (.br .leaf (.seq 0 [1,4,14] .leaf (.br (.seq 0 [2,3] .leaf .leaf) .leaf)))) (.seq 0 [1,4] (.seq 2 [1,4,27] .leaf (.br (.seq 0 [2,3] .leaf .leaf) .leaf)) (.seq 0 [4,5] .leaf (.seq 0 [4,5] (.seq 0 [4,5,36] .leaf (.br (.seq 0 [2,3] .leaf .leaf) .leaf)) (.seq 0 [4,5,6] .leaf (.seq 0 [4,6] (.one (.loop 3 [4,5,6] (.seq 0 [4,5,6] (.seq 0 [4,5,6,38] .leaf (.br .leaf .leaf)) (.seq 0 [4,5,6] (.one (.ord (.neu 0 (.neu 1 (.neu 2 (.neu 3 (.neu 4 (.neu 5 (.neu 6 (.neu 7 (.neu 8 (.neu 9 (.neu 10 (.eff 11 (.eff 12 (.eff 13 .done .stop) .stop) .stop)))))))))))))) .leaf)))) (.seq 0 [4,6,7] .leaf (.seq 4 [6,7] (.seq 0 [6,7,59] .leaf (.br (.seq 0 [6,7] (.ord (.neu 0 (.neu 1 (.neu 2 (.neu 3 (.neu 4 (.neu 5 (.neu 6 (.neu 7 (.neu 8 .done)))))))))) .leaf) (.seq 0 [6,7,73] .leaf (.br .leaf .leaf)))) (.seq 0 [6,7] (.seq 5 [6,7,126] (.ord (.neu 0 (.neu 1 (.neu 2 (.neu 3 (.neu 4 (.neu 5 (.neu 6 (.neu 7 (.neu 8 (.neu 9 (.neu 10 (.neu 11 (.neu 12 (.neu 13 (.neu 14 (.neu 15 (.neu 16 (.neu 17 (.neu 18 (.neu 19 (.neu 20 (.neu 21 (.neu 22 (.neu 23 (.neu 24 (.neu 25 (.neu 26 (.neu 27 (.eff 28 (.neu 29 (.neu 30 (.neu 31 (.neu 32 (.neu 33 (.neu 34 (.neu 35 (.neu 36 (.neu 37 (.neu 38 (.neu 39 (.neu 40 (.neu 41 (.neu 42 (.neu 43 (.neu 44 (.neu 45 (.neu 46 (.neu 47 (.neu 48 .done)))))))))))))))))))) .stop)))))))))))))))))))))))))))))) (.br (.seq 0 [2,3] .leaf .leaf) .leaf)) (.seq 0 [6,7,8] (.ord (.neu 0 (.neu 2 (.neu 3 (.neu 4 (.eff 1 (.neu 5 (.neu 6 (.neu 7 .done))) .stop)))))) (.seq 0 [6,8] (.seq 0 [6,7,8,9] .leaf (.one (.loop 6 [6,7,8,9] (.seq 0 [6,7,8,9] (.seq 0 [6,7,8,9,138] .leaf (.br .leaf .leaf)) (.seq 0 [6,7,8,9] (.one .leaf) .leaf))))) (.seq 0 [2,3] (.ord (.neu 0 (.neu 1 (.neu 2 (.neu 3 (.neu 4 (.neu 5 (.neu 6 (.neu 7 (.neu 8 (.neu 9 (.neu 10 (.neu 11 (.neu 12 (.neu 13 (.neu 14 (.neu 15 (.neu 16 (.neu 17 .done))))))))))))))))))) .leaf))))))))))))))
theorem Y2.body_eq:Tryz.f55.body=some Y2.body:=by kernel_rfl
theorem Y2.dist:noTwice (places Y2.ann Y2.body)=true:=by kernel_rfl
noncomputable def Y2.J (Q:AV→AHeap→Prop):JT:=funJ prog C Tryz.f55 Y2.ann Y2.body Q
theorem Y2.goR {Q:AV→AHeap→Prop} {k:Nat} {p:List Nat} (hl:lookJ (places Y2.ann Y2.body) k=some (p,false)) {e:Env} {h:AHeap} (hk:atJ prog C 162 (Y2.J Q) false p Y2.ann Y2.body e h (kFun prog Tryz.f55 Q)):Y2.J Q k e h:=goJ_run (P:=prog) (fn:=Tryz.f55) (ann:=Y2.ann) (body:=Y2.body) (Q:=Q) (k:=k) (p:=p) (e:=e) (h:=h) (acall_le X) Y2.dist hl hk
theorem Y2.goH {Q:AV→AHeap→Prop} {k:Nat} {p:List Nat} (hl:lookJ (places Y2.ann Y2.body) k=some (p,true)) {e:Env} {h:AHeap} (hk:atJ prog C 162 (Y2.J Q) true p Y2.ann Y2.body e h (kFun prog Tryz.f55 Q)):Y2.J Q k e h:=goJ_head (P:=prog) (fn:=Tryz.f55) (ann:=Y2.ann) (body:=Y2.body) (Q:=Q) (k:=k) (p:=p) (e:=e) (h:=h) (acall_le X) Y2.dist hl hk
def Y2.p1 (Q:AV→AHeap→Prop) (x1:AV) (x4:Int) (x27:Bool) (h:AHeap):Prop:=Y2.J Q 2 [(1,x1),(4,(AV.i .i64 x4)),(27,(AV.b x27))] h
theorem Y2.j1 (Q:AV→AHeap→Prop) (x1:AV) (x4:Int) (x27:Bool) (h:AHeap):Y2.J Q 2 [(1,x1),(4,(AV.i .i64 x4)),(27,(AV.b x27))] h=Y2.p1 Q x1 x4 x27 h:=rfl
def Y2.p2 (Q:AV→AHeap→Prop) (x4:Int) (x5:List UInt8) (x6:AV) (h:AHeap):Prop:=Y2.J Q 3 [(4,(AV.i .i64 x4)),(5,(AV.s x5)),(6,x6)] h
theorem Y2.j2 (Q:AV→AHeap→Prop) (x4:Int) (x5:List UInt8) (x6:AV) (h:AHeap):Y2.J Q 3 [(4,(AV.i .i64 x4)),(5,(AV.s x5)),(6,x6)] h=Y2.p2 Q x4 x5 x6 h:=rfl
def Y2.p4 (Q:AV→AHeap→Prop) (x6:AV) (x7:Int) (x126:Bool) (h:AHeap):Prop:=Y2.J Q 5 [(6,x6),(7,(AV.i .i64 x7)),(126,(AV.b x126))] h
theorem Y2.j4 (Q:AV→AHeap→Prop) (x6:AV) (x7:Int) (x126:Bool) (h:AHeap):Y2.J Q 5 [(6,x6),(7,(AV.i .i64 x7)),(126,(AV.b x126))] h=Y2.p4 Q x6 x7 x126 h:=rfl
def Y2.p5 (Q:AV→AHeap→Prop) (x6:AV) (x7:Int) (x8:Int) (x9:Int) (h:AHeap):Prop:=Y2.J Q 6 [(6,x6),(7,(AV.i .i64 x7)),(8,(AV.i .i64 x8)),(9,(AV.i .i64 x9))] h
theorem Y2.j5 (Q:AV→AHeap→Prop) (x6:AV) (x7:Int) (x8:Int) (x9:Int) (h:AHeap):Y2.J Q 6 [(6,x6),(7,(AV.i .i64 x7)),(8,(AV.i .i64 x8)),(9,(AV.i .i64 x9))] h=Y2.p5 Q x6 x7 x8 x9 h:=rfl
def Y2.p3 (Q:AV→AHeap→Prop) (x6:AV) (x7:Int) (h:AHeap):Prop:=Y2.J Q 4 [(6,x6),(7,(AV.i .i64 x7))] h
theorem Y2.j3 (Q:AV→AHeap→Prop) (x6:AV) (x7:Int) (h:AHeap):Y2.J Q 4 [(6,x6),(7,(AV.i .i64 x7))] h=Y2.p3 Q x6 x7 h:=rfl
def Y2.p0 (Q:AV→AHeap→Prop) (x1:AV) (x4:Int) (h:AHeap):Prop:=Y2.J Q 1 [(1,x1),(4,(AV.i .i64 x4))] h
theorem Y2.j0 (Q:AV→AHeap→Prop) (x1:AV) (x4:Int) (h:AHeap):Y2.J Q 1 [(1,x1),(4,(AV.i .i64 x4))] h=Y2.p0 Q x1 x4 h:=rfl
def Y2.t1 (J:JT) (Q:AV→AHeap→Prop) (x1:AV) (x4:Int) (x27:Bool) (h:AHeap):Prop:=
(bif x27 then
(Q (AV.tu [(AV.i .i64 0),(AV.b false)]) h)
else
(pFieldAddr 3 x1 fun v29=>
pLoad1 v29 h fun v30=>
asS v30 fun l31=>
withI (IntKind.wrap .i64 (x4 - 1)) fun n32=>
pSliceStr (AV.s l31) none (some (AV.i .i64 n32)) fun l33=>
pStrBytes (AV.s l33) h fun v35 h36=>
C Y31.id [v35,(AV.fn (.func Y42.id) [] [])] h36 fun v37 h38=>
asB v37 fun c39=>
(bif (!c39) then
(Q (AV.tu [(AV.i .i64 0),(AV.b false)]) h38)
else
(J 3 [(4,(AV.i .i64 x4)),(5,(AV.s l33)),(6,(AV.sl none 0 none))] h38))))
theorem Y2.t1_eq (J:JT) (Q:AV→AHeap→Prop) (x1:AV) (x4:Int) (x27:Bool) (h:AHeap):Y2.t1 J Q x1 x4 x27 h=atJ prog C 162 J false [1,1,1,0,1] Y2.ann Y2.body [(1,x1),(4,(AV.i .i64 x4)),(27,(AV.b x27))] h (kFun prog Tryz.f55 Q):=by kernel_rfl
theorem Y2.i1 {Q:AV→AHeap→Prop} {x1:AV} {x4:Int} {x27:Bool} {h:AHeap} (H:Y2.t1 (Y2.J Q) Q x1 x4 x27 h):Y2.p1 Q x1 x4 x27 h:=Y2.goR (k:=2) (p:=[1,1,1,0,1]) (by kernel_rfl) ((Y2.t1_eq (Y2.J Q) Q x1 x4 x27 h).mp H)
def Y2.t2 (J:JT) (Q:AV→AHeap→Prop) (x4:Int) (x5:List UInt8) (x6:AV) (h:AHeap):Prop:=
(bif (!(decide ((x5:List UInt8)=[]))) then
(pIdxStr (AV.s x5) (AV.i .i64 0) fun n47=>
withI (IntKind.wrap .u8 (n47 - 48)) fun n48=>
withI (IntKind.wrap .i64 ((IntKind.wrap .i64 n48) * 10)) fun n49=>
pIdxStr (AV.s x5) (AV.i .i64 1) fun n50=>
withI (IntKind.wrap .u8 (n50 - 48)) fun n51=>
withI (IntKind.wrap .i64 (n49+(IntKind.wrap .i64 n51))) fun n52=>
pBuildSl 1 1 [(AV.i .i64 0)] [(0,1,(AV.i .i64 n52))] h fun v53 h54=>
pAppend none 1 8 x6 v53 h54 fun v55 h56=>
pSliceStr (AV.s x5) (some (AV.i .i64 2)) none fun l58=>
J 3 [(4,(AV.i .i64 x4)),(5,(AV.s l58)),(6,v55)] h56)
else
(pIdxAddrSl 1 x6 (AV.i .i64 0) h fun v60=>
pLoad1 v60 h fun v61=>
asI .i64 v61 fun n62=>
withI (IntKind.wrap .i64 (n62+2000)) fun n63=>
(bif (decide ((x4:Int)=15)) then
(pIdxAddrSl 1 x6 (AV.i .i64 0) h fun v66=>
pLoad1 v66 h fun v67=>
asI .i64 v67 fun n68=>
withI (IntKind.wrap .i64 (100 * n68)) fun n69=>
pIdxAddrSl 1 x6 (AV.i .i64 1) h fun v70=>
pLoad1 v70 h fun v71=>
asI .i64 v71 fun n72=>
withI (IntKind.wrap .i64 (n69+n72)) fun n73=>
pSliceSl 1 x6 (some (AV.i .i64 1)) none none h fun v75=>
J 4 [(6,v75),(7,(AV.i .i64 n73))] h)
else
(pIdxAddrSl 1 x6 (AV.i .i64 0) h fun v77=>
pLoad1 v77 h fun v78=>
asI .i64 v78 fun n79=>
(bif (decide ((50:Int)≤n79)) then
(pIdxAddrSl 1 x6 (AV.i .i64 0) h fun v81=>
pLoad1 v81 h fun v82=>
asI .i64 v82 fun n83=>
withI (IntKind.wrap .i64 (n83+1900)) fun n84=>
J 4 [(6,x6),(7,(AV.i .i64 n84))] h)
else
(J 4 [(6,x6),(7,(AV.i .i64 n63))] h))))))
theorem Y2.t2_eq (J:JT) (Q:AV→AHeap→Prop) (x4:Int) (x5:List UInt8) (x6:AV) (h:AHeap):Y2.t2 J Q x4 x5 x6 h=atJ prog C 162 J true [1,1,1,1,1,1,1,0,0] Y2.ann Y2.body [(4,(AV.i .i64 x4)),(5,(AV.s x5)),(6,x6)] h (kFun prog Tryz.f55 Q):=by kernel_rfl
theorem Y2.i2 {Q:AV→AHeap→Prop} {x4:Int} {x5:List UInt8} {x6:AV} {h:AHeap} (H:Y2.t2 (Y2.J Q) Q x4 x5 x6 h):Y2.p2 Q x4 x5 x6 h:=Y2.goH (k:=3) (p:=[1,1,1,1,1,1,1,0,0]) (by kernel_rfl) ((Y2.t2_eq (Y2.J Q) Q x4 x5 x6 h).mp H)
def Y2.t4 (J:JT) (Q:AV→AHeap→Prop) (x6:AV) (x7:Int) (x126:Bool) (h:AHeap):Prop:=
(bif x126 then
(Q (AV.tu [(AV.i .i64 0),(AV.b false)]) h)
else
(pIdxAddrSl 1 x6 (AV.i .i64 2) h fun v137=>
pLoad1 v137 h fun v138=>
asI .i64 v138 fun n139=>
C Y50.id [(AV.i .i64 x7)] h fun v140 h141=>
asI .i64 v140 fun n142=>
pLoad1 v137 h141 fun v143=>
asI .i64 v143 fun n144=>
((AV.i .i64 n139)=(AV.i .i64 n144) ∧
(pIdxAddrSl 1 x6 (AV.i .i64 2) h141 fun v145=>
(v137=v145 ∧
(withI (IntKind.wrap .i64 (n142+n139)) fun n146=>
withI (IntKind.wrap .i64 (n146 - 1)) fun n147=>
J 6 [(6,x6),(7,(AV.i .i64 x7)),(8,(AV.i .i64 n147)),(9,(AV.i .i64 1))] h141))))))
theorem Y2.t4_eq (J:JT) (Q:AV→AHeap→Prop) (x6:AV) (x7:Int) (x126:Bool) (h:AHeap):Y2.t4 J Q x6 x7 x126 h=atJ prog C 162 J false [1,1,1,1,1,1,1,1,1,1,0,1] Y2.ann Y2.body [(6,x6),(7,(AV.i .i64 x7)),(126,(AV.b x126))] h (kFun prog Tryz.f55 Q):=by kernel_rfl
theorem Y2.i4 {Q:AV→AHeap→Prop} {x6:AV} {x7:Int} {x126:Bool} {h:AHeap} (H:Y2.t4 (Y2.J Q) Q x6 x7 x126 h):Y2.p4 Q x6 x7 x126 h:=Y2.goR (k:=5) (p:=[1,1,1,1,1,1,1,1,1,1,0,1]) (by kernel_rfl) ((Y2.t4_eq (Y2.J Q) Q x6 x7 x126 h).mp H)
def Y2.t5 (J:JT) (Q:AV→AHeap→Prop) (x6:AV) (x7:Int) (x8:Int) (x9:Int) (h:AHeap):Prop:=
pIdxAddrSl 1 x6 (AV.i .i64 1) h fun v150=>
pLoad1 v150 h fun v151=>
asI .i64 v151 fun n152=>
(bif (decide ((x9:Int)<n152)) then
(C Y32.id [(AV.i .i64 x7),(AV.i .i64 x9)] h fun v156 h157=>
asI .i64 v156 fun n158=>
withI (IntKind.wrap .i64 (x8+n158)) fun n159=>
withI (IntKind.wrap .i64 (x9+1)) fun n161=>
J 6 [(6,x6),(7,(AV.i .i64 x7)),(8,(AV.i .i64 n159)),(9,(AV.i .i64 n161))] h157)
else
(withI (IntKind.wrap .i64 (x8 * 86400)) fun n163=>
pIdxAddrSl 1 x6 (AV.i .i64 3) h fun v164=>
pLoad1 v164 h fun v165=>
asI .i64 v165 fun n166=>
withI (IntKind.wrap .i64 (n166 * 3600)) fun n167=>
withI (IntKind.wrap .i64 (n163+n167)) fun n168=>
pIdxAddrSl 1 x6 (AV.i .i64 4) h fun v169=>
pLoad1 v169 h fun v170=>
asI .i64 v170 fun n171=>
withI (IntKind.wrap .i64 (n171 * 60)) fun n172=>
withI (IntKind.wrap .i64 (n168+n172)) fun n173=>
pIdxAddrSl 1 x6 (AV.i .i64 5) h fun v174=>
pLoad1 v174 h fun v175=>
asI .i64 v175 fun n176=>
withI (IntKind.wrap .i64 (n173+n176)) fun n177=>
Q (AV.tu [(AV.i .i64 n177),(AV.b true)]) h))
theorem Y2.t5_eq (J:JT) (Q:AV→AHeap→Prop) (x6:AV) (x7:Int) (x8:Int) (x9:Int) (h:AHeap):Y2.t5 J Q x6 x7 x8 x9 h=atJ prog C 162 J true [1,1,1,1,1,1,1,1,1,1,1,1,0,1,0] Y2.ann Y2.body [(6,x6),(7,(AV.i .i64 x7)),(8,(AV.i .i64 x8)),(9,(AV.i .i64 x9))] h (kFun prog Tryz.f55 Q):=by kernel_rfl
theorem Y2.i5 {Q:AV→AHeap→Prop} {x6:AV} {x7:Int} {x8:Int} {x9:Int} {h:AHeap} (H:Y2.t5 (Y2.J Q) Q x6 x7 x8 x9 h):Y2.p5 Q x6 x7 x8 x9 h:=Y2.goH (k:=6) (p:=[1,1,1,1,1,1,1,1,1,1,1,1,0,1,0]) (by kernel_rfl) ((Y2.t5_eq (Y2.J Q) Q x6 x7 x8 x9 h).mp H)
def Y2.t3 (J:JT) (Q:AV→AHeap→Prop) (x6:AV) (x7:Int) (h:AHeap):Prop:=
(bif (decide ((x7:Int)<1970)) then
(J 5 [(6,x6),(7,(AV.i .i64 x7)),(126,(AV.b true))] h)
else
(pIdxAddrSl 1 x6 (AV.i .i64 1) h fun v88=>
pLoad1 v88 h fun v89=>
asI .i64 v89 fun n90=>
(bif (decide ((n90:Int)<1)) then
(J 5 [(6,x6),(7,(AV.i .i64 x7)),(126,(AV.b true))] h)
else
(pIdxAddrSl 1 x6 (AV.i .i64 1) h fun v92=>
pLoad1 v92 h fun v93=>
asI .i64 v93 fun n94=>
(bif (decide ((12:Int)<n94)) then
(J 5 [(6,x6),(7,(AV.i .i64 x7)),(126,(AV.b true))] h)
else
(pIdxAddrSl 1 x6 (AV.i .i64 2) h fun v96=>
pLoad1 v96 h fun v97=>
asI .i64 v97 fun n98=>
(bif (decide ((n98:Int)<1)) then
(J 5 [(6,x6),(7,(AV.i .i64 x7)),(126,(AV.b true))] h)
else
(pIdxAddrSl 1 x6 (AV.i .i64 2) h fun v100=>
pLoad1 v100 h fun v101=>
asI .i64 v101 fun n102=>
pIdxAddrSl 1 x6 (AV.i .i64 1) h fun v103=>
pLoad1 v103 h fun v104=>
asI .i64 v104 fun n105=>
C Y32.id [(AV.i .i64 x7),(AV.i .i64 n105)] h fun v106 h107=>
asI .i64 v106 fun n108=>
pIdxAddrSl 1 x6 (AV.i .i64 1) h107 fun v109=>
(v103=v109 ∧
(pLoad1 v100 h107 fun v110=>
asI .i64 v110 fun n111=>
((AV.i .i64 n102)=(AV.i .i64 n111) ∧
(pIdxAddrSl 1 x6 (AV.i .i64 2) h107 fun v112=>
(v100=v112 ∧
(pLoad1 v96 h107 fun v113=>
asI .i64 v113 fun n114=>
((AV.i .i64 n98)=(AV.i .i64 n114) ∧
(pIdxAddrSl 1 x6 (AV.i .i64 2) h107 fun v115=>
(v96=v115 ∧
(pLoad1 v92 h107 fun v116=>
asI .i64 v116 fun n117=>
((AV.i .i64 n94)=(AV.i .i64 n117) ∧
(pIdxAddrSl 1 x6 (AV.i .i64 1) h107 fun v118=>
(v92=v118 ∧
(pLoad1 v88 h107 fun v119=>
asI .i64 v119 fun n120=>
((AV.i .i64 n90)=(AV.i .i64 n120) ∧
(pIdxAddrSl 1 x6 (AV.i .i64 1) h107 fun v121=>
(v88=v121 ∧
((bif (decide ((n108:Int)<n102)) then
(J 5 [(6,x6),(7,(AV.i .i64 x7)),(126,(AV.b true))] h107)
else
(pIdxAddrSl 1 x6 (AV.i .i64 3) h107 fun v123=>
pLoad1 v123 h107 fun v124=>
asI .i64 v124 fun n125=>
(bif (decide ((23:Int)<n125)) then
(J 5 [(6,x6),(7,(AV.i .i64 x7)),(126,(AV.b true))] h107)
else
(pIdxAddrSl 1 x6 (AV.i .i64 4) h107 fun v127=>
pLoad1 v127 h107 fun v128=>
asI .i64 v128 fun n129=>
(bif (decide ((59:Int)<n129)) then
(J 5 [(6,x6),(7,(AV.i .i64 x7)),(126,(AV.b true))] h107)
else
(pIdxAddrSl 1 x6 (AV.i .i64 5) h107 fun v131=>
pLoad1 v131 h107 fun v132=>
asI .i64 v132 fun n133=>
J 5 [(6,x6),(7,(AV.i .i64 x7)),(126,(AV.b (decide ((59:Int)<n133))))] h107))))))))))))))))))))))))))))))))
theorem Y2.t3_eq (J:JT) (Q:AV→AHeap→Prop) (x6:AV) (x7:Int) (h:AHeap):Y2.t3 J Q x6 x7 h=atJ prog C 162 J false [1,1,1,1,1,1,1,1,1,1] Y2.ann Y2.body [(6,x6),(7,(AV.i .i64 x7))] h (kFun prog Tryz.f55 Q):=by kernel_rfl
theorem Y2.i3 {Q:AV→AHeap→Prop} {x6:AV} {x7:Int} {h:AHeap} (H:Y2.t3 (Y2.J Q) Q x6 x7 h):Y2.p3 Q x6 x7 h:=Y2.goR (k:=4) (p:=[1,1,1,1,1,1,1,1,1,1]) (by kernel_rfl) ((Y2.t3_eq (Y2.J Q) Q x6 x7 h).mp H)
def Y2.t0 (J:JT) (Q:AV→AHeap→Prop) (x1:AV) (x4:Int) (h:AHeap):Prop:=
pFieldAddr 3 x1 fun v17=>
pLoad1 v17 h fun v18=>
asS v18 fun l19=>
(bif (!decide (((l19.length:Int):Int)=x4)) then
(J 2 [(1,x1),(4,(AV.i .i64 x4)),(27,(AV.b true))] h)
else
(pFieldAddr 3 x1 fun v21=>
pLoad1 v21 h fun v22=>
asS v22 fun l23=>
withI (IntKind.wrap .i64 (x4 - 1)) fun n24=>
pIdxStr (AV.s l23) (AV.i .i64 n24) fun n25=>
J 2 [(1,x1),(4,(AV.i .i64 x4)),(27,(AV.b (!decide ((n25:Int)=90))))] h))
theorem Y2.t0_eq (J:JT) (Q:AV→AHeap→Prop) (x1:AV) (x4:Int) (h:AHeap):Y2.t0 J Q x1 x4 h=atJ prog C 162 J false [1,1,1] Y2.ann Y2.body [(1,x1),(4,(AV.i .i64 x4))] h (kFun prog Tryz.f55 Q):=by kernel_rfl
theorem Y2.i0 {Q:AV→AHeap→Prop} {x1:AV} {x4:Int} {h:AHeap} (H:Y2.t0 (Y2.J Q) Q x1 x4 h):Y2.p0 Q x1 x4 h:=Y2.goR (k:=1) (p:=[1,1,1]) (by kernel_rfl) ((Y2.t0_eq (Y2.J Q) Q x1 x4 h).mp H)
def Y2.t (J:JT) (Q:AV→AHeap→Prop) (x0:AV) (h:AHeap):Prop:=
pBox (some 33) x0 h fun v0 h1=>
pLoadN 5 v0 h1 fun v4=>
C Y29.id [v4,(AV.i .i64 24)] h1 fun v5 h6=>
asB v5 fun c7=>
(bif c7 then
(J 1 [(1,v0),(4,(AV.i .i64 15))] h6)
else
(pLoadN 5 v0 h6 fun v10=>
C Y29.id [v10,(AV.i .i64 23)] h6 fun v11 h12=>
asB v11 fun c13=>
(bif (!c13) then
(Q (AV.tu [(AV.i .i64 0),(AV.b false)]) h12)
else
(J 1 [(1,v0),(4,(AV.i .i64 13))] h12))))
theorem Y2.t_eq (J:JT) (Q:AV→AHeap→Prop) (x0:AV) (h:AHeap):Y2.t J Q x0 h=exJ prog C 162 J Y2.ann Y2.body (initEnv 0 [x0]) h (kFun prog Tryz.f55 Q):=by kernel_rfl
theorem Y2.call {K:AV→AHeap→Prop} {x0:AV} {h:AHeap} (H:Y2.t (Y2.J (kRet h K)) (kRet h K) x0 h):C Y2.id [x0] h K:=
  callJ (P:=prog) (fn:=Tryz.f55) (ann:=Y2.ann) (body:=Y2.body) Tryz.func55 Y2.body_eq (by kernel_rfl) Y2.dist (by kernel_rfl) ((Y2.t_eq (Y2.J (kRet h K)) (kRet h K) x0 h).mp H)
noncomputable def Y71.body:Code:=(Tryz.f56.body).getD .skip
def Y71.ann:Ann:=(.seq 0 [0,1] .leaf (.seq 0 [4] .leaf .leaf))
theorem Y71.body_eq:Tryz.f56.body=some Y71.body:=by kernel_rfl
theorem Y71.dist:noTwice (places Y71.ann Y71.body)=true:=by kernel_rfl
noncomputable def Y71.J (Q:AV→AHeap→Prop):JT:=funJ prog C Tryz.f56 Y71.ann Y71.body Q
def Y71.t (J:JT) (Q:AV→AHeap→Prop) (x0:List UInt8) (x1:List UInt8) (h:AHeap):Prop:=
C Y35.id [(AV.s x0),(AV.s x1)] h fun v1 h2=>
asB v1 fun c3=>
Q (AV.b c3) h2
theorem Y71.t_eq (J:JT) (Q:AV→AHeap→Prop) (x0:List UInt8) (x1:List UInt8) (h:AHeap):Y71.t J Q x0 x1 h=exJ prog C 8 J Y71.ann Y71.body (initEnv 0 [(AV.s x0),(AV.s x1)]) h (kFun prog Tryz.f56 Q):=by kernel_rfl
theorem Y71.call {K:AV→AHeap→Prop} {x0:List UInt8} {x1:List UInt8} {h:AHeap} (H:Y71.t (Y71.J (kRet h K)) (kRet h K) x0 x1 h):C Y71.id [(AV.s x0),(AV.s x1)] h K:=
  callJ (P:=prog) (fn:=Tryz.f56) (ann:=Y71.ann) (body:=Y71.body) Tryz.func56 Y71.body_eq (by kernel_rfl) Y71.dist (by kernel_rfl) ((Y71.t_eq (Y71.J (kRet h K)) (kRet h K) x0 x1 h).mp H)
end Go.Proofs.YtcdkpkkdolmfdaaGreatDoor
