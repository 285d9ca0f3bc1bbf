/- Lemmas (several texts in one). -/
import Derived.Test.YtpaphfeihpgamaaDoorProg
import Derived.KernelRfl
import Derived.Test.YtpaphfeihpgamaaDoorMg1
set_option linter.unusedVariables false
set_option linter.unusedSectionVars false
set_option maxRecDepth 100000
namespace Go.Proofs.YtpaphfeihpgamaaDoor
open Go.GAM
noncomputable abbrev prog:Program:=Tryd.prog
class XR where
 X:aZ
abbrev X [XR]:aZ:=XR.X
abbrev C [XR]:aZ:=dV prog X
abbrev lf:Ann:=.leaf
def nn:Nat→Nat→Go.GAM.Ord→Go.GAM.Ord
 | _,0,o=>o
 | i,k+1,o=>.neu i (nn (i+1) k o)
abbrev bl:Ann:=.br .leaf .leaf
abbrev sl (l:List Nat) (x:Ann):Ann:=.seq 0 l .leaf x
abbrev sq (l:List Nat) (x y:Ann):Ann:=.seq 0 l x y
theorem gR [XR] {ann:Ann} {body:Code} (J:(AV→aA→Prop)→JT) (fn:Func) (hd:aI (places ann body)=true) {Q:AV→aA→Prop} {k:Nat} (p:List Nat) {e:Env} {h:aA} {a:JT→Prop} (H:a (J Q)) (hJ:J=bJ prog C fn ann body:=by exact rfl) (hl:jF (places ann body) k=some (p,false):=by kernel_rfl) (he:∀ j,a j=atJ prog C fn.ntmps j false p ann body e h (oX prog fn Q):=by intro j; kernel_rfl):J Q k e h:=by
 subst hJ
 exact aEY (hZ X) hd hl (he _ ▸ H)
theorem gH [XR] {ann:Ann} {body:Code} (J:(AV→aA→Prop)→JT) (fn:Func) (hd:aI (places ann body)=true) {Q:AV→aA→Prop} {k:Nat} (p:List Nat) {e:Env} {h:aA} {a:JT→Prop} (H:a (J Q)) (hJ:J=bJ prog C fn ann body:=by exact rfl) (hl:jF (places ann body) k=some (p,true):=by kernel_rfl) (he:∀ j,a j=atJ prog C fn.ntmps j true p ann body e h (oX prog fn Q):=by intro j; kernel_rfl):J Q k e h:=by
 subst hJ
 exact aDF (hZ X) hd hl (he _ ▸ H)
theorem gC [XR] {f:FuncId} {fn:Func} {ann:Ann} {body:Code} (J:(AV→aA→Prop)→JT) (hf:prog.funcs[f]? = some fn) (hd:aI (places ann body)=true) {args:List AV} {h:aA} {K:AV→aA→Prop} {a:JT→Prop} (H:a (J (aH h K))) (hJ:J=bJ prog C fn ann body:=by exact rfl) (hb:fn.body=some body:=by kernel_rfl) (hn:(fn.name == "runtime.NumGoroutine")=false:=by kernel_rfl) (ha:Nat.ble args.length fn.ntmps=true:=by kernel_rfl) (he:∀ j,a j=exJ prog C fn.ntmps j ann body (eL 0 args) h (oX prog fn (aH h K)):=by intro j; kernel_rfl):C f args h K:=by
 subst hJ
 exact aHJ hf hb hn hd ha (he _ ▸ H)
abbrev Y40.id:FuncId:=3
abbrev Y35.id:FuncId:=9
abbrev Y48.id:FuncId:=10
abbrev Y65.id:FuncId:=11
abbrev Y28.id:FuncId:=12
abbrev Y55.id:FuncId:=14
abbrev Y77.id:FuncId:=16
abbrev Y1.id:FuncId:=17
abbrev Y54.id:FuncId:=25
abbrev Y9.id:FuncId:=26
abbrev Y39.id:FuncId:=27
abbrev Y34.id:FuncId:=28
abbrev Y69.id:FuncId:=29
abbrev Y19.id:FuncId:=30
abbrev Y16.id:FuncId:=31
abbrev Y20.id:FuncId:=32
abbrev Y14.id:FuncId:=33
abbrev Y70.id:FuncId:=37
abbrev Y79.id:FuncId:=38
abbrev Y57.id:FuncId:=41
abbrev Y53.id:FuncId:=42
abbrev Y3.id:FuncId:=43
abbrev Y22.id:FuncId:=44
abbrev Y21.id:FuncId:=45
abbrev Y17.id:FuncId:=50
abbrev Y31.id:FuncId:=51
abbrev Y59.id:FuncId:=52
abbrev Y25.id:FuncId:=53
abbrev Y23.id:FuncId:=54
abbrev Y12.id:FuncId:=55
abbrev Y4.id:FuncId:=56
abbrev Y2.id:FuncId:=57
abbrev Y67.id:FuncId:=58
abbrev Y30.id:FuncId:=59
abbrev Y0.id:FuncId:=60
abbrev Y37.id:FuncId:=61
abbrev Y42.id:FuncId:=62
abbrev Y6.id:FuncId:=63
abbrev Y27.id:FuncId:=64
abbrev Y51.id:FuncId:=65
abbrev Y52.id:FuncId:=66
abbrev Y43.id:FuncId:=67
abbrev Y44.id:FuncId:=68
abbrev Y8.id:FuncId:=69
abbrev Y41.id:FuncId:=70
abbrev Y72.id:FuncId:=71
abbrev Y63.id:FuncId:=72
abbrev Y84.id:FuncId:=73
abbrev Y73.id:FuncId:=74
abbrev Y24.id:FuncId:=75
abbrev Y10.id:FuncId:=79
abbrev Y15.id:FuncId:=80
abbrev Y32.id:FuncId:=81
abbrev Y46.id:FuncId:=82
abbrev Y29.id:FuncId:=83
abbrev Y7.id:FuncId:=84
abbrev Y45.id:FuncId:=85
abbrev Y89.id:FuncId:=86
abbrev Y88.id:FuncId:=87
abbrev Y64.id:FuncId:=88
abbrev Y86.id:FuncId:=89
abbrev Y62.id:FuncId:=90
abbrev Y83.id:FuncId:=91
abbrev Y58.id:FuncId:=92
abbrev Y56.id:FuncId:=93
abbrev Y66.id:FuncId:=94
abbrev Y71.id:FuncId:=95
abbrev Y76.id:FuncId:=96
abbrev Y61.id:FuncId:=97
abbrev Y11.id:FuncId:=100
abbrev Y18.id:FuncId:=101
abbrev Y85.id:FuncId:=104
abbrev Y36.id:FuncId:=105
abbrev Y78.id:FuncId:=106
abbrev Y26.id:FuncId:=107
abbrev Y13.id:FuncId:=108
abbrev Y50.id:FuncId:=109
abbrev Y47.id:FuncId:=110
abbrev Y74.id:FuncId:=111
abbrev Y87.id:FuncId:=112
abbrev Y49.id:FuncId:=113
abbrev Y82.id:FuncId:=114
abbrev Y68.id:FuncId:=115
abbrev Y81.id:FuncId:=116
abbrev Y75.id:FuncId:=117
abbrev Y33.id:FuncId:=118
abbrev Y60.id:FuncId:=119
abbrev Y80.id:FuncId:=120
abbrev Y38.id:FuncId:=121
variable [XR]
noncomputable def Y35.body:Code:=(Tryd.f9.body).getD .skip
def Y35.ann:Ann:=(sl [] (sl [1,2] (sl [1,2,4] (.seq 1 [0] lf lf))))
theorem Y35.dist:aI (places Y35.ann Y35.body)=true:=by kernel_rfl
noncomputable def Y35.J (Q:AV→aA→Prop):JT:=bJ prog C Tryd.f9 Y35.ann Y35.body Q
def Y35.p0 (Q:AV→aA→Prop) (x0:Bool) (h:aA):Prop:=Y35.J Q 1 [(0,(AV.b x0))] h
def Y35.t0 (Q:AV→aA→Prop) (x0:Bool) (h:aA) (J:JT):Prop:=
Q (AV.b x0) h
theorem Y35.i0 {Q x0 h} (H:Y35.t0 Q x0 h (Y35.J Q)):Y35.p0 Q x0 h:=gR Y35.J Tryd.f9 Y35.dist [1,1,1,1] H
def Y35.t (Q:AV→aA→Prop) (h:aA) (J:JT):Prop:=
C Y54.id [] h fun v1 h2=>
C Y48.id [(AV.s [75,4,0]),v1] h2 fun v3 h4=>
aL 0 v3 fun v5=>
asS v5 fun l6=>
aL 1 v3 fun v7=>
asI .i64 v7 fun n8=>
C Y54.id [] h4 fun v10 h11=>
C Y48.id [(AV.s [75,4]),v10] h11 fun v12 h13=>
aL 0 v12 fun v14=>
asS v14 fun l15=>
aL 1 v12 fun v16=>
asI .i64 v16 fun n17=>
(bif (decide ((l6:List UInt8)=[97])) then
((bif (decide ((n8:Int)=0)) then
((bif (decide ((n17:Int)=1)) then
(C Y28.id [(AV.s [97])] h13 fun v19 h20=>
asS v19 fun l21=>
(bif (decide ((l21:List UInt8)=[1,1,0,254,255,97])) then
(C Y55.id [(AV.s [97])] h20 fun v22 h23=>
asS v22 fun l24=>
(bif (decide ((l24:List UInt8)=[75,4,0])) then
(C Y55.id [(AV.s [97,97,97,97,97,97])] h23 fun v25 h26=>
asS v25 fun l27=>
J 1 [(0,(AV.b (decide ((l27:List UInt8)=[75,4,3,0]))))] h26)
else
(J 1 [(0,(AV.b false))] h23)))
else
(J 1 [(0,(AV.b false))] h20)))
else
(J 1 [(0,(AV.b false))] h13)))
else
(J 1 [(0,(AV.b false))] h13)))
else
(J 1 [(0,(AV.b false))] h13))
theorem Y35.call {K h} (H:Y35.t (aH h K) h (Y35.J (aH h K))):C Y35.id [] h K:=
 gC Y35.J Tryd.func9 Y35.dist H
noncomputable def Y48.body:Code:=(Tryd.f10.body).getD .skip
def Y48.ann:Ann:=(sl [0,3] (sl [0,6] (sl [6,7,8] (sq [7] (.one (sl [6,7,8,17] (.br (sl [4,5] lf) (sl [6,7,21] (.br (sl [4,5] lf) (sl [7,27] (.br (sl [4,5] lf) lf))))))) (sl [4,5] lf)))))
theorem Y48.dist:aI (places Y48.ann Y48.body)=true:=by kernel_rfl
noncomputable def Y48.J (Q:AV→aA→Prop):JT:=bJ prog C Tryd.f10 Y48.ann Y48.body Q
def Y48.t (Q:AV→aA→Prop) (x0:List UInt8) (x1:AV) (h:aA) (J:JT):Prop:=
cZ (some 23) x1 h fun v0 h1=>
dG 2 v0 h1 fun v3=>
C Y77.id [v3] h1 fun v4 h5=>
C Y1.id [v4,(AV.s x0)] h5 fun v7 h8=>
aL 0 v7 fun v9=>
asS v9 fun l10=>
aL 1 v7 fun v11=>
asI .i64 v11 fun n12=>
(bif (!decide ((n12:Int)=0)) then
(Q (AV.tu [(AV.s []),(AV.i .i64 n12)]) h8)
else
(aU v4 fun v16=>
aC 7 v16 fun v17=>
aD v17 h8 fun v18=>
asB v18 fun c19=>
(bif (!c19) then
(Q (AV.tu [(AV.s []),(AV.i .i64 1)]) h8)
else
(aU v4 fun v22=>
aC 10 v22 fun v23=>
aD v23 h8 fun v24=>
asS v24 fun l25=>
(bif (!(decide ((l25:List UInt8)=[]))) then
(Q (AV.tu [(AV.s []),(AV.i .i64 2)]) h8)
else
(Q (AV.tu [(AV.s l10),(AV.i .i64 0)]) h8))))))
theorem Y48.call {K x0 x1 h} (H:Y48.t (aH h K) x0 x1 h (Y48.J (aH h K))):C Y48.id [(AV.s x0),x1] h K:=
 gC Y48.J Tryd.func10 Y48.dist H
noncomputable def Y65.body:Code:=(Tryd.f11.body).getD .skip
def Y65.ann:Ann:=(sl [0,3] (sl [0,6,7,8] (sq [0,6,8] (sl [0,6,7,8,17] (.br (sl [4,5] lf) lf)) (sq [6] (sl [6,22] (.br (sl [4,5] lf) lf)) (sl [4,5] lf)))))
theorem Y65.dist:aI (places Y65.ann Y65.body)=true:=by kernel_rfl
noncomputable def Y65.J (Q:AV→aA→Prop):JT:=bJ prog C Tryd.f11 Y65.ann Y65.body Q
def Y65.t (Q:AV→aA→Prop) (x0:List UInt8) (x1:AV) (h:aA) (J:JT):Prop:=
cZ (some 23) x1 h fun v0 h1=>
dG 2 v0 h1 fun v3=>
C Y9.id [(AV.s x0),v3] h1 fun v4 h5=>
aL 0 v4 fun v6=>
asS v6 fun l7=>
aL 1 v4 fun v8=>
asI .i64 v8 fun n9=>
aL 2 v4 fun v10=>
asI .i64 v10 fun n11=>
(bif (!decide ((n9:Int)=0)) then
(Q (AV.tu [(AV.s []),(AV.i .i64 n9)]) h5)
else
((bif (decide ((n11:Int)<(x0.length:Int))) then
(Q (AV.tu [(AV.s []),(AV.i .i64 2)]) h5)
else
(Q (AV.tu [(AV.s l7),(AV.i .i64 0)]) h5))))
theorem Y65.call {K x0 x1 h} (H:Y65.t (aH h K) x0 x1 h (Y65.J (aH h K))):C Y65.id [(AV.s x0),x1] h K:=
 gC Y65.J Tryd.func11 Y65.dist H
noncomputable def Y28.body:Code:=(Tryd.f12.body).getD .skip
def Y28.ann:Ann:=(sl [0] (sl [0,3] (.one (.loop 1 [0,3] (.one (sl [0,3,4] (sl [0,3,4,5] (.seq 2 [0,3,4,5] (sl [0,3,4,5,12] bl) (sl [0,3,4,5] (sl [0,3,4,5] (sl [0,3,5] (sl [0,3,36] (.br (sl [2] lf) lf)))))))))))))
theorem Y28.dist:aI (places Y28.ann Y28.body)=true:=by kernel_rfl
noncomputable def Y28.J (Q:AV→aA→Prop):JT:=bJ prog C Tryd.f12 Y28.ann Y28.body Q
def Y28.p1 (Q:AV→aA→Prop) (x0:List UInt8) (x3:AV) (x4 x5:Int) (h:aA):Prop:=Y28.J Q 2 [(0,(AV.s x0)),(3,x3),(4,(AV.i .i64 x4)),(5,(AV.i .u8 x5))] h
def Y28.p0 (Q:AV→aA→Prop) (x0:List UInt8) (x3:AV) (h:aA):Prop:=Y28.J Q 1 [(0,(AV.s x0)),(3,x3)] h
def Y28.t1 (Q:AV→aA→Prop) (x0:List UInt8) (x3:AV) (x4 x5:Int) (h:aA) (J:JT):Prop:=
kU .i64 x4 8 fun n10=>
aJ (bN .xor .u8 (IntKind.max .u8) (IntKind.wrap .u8 x4)) fun n11=>
kU .i64 x4 8 fun n12=>
aJ (bN .xor .u8 (IntKind.max .u8) (IntKind.wrap .u8 n12)) fun n13=>
bM 1 5 [(AV.i .u8 0),(AV.i .u8 0),(AV.i .u8 0),(AV.i .u8 0),(AV.i .u8 0)] [(0,1,(AV.i .u8 x5)),(1,1,(AV.i .u8 (IntKind.wrap .u8 x4))),(2,1,(AV.i .u8 (IntKind.wrap .u8 n10))),(3,1,(AV.i .u8 n11)),(4,1,(AV.i .u8 n13))] h fun v14 h15=>
C Y39.id [x3,v14] h15 fun v16 h17=>
cD (AV.s x0) none (some (AV.i .i64 x4)) fun l19=>
C Y34.id [x3,(AV.s l19)] h17 fun v20 h21=>
cD (AV.s x0) (some (AV.i .i64 x4)) none fun l23=>
(bif (decide ((x5:Int)=1)) then
(C Y69.id [x3] h21 fun v26 h27=>
asS v26 fun l28=>
Q (AV.s l28) h27)
else
(J 1 [(0,(AV.s l23)),(3,x3)] h21))
theorem Y28.i1 {Q x0 x3 x4 x5 h} (H:Y28.t1 Q x0 x3 x4 x5 h (Y28.J Q)):Y28.p1 Q x0 x3 x4 x5 h:=gR Y28.J Tryd.f12 Y28.dist [1,1,0,0,0,1,1,1] H
def Y28.t0 (Q:AV→aA→Prop) (x0:List UInt8) (x3:AV) (h:aA) (J:JT):Prop:=
aJ (mmI false (x0.length:Int) 65535) fun n4=>
(bif (decide ((n4:Int)=(x0.length:Int))) then
(J 2 [(0,(AV.s x0)),(3,x3),(4,(AV.i .i64 n4)),(5,(AV.i .u8 1))] h)
else
(J 2 [(0,(AV.s x0)),(3,x3),(4,(AV.i .i64 n4)),(5,(AV.i .u8 0))] h))
theorem Y28.i0 {Q x0 x3 h} (H:Y28.t0 Q x0 x3 h (Y28.J Q)):Y28.p0 Q x0 x3 h:=gH Y28.J Tryd.f12 Y28.dist [1,1,0] H
def Y28.t (Q:AV→aA→Prop) (x0:List UInt8) (h:aA) (J:JT):Prop:=
dD (some 53) [(AV.sl none 0 none),(AV.i .i64 0),(AV.i .i8 0)] h fun v1 h2=>
J 1 [(0,(AV.s x0)),(3,v1)] h2
theorem Y28.call {K x0 h} (H:Y28.t (aH h K) x0 h (Y28.J (aH h K))):C Y28.id [(AV.s x0)] h K:=
 gC Y28.J Tryd.func12 Y28.dist H
noncomputable def Y55.body:Code:=(Tryd.f14.body).getD .skip
def Y55.ann:Ann:=(sl [0] (sl [0,3] (sl [0,3] (sl [0,3,4,5] (sl [3] (sl [2] lf))))))
theorem Y55.dist:aI (places Y55.ann Y55.body)=true:=by kernel_rfl
noncomputable def Y55.J (Q:AV→aA→Prop):JT:=bJ prog C Tryd.f14 Y55.ann Y55.body Q
def Y55.t (Q:AV→aA→Prop) (x0:List UInt8) (h:aA) (J:JT):Prop:=
cZ (some 62) (AV.ag [(AV.sl none 0 none),(AV.i .i64 0)]) h fun v1 h2=>
C Y19.id [v1,(AV.i .i64 3),(AV.i .i64 3)] h2 fun v4 h5=>
C Y16.id [] h5 fun v7 h8=>
aL 0 v7 fun v9=>
aL 1 v7 fun v10=>
C Y14.id [(AV.s x0)] h8 fun v12 h13=>
C Y20.id [v1,v12,v9,v10] h13 fun v14 h15=>
aU v1 fun v17=>
aC 0 v17 fun v18=>
aD v18 h15 fun v19=>
cJ v19 h15 fun l20=>
Q (AV.s l20) h15
theorem Y55.call {K x0 h} (H:Y55.t (aH h K) x0 h (Y55.J (aH h K))):C Y55.id [(AV.s x0)] h K:=
 gC Y55.J Tryd.func14 Y55.dist H
noncomputable def Y77.body:Code:=(Tryd.f16.body).getD .skip
def Y77.ann:Ann:=(sl [1] (sq [3] (.ord (nn 0 2 (nn 3 2 (.eff 2 (.eff 5 (nn 6 2 (.eff 8 (.neu 9 .done) .stop)) .stop) .stop)))) (sl [3] (sl [2] lf))))
theorem Y77.dist:aI (places Y77.ann Y77.body)=true:=by kernel_rfl
noncomputable def Y77.J (Q:AV→aA→Prop):JT:=bJ prog C Tryd.f16 Y77.ann Y77.body Q
def Y77.t (Q:AV→aA→Prop) (x0:AV) (h:aA) (J:JT):Prop:=
cZ (some 23) x0 h fun v0 h1=>
aC 0 v0 fun v3=>
aD v3 h1 fun v4=>
asI .i64 v4 fun n5=>
aC 1 v0 fun v6=>
aD v6 h1 fun v7=>
asI .i64 v7 fun n8=>
C Y57.id [(AV.i .i64 n5),(AV.i .i64 0),(AV.i .i64 65536)] h1 fun v9 h10=>
asI .i64 v9 fun n11=>
aD v6 h10 fun v12=>
asI .i64 v12 fun n13=>
((AV.i .i64 n8)=(AV.i .i64 n13) ∧
(C Y57.id [(AV.i .i64 n8),(AV.i .i64 1),(AV.i .i64 1100)] h10 fun v14 h15=>
asI .i64 v14 fun n16=>
gQ [(AV.i .i64 0),(AV.i .i64 0),(AV.sl none 0 none),(AV.i .i64 0),(AV.sl none 0 none),(AV.i .i64 0),(AV.b false),(AV.b false),(AV.b false),(AV.b false),(AV.s []),(AV.i .i64 0),(AV.i .i64 0),(AV.i .i64 0),(AV.p none),AV.nf] [(0,2,(AV.ag [(AV.i .i64 n11),(AV.i .i64 n16)]))] fun v17=>
cZ (some 47) v17 h15 fun v18 h19=>
C Y53.id [v18] h19 fun v21 h22=>
asI .i64 v21 fun n23=>
Q v18 h22))
theorem Y77.call {K x0 h} (H:Y77.t (aH h K) x0 h (Y77.J (aH h K))):C Y77.id [x0] h K:=
 gC Y77.J Tryd.func16 Y77.dist H
noncomputable def Y1.body:Code:=(Tryd.f17.body).getD .skip
def Y1.ann:Ann:=(sl [0,1] (sq [0,1] (.one (sl [0,1,9] (.br (sl [4,5] lf) (.seq 1 [0,1,12] lf (.br (sl [4,5] lf) lf))))) (sl [0,1] (.seq 5 [0] (sl [0,1,27,28] (.one (.loop 2 [0,1,27,28] (sl [0,1,27,28,29] (sq [0,1,27,28] bl (sq [0,1,27,28] (.one (sl [0,1,6,27,28] (sl [0,1,6,27,28] (sl [0,1,6,27,28] (sq [0,1,6,27,28] (sl [0,1,6,7,27,28] (.one (.loop 3 [0,1,6,7,27,28] (sq [0,1,6,7,27,28] (.seq 4 [0,1,6,7,27,28,56] lf bl) (sq [0,1,6,7,27,28] (.one (sl [0,1,6,7,8,27,28] (sl [0,1,6,7,8,27,28,69] (.br (sl [0,8] (sl [4,5] lf)) lf)))) lf))))) (sl [0,1,6,27,28,82] (.br (sl [0] lf) lf))))))) lf)))))) (sl [4,5] lf)))))
theorem Y1.dist:aI (places Y1.ann Y1.body)=true:=by kernel_rfl
noncomputable def Y1.J (Q:AV→aA→Prop):JT:=bJ prog C Tryd.f17 Y1.ann Y1.body Q
def Y1.p0 (Q:AV→aA→Prop) (x0:AV) (x1:List UInt8) (x12:Bool) (h:aA):Prop:=Y1.J Q 1 [(0,x0),(1,(AV.s x1)),(12,(AV.b x12))] h
def Y1.p3 (Q:AV→aA→Prop) (x0:AV) (x1:List UInt8) (x6 x7 x27 x28:Int) (x56:Bool) (h:aA):Prop:=Y1.J Q 4 [(0,x0),(1,(AV.s x1)),(6,(AV.i .i64 x6)),(7,(AV.i .i64 x7)),(27,(AV.i .i64 x27)),(28,(AV.i .i64 x28)),(56,(AV.b x56))] h
def Y1.p2 (Q:AV→aA→Prop) (x0:AV) (x1:List UInt8) (x6 x7 x27 x28:Int) (h:aA):Prop:=Y1.J Q 3 [(0,x0),(1,(AV.s x1)),(6,(AV.i .i64 x6)),(7,(AV.i .i64 x7)),(27,(AV.i .i64 x27)),(28,(AV.i .i64 x28))] h
def Y1.p1 (Q:AV→aA→Prop) (x0:AV) (x1:List UInt8) (x27 x28:Int) (h:aA):Prop:=Y1.J Q 2 [(0,x0),(1,(AV.s x1)),(27,(AV.i .i64 x27)),(28,(AV.i .i64 x28))] h
def Y1.p4 (Q:AV→aA→Prop) (x0:AV) (h:aA):Prop:=Y1.J Q 5 [(0,x0)] h
def Y1.t0 (Q:AV→aA→Prop) (x0:AV) (x1:List UInt8) (x12:Bool) (h:aA) (J:JT):Prop:=
(bif x12 then
(Q (AV.tu [(AV.s []),(AV.i .i64 10)]) h)
else
(aU x0 fun v17=>
aC 4 v17 fun v18=>
aT 1 v18 (AV.sl none 0 none) h fun h19=>
J 2 [(0,x0),(1,(AV.s x1)),(27,(AV.i .i64 (x1.length:Int))),(28,(AV.i .i64 0))] h19))
theorem Y1.i0 {Q x0 x1 x12 h} (H:Y1.t0 Q x0 x1 x12 h (Y1.J Q)):Y1.p0 Q x0 x1 x12 h:=gR Y1.J Tryd.f17 Y1.dist [1,0,0,1,1,1] H
def Y1.t3 (Q:AV→aA→Prop) (x0:AV) (x1:List UInt8) (x6 x7 x27 x28:Int) (x56:Bool) (h:aA) (J:JT):Prop:=
(bif x56 then
(eY (AV.s x1) (AV.i .i64 x6) fun n53=>
kU .i64 (IntKind.wrap .i64 n53) x7 fun n54=>
C Y3.id [x0,(AV.i .i64 (bN .and .i64 n54 1))] h fun v55 h56=>
asI .i64 v55 fun n57=>
(bif (!decide ((n57:Int)=0)) then
(aU x0 fun v60=>
aC 8 v60 fun v61=>
aT 1 v61 (AV.b true) h56 fun h62=>
aU x0 fun v64=>
aC 4 v64 fun v65=>
aD v65 h62 fun v66=>
cJ v66 h62 fun l67=>
Q (AV.tu [(AV.s l67),(AV.i .i64 n57)]) h62)
else
(aJ (IntKind.wrap .i64 (x7+1)) fun n70=>
J 3 [(0,x0),(1,(AV.s x1)),(6,(AV.i .i64 x6)),(7,(AV.i .i64 n70)),(27,(AV.i .i64 x27)),(28,(AV.i .i64 x28))] h56)))
else
(aU x0 fun v72=>
aC 7 v72 fun v73=>
aD v73 h fun v74=>
asB v74 fun c75=>
(bif c75 then
(aJ (IntKind.wrap .i64 (x6+1)) fun n77=>
cD (AV.s x1) (some (AV.i .i64 n77)) none fun l78=>
aU x0 fun v79=>
aC 10 v79 fun v80=>
aT 1 v80 (AV.s l78) h fun h81=>
J 5 [(0,x0)] h81)
else
(aJ (IntKind.wrap .i64 (x28+1)) fun n85=>
J 2 [(0,x0),(1,(AV.s x1)),(27,(AV.i .i64 x27)),(28,(AV.i .i64 n85))] h))))
theorem Y1.i3 {Q x0 x1 x6 x7 x27 x28 x56 h} (H:Y1.t3 Q x0 x1 x6 x7 x27 x28 x56 h (Y1.J Q)):Y1.p3 Q x0 x1 x6 x7 x27 x28 x56 h:=gR Y1.J Tryd.f17 Y1.dist [1,1,1,0,1,0,0,1,1,0,0,1,1,1,0,1,0,0,0,1] H
def Y1.t2 (Q:AV→aA→Prop) (x0:AV) (x1:List UInt8) (x6 x7 x27 x28:Int) (h:aA) (J:JT):Prop:=
(bif (decide ((x7:Int)<8)) then
(aU x0 fun v40=>
aC 9 v40 fun v41=>
aD v41 h fun v42=>
asB v42 fun c43=>
(bif (!c43) then
(aU x0 fun v44=>
aC 7 v44 fun v45=>
aD v45 h fun v46=>
asB v46 fun c47=>
J 4 [(0,x0),(1,(AV.s x1)),(6,(AV.i .i64 x6)),(7,(AV.i .i64 x7)),(27,(AV.i .i64 x27)),(28,(AV.i .i64 x28)),(56,(AV.b (!c47)))] h)
else
(J 4 [(0,x0),(1,(AV.s x1)),(6,(AV.i .i64 x6)),(7,(AV.i .i64 x7)),(27,(AV.i .i64 x27)),(28,(AV.i .i64 x28)),(56,(AV.b false))] h)))
else
(J 4 [(0,x0),(1,(AV.s x1)),(6,(AV.i .i64 x6)),(7,(AV.i .i64 x7)),(27,(AV.i .i64 x27)),(28,(AV.i .i64 x28)),(56,(AV.b false))] h))
theorem Y1.i2 {Q x0 x1 x6 x7 x27 x28 h} (H:Y1.t2 Q x0 x1 x6 x7 x27 x28 h (Y1.J Q)):Y1.p2 Q x0 x1 x6 x7 x27 x28 h:=gH Y1.J Tryd.f17 Y1.dist [1,1,1,0,1,0,0,1,1,0,0,1,1,1,0,1,0] H
def Y1.t1 (Q:AV→aA→Prop) (x0:AV) (x1:List UInt8) (x27 x28:Int) (h:aA) (J:JT):Prop:=
(bif (decide ((x28:Int)<x27)) then
(aU x0 fun v26=>
aC 5 v26 fun v27=>
aD v27 h fun v28=>
asI .i64 v28 fun n29=>
aJ (IntKind.wrap .i64 (n29+1)) fun n30=>
aU x0 fun v31=>
aC 5 v31 fun v32=>
aT 1 v32 (AV.i .i64 n30) h fun h33=>
aU x0 fun v35=>
aC 9 v35 fun v36=>
aT 1 v36 (AV.b false) h33 fun h37=>
J 3 [(0,x0),(1,(AV.s x1)),(6,(AV.i .i64 x28)),(7,(AV.i .i64 0)),(27,(AV.i .i64 x27)),(28,(AV.i .i64 x28))] h37)
else
(J 5 [(0,x0)] h))
theorem Y1.i1 {Q x0 x1 x27 x28 h} (H:Y1.t1 Q x0 x1 x27 x28 h (Y1.J Q)):Y1.p1 Q x0 x1 x27 x28 h:=gH Y1.J Tryd.f17 Y1.dist [1,1,1,0,1,0] H
def Y1.t4 (Q:AV→aA→Prop) (x0:AV) (h:aA) (J:JT):Prop:=
aU x0 fun v87=>
aC 4 v87 fun v88=>
aD v88 h fun v89=>
cJ v89 h fun l90=>
Q (AV.tu [(AV.s l90),(AV.i .i64 0)]) h
theorem Y1.i4 {Q x0 h} (H:Y1.t4 Q x0 h (Y1.J Q)):Y1.p4 Q x0 h:=gR Y1.J Tryd.f17 Y1.dist [1,1,1,1] H
def Y1.t (Q:AV→aA→Prop) (x0:AV) (x1:List UInt8) (h:aA) (J:JT):Prop:=
d7 prog .eql 32 x0 (AV.p none) fun v1=>
asB v1 fun c2=>
(bif c2 then
(Q (AV.tu [(AV.s []),(AV.i .i64 6)]) h)
else
(aU x0 fun v5=>
aC 8 v5 fun v6=>
aD v6 h fun v7=>
asB v7 fun c8=>
(bif c8 then
(J 1 [(0,x0),(1,(AV.s x1)),(12,(AV.b true))] h)
else
(aU x0 fun v10=>
aC 7 v10 fun v11=>
aD v11 h fun v12=>
asB v12 fun c13=>
J 1 [(0,x0),(1,(AV.s x1)),(12,(AV.b c13))] h))))
theorem Y1.call {K x0 x1 h} (H:Y1.t (aH h K) x0 x1 h (Y1.J (aH h K))):C Y1.id [x0,(AV.s x1)] h K:=
 gC Y1.J Tryd.func17 Y1.dist H
noncomputable def Y54.body:Code:=(Tryd.f25.body).getD .skip
def Y54.ann:Ann:=(sl [0] (sl [0] lf))
theorem Y54.dist:aI (places Y54.ann Y54.body)=true:=by kernel_rfl
noncomputable def Y54.J (Q:AV→aA→Prop):JT:=bJ prog C Tryd.f25 Y54.ann Y54.body Q
def Y54.t (Q:AV→aA→Prop) (h:aA) (J:JT):Prop:=
dD (some 23) [(AV.i .i64 0),(AV.i .i64 0)] h fun v0 h1=>
aT 2 v0 (AV.ag [(AV.i .i64 65536),(AV.i .i64 1100)]) h1 fun h3=>
dG 2 v0 h3 fun v5=>
Q v5 h3
theorem Y54.call {K h} (H:Y54.t (aH h K) h (Y54.J (aH h K))):C Y54.id [] h K:=
 gC Y54.J Tryd.func25 Y54.dist H
noncomputable def Y9.body:Code:=(Tryd.f26.body).getD .skip
def Y9.ann:Ann:=(sl [0,3] (sq [7] (.ord (nn 0 3 (nn 4 2 (.eff 3 (.eff 6 (.neu 7 (.eff 8 (.neu 9 .done) .stop)) .stop) .stop)))) (sl [7,8] (.seq 3 [7] (.one (.loop 1 [7,8] (sq [7] (.seq 2 [7,27] lf bl) (.one (sl [7,8] (sl [7,8,9] (sq [7,8,9] (sl [7,8,9,33] bl) (sl [7,8,34] (.one (sl [7,8,34,37] (.br lf (sl [7,8,34,41] (.br lf (sl [7,8,47] (.br (sl [7,8,10,11] (sl [7,8,10,11,56] bl)) lf))))))))))))))) (sq [7] (sl [7,64] (.br (sl [4,5,6] lf) lf)) (sq [4,5,6] (.ord (nn 0 18 .done)) lf))))))
theorem Y9.dist:aI (places Y9.ann Y9.body)=true:=by kernel_rfl
noncomputable def Y9.J (Q:AV→aA→Prop):JT:=bJ prog C Tryd.f26 Y9.ann Y9.body Q
def Y9.p1 (Q:AV→aA→Prop) (x7:AV) (x27:Bool) (h:aA):Prop:=Y9.J Q 2 [(7,x7),(27,(AV.b x27))] h
def Y9.p0 (Q:AV→aA→Prop) (x7:AV) (x8:Int) (h:aA):Prop:=Y9.J Q 1 [(7,x7),(8,(AV.i .i64 x8))] h
def Y9.p2 (Q:AV→aA→Prop) (x7:AV) (h:aA):Prop:=Y9.J Q 3 [(7,x7)] h
def Y9.t1 (Q:AV→aA→Prop) (x7:AV) (x27:Bool) (h:aA) (J:JT):Prop:=
(bif x27 then
(C Y23.id [x7] h fun v28 h29=>
asI .i64 v28 fun n30=>
C Y12.id [x7,(AV.i .i64 2)] h29 fun v32 h33=>
asI .i64 v32 fun n34=>
C Y25.id [x7] h33 fun v36 h37=>
asB v36 fun c38=>
(bif c38 then
(J 3 [(7,x7)] h37)
else
((bif (decide ((n34:Int)=0)) then
(C Y4.id [x7] h37 fun v44 h45=>
J 1 [(7,x7),(8,(AV.i .i64 n30))] h45)
else
((bif (decide ((n34:Int)=1)) then
(C Y67.id [] h37 fun v48 h49=>
C Y30.id [(AV.sl none 0 none),(AV.i .i64 32),(AV.i .i64 5)] h49 fun v50 h51=>
C Y2.id [x7,v48,v50] h51 fun v52 h53=>
J 1 [(7,x7),(8,(AV.i .i64 n30))] h53)
else
((bif (decide ((n34:Int)=2)) then
(C Y0.id [x7] h37 fun v56 h57=>
aL 0 v56 fun v58=>
aL 1 v56 fun v59=>
C Y25.id [x7] h57 fun v61 h62=>
asB v61 fun c63=>
(bif (!c63) then
(C Y2.id [x7,v58,v59] h62 fun v65 h66=>
J 1 [(7,x7),(8,(AV.i .i64 n30))] h66)
else
(J 1 [(7,x7),(8,(AV.i .i64 n30))] h62)))
else
(C Y37.id [x7] h37 fun v69 h70=>
J 1 [(7,x7),(8,(AV.i .i64 n30))] h70)))))))))
else
(J 3 [(7,x7)] h))
theorem Y9.i1 {Q x7 x27 h} (H:Y9.t1 Q x7 x27 h (Y9.J Q)):Y9.p1 Q x7 x27 h:=gR Y9.J Tryd.f26 Y9.dist [1,1,1,0,0,0,0,1] H
def Y9.t0 (Q:AV→aA→Prop) (x7:AV) (x8:Int) (h:aA) (J:JT):Prop:=
(bif (decide ((x8:Int)=0)) then
(C Y25.id [x7] h fun v21 h22=>
asB v21 fun c23=>
J 2 [(7,x7),(27,(AV.b (!c23)))] h22)
else
(J 2 [(7,x7),(27,(AV.b false))] h))
theorem Y9.i0 {Q x7 x8 h} (H:Y9.t0 Q x7 x8 h (Y9.J Q)):Y9.p0 Q x7 x8 h:=gH Y9.J Tryd.f26 Y9.dist [1,1,1,0,0] H
def Y9.t2 (Q:AV→aA→Prop) (x7:AV) (h:aA) (J:JT):Prop:=
aU x7 fun v72=>
aC 5 v72 fun v73=>
aD v73 h fun v74=>
asB v74 fun c75=>
(bif c75 then
(aU x7 fun v77=>
aC 2 v77 fun v78=>
aD v78 h fun v79=>
cJ v79 h fun l80=>
Q (AV.tu [(AV.s l80),(AV.i .i64 1),(AV.i .i64 0)]) h)
else
(aU x7 fun v83=>
aC 2 v83 fun v84=>
aD v84 h fun v85=>
cJ v85 h fun l86=>
aU x7 fun v87=>
aC 6 v87 fun v88=>
aD v88 h fun v89=>
asI .i64 v89 fun n90=>
aU x7 fun v91=>
aC 1 v91 fun v92=>
aD v92 h fun v93=>
asI .i64 v93 fun n94=>
aJ (IntKind.wrap .i64 (n94+7)) fun n95=>
rU .i64 n95 8 fun n96=>
Q (AV.tu [(AV.s l86),(AV.i .i64 n90),(AV.i .i64 n96)]) h))
theorem Y9.i2 {Q x7 h} (H:Y9.t2 Q x7 h (Y9.J Q)):Y9.p2 Q x7 h:=gR Y9.J Tryd.f26 Y9.dist [1,1,1,1] H
def Y9.t (Q:AV→aA→Prop) (x0:List UInt8) (x1:AV) (h:aA) (J:JT):Prop:=
cZ (some 23) x1 h fun v0 h1=>
aC 0 v0 fun v3=>
aD v3 h1 fun v4=>
asI .i64 v4 fun n5=>
aC 1 v0 fun v6=>
aD v6 h1 fun v7=>
asI .i64 v7 fun n8=>
C Y59.id [(AV.i .i64 n5),(AV.i .i64 0),(AV.i .i64 65536)] h1 fun v9 h10=>
asI .i64 v9 fun n11=>
aD v6 h10 fun v12=>
asI .i64 v12 fun n13=>
((AV.i .i64 n8)=(AV.i .i64 n13) ∧
(C Y59.id [(AV.i .i64 n8),(AV.i .i64 1),(AV.i .i64 1100)] h10 fun v14 h15=>
asI .i64 v14 fun n16=>
cZ (some 95) (AV.ag [(AV.s x0),(AV.i .i64 0),(AV.sl none 0 none),(AV.i .i64 n11),(AV.i .i64 n16),(AV.b false),(AV.i .i64 0)]) h15 fun v17 h18=>
J 1 [(7,v17),(8,(AV.i .i64 0))] h18))
theorem Y9.call {K x0 x1 h} (H:Y9.t (aH h K) x0 x1 h (Y9.J (aH h K))):C Y9.id [(AV.s x0),x1] h K:=
 gC Y9.J Tryd.func26 Y9.dist H
noncomputable def Y39.body:Code:=(Tryd.f27.body).getD .skip
def Y39.ann:Ann:=(sl [0,1] (sl [0,1] (sl [0,1,6,7] (.seq 1 [0,1,6] (sl [0,1,6,19] bl) (sl [4,5] lf)))))
theorem Y39.dist:aI (places Y39.ann Y39.body)=true:=by kernel_rfl
noncomputable def Y39.J (Q:AV→aA→Prop):JT:=bJ prog C Tryd.f27 Y39.ann Y39.body Q
def Y39.p0 (Q:AV→aA→Prop) (x0 x1:AV) (x6:Int) (h:aA):Prop:=Y39.J Q 1 [(0,x0),(1,x1),(6,(AV.i .i64 x6))] h
def Y39.t0 (Q:AV→aA→Prop) (x0 x1:AV) (x6:Int) (h:aA) (J:JT):Prop:=
aU x0 fun v20=>
aC 0 v20 fun v21=>
aD v21 h fun v22=>
bH 1 v22 (some (AV.i .i64 x6)) none none h fun v23=>
kY 1 v23 x1 h fun v24 h25=>
asI .i64 v24 fun n26=>
Q (AV.tu [(AV.i .i64 n26),AV.ni]) h25
theorem Y39.i0 {Q x0 x1 x6 h} (H:Y39.t0 Q x0 x1 x6 h (Y39.J Q)):Y39.p0 Q x0 x1 x6 h:=gR Y39.J Tryd.f27 Y39.dist [1,1,1,1] H
def Y39.t (Q:AV→aA→Prop) (x0 x1:AV) (h:aA) (J:JT):Prop:=
aU x0 fun v1=>
aC 2 v1 fun v2=>
aT 1 v2 (AV.i .i8 0) h fun h3=>
bK x1 fun n5=>
C Y42.id [x0,(AV.i .i64 n5)] h3 fun v6 h7=>
aL 0 v6 fun v8=>
asI .i64 v8 fun n9=>
aL 1 v6 fun v10=>
asB v10 fun c11=>
(bif (!c11) then
(bK x1 fun n14=>
C Y6.id [x0,(AV.i .i64 n14)] h7 fun v15 h16=>
asI .i64 v15 fun n17=>
J 1 [(0,x0),(1,x1),(6,(AV.i .i64 n17))] h16)
else
(J 1 [(0,x0),(1,x1),(6,(AV.i .i64 n9))] h7))
theorem Y39.call {K x0 x1 h} (H:Y39.t (aH h K) x0 x1 h (Y39.J (aH h K))):C Y39.id [x0,x1] h K:=
 gC Y39.J Tryd.func27 Y39.dist H
noncomputable def Y34.body:Code:=(Tryd.f28.body).getD .skip
def Y34.ann:Ann:=(sl [0,1] (sl [0,1] (sl [0,1,6,7] (.seq 1 [0,1,6] (sl [0,1,6,19] bl) (sl [4,5] lf)))))
theorem Y34.dist:aI (places Y34.ann Y34.body)=true:=by kernel_rfl
noncomputable def Y34.J (Q:AV→aA→Prop):JT:=bJ prog C Tryd.f28 Y34.ann Y34.body Q
def Y34.p0 (Q:AV→aA→Prop) (x0:AV) (x1:List UInt8) (x6:Int) (h:aA):Prop:=Y34.J Q 1 [(0,x0),(1,(AV.s x1)),(6,(AV.i .i64 x6))] h
def Y34.t0 (Q:AV→aA→Prop) (x0:AV) (x1:List UInt8) (x6:Int) (h:aA) (J:JT):Prop:=
aU x0 fun v18=>
aC 0 v18 fun v19=>
aD v19 h fun v20=>
bH 1 v20 (some (AV.i .i64 x6)) none none h fun v21=>
kY 1 v21 (AV.s x1) h fun v22 h23=>
asI .i64 v22 fun n24=>
Q (AV.tu [(AV.i .i64 n24),AV.ni]) h23
theorem Y34.i0 {Q x0 x1 x6 h} (H:Y34.t0 Q x0 x1 x6 h (Y34.J Q)):Y34.p0 Q x0 x1 x6 h:=gR Y34.J Tryd.f28 Y34.dist [1,1,1,1] H
def Y34.t (Q:AV→aA→Prop) (x0:AV) (x1:List UInt8) (h:aA) (J:JT):Prop:=
aU x0 fun v1=>
aC 2 v1 fun v2=>
aT 1 v2 (AV.i .i8 0) h fun h3=>
C Y42.id [x0,(AV.i .i64 (x1.length:Int))] h3 fun v5 h6=>
aL 0 v5 fun v7=>
asI .i64 v7 fun n8=>
aL 1 v5 fun v9=>
asB v9 fun c10=>
(bif (!c10) then
(C Y6.id [x0,(AV.i .i64 (x1.length:Int))] h6 fun v13 h14=>
asI .i64 v13 fun n15=>
J 1 [(0,x0),(1,(AV.s x1)),(6,(AV.i .i64 n15))] h14)
else
(J 1 [(0,x0),(1,(AV.s x1)),(6,(AV.i .i64 n8))] h6))
theorem Y34.call {K x0 x1 h} (H:Y34.t (aH h K) x0 x1 h (Y34.J (aH h K))):C Y34.id [x0,(AV.s x1)] h K:=
 gC Y34.J Tryd.func28 Y34.dist H
noncomputable def Y69.body:Code:=(Tryd.f29.body).getD .skip
def Y69.ann:Ann:=(sl [0] (sq [0] (sl [0,4] (.br (sl [2] lf) lf)) (sq [2] (.ord (nn 0 11 .done)) lf)))
theorem Y69.dist:aI (places Y69.ann Y69.body)=true:=by kernel_rfl
noncomputable def Y69.J (Q:AV→aA→Prop):JT:=bJ prog C Tryd.f29 Y69.ann Y69.body Q
def Y69.t (Q:AV→aA→Prop) (x0:AV) (h:aA) (J:JT):Prop:=
d7 prog .eql 100 x0 (AV.p none) fun v1=>
asB v1 fun c2=>
(bif c2 then
(Q (AV.s [60,110,105,108,62]) h)
else
(aU x0 fun v6=>
aC 0 v6 fun v7=>
aD v7 h fun v8=>
aU x0 fun v9=>
aC 1 v9 fun v10=>
aD v10 h fun v11=>
asI .i64 v11 fun n12=>
bH 1 v8 (some (AV.i .i64 n12)) none none h fun v13=>
cJ v13 h fun l14=>
Q (AV.s l14) h))
theorem Y69.call {K x0 h} (H:Y69.t (aH h K) x0 h (Y69.J (aH h K))):C Y69.id [x0] h K:=
 gC Y69.J Tryd.func29 Y69.dist H
noncomputable def Y19.body:Code:=(Tryd.f30.body).getD .skip
def Y19.ann:Ann:=(sl [0,1,7,8] (.one (.loop 1 [0,1,7,8] (sl [0,1,7,8,9] (sq [0,1,7,8] bl (sq [0,1,7,8] (.one (sl [0,1,6,7,8] (.seq 2 [0,1,6,7,8] (sl [0,1,6,7,8,15] (.br (sl [0,1,6,7,8] lf) lf)) (sq [0,1,7,8] (.ord (nn 0 25 (.eff 25 .done .stop))) lf)))) lf))))))
theorem Y19.dist:aI (places Y19.ann Y19.body)=true:=by kernel_rfl
noncomputable def Y19.J (Q:AV→aA→Prop):JT:=bJ prog C Tryd.f30 Y19.ann Y19.body Q
def Y19.p1 (Q:AV→aA→Prop) (x0:AV) (x1 x6 x7 x8:Int) (h:aA):Prop:=Y19.J Q 2 [(0,x0),(1,(AV.i .i64 x1)),(6,(AV.i .i64 x6)),(7,(AV.i .i64 x7)),(8,(AV.i .i64 x8))] h
def Y19.p0 (Q:AV→aA→Prop) (x0:AV) (x1 x7 x8:Int) (h:aA):Prop:=Y19.J Q 1 [(0,x0),(1,(AV.i .i64 x1)),(7,(AV.i .i64 x7)),(8,(AV.i .i64 x8))] h
def Y19.t1 (Q:AV→aA→Prop) (x0:AV) (x1 x6 x7 x8:Int) (h:aA) (J:JT):Prop:=
aU x0 fun v25=>
aC 0 v25 fun v26=>
aD v26 h fun v27=>
aU x0 fun v28=>
aC 0 v28 fun v29=>
aD v29 h fun v30=>
bK v30 fun n31=>
aJ (IntKind.wrap .i64 (n31 - 1)) fun n32=>
aP 1 v27 (AV.i .i64 n32) h fun v33=>
aD v33 h fun v34=>
asI .u8 v34 fun n35=>
kU .i64 x1 x6 fun n36=>
aJ (IntKind.wrap .u8 (bN .and .i64 n36 1)) fun n37=>
aU x0 fun v38=>
aC 1 v38 fun v39=>
aD v39 h fun v40=>
asI .i64 v40 fun n41=>
aJ (IntKind.wrap .i64 (8 - n41)) fun n42=>
jO .u8 n37 n42 fun n43=>
aP 1 v27 (AV.i .i64 n32) h fun v44=>
aT 1 v44 (AV.i .u8 (bN .or .u8 n35 n43)) h fun h45=>
aU x0 fun v47=>
aC 1 v47 fun v48=>
aD v48 h45 fun v49=>
asI .i64 v49 fun n50=>
aJ (IntKind.wrap .i64 (n50 - 1)) fun n51=>
aU x0 fun v52=>
aC 1 v52 fun v53=>
aT 1 v53 (AV.i .i64 n51) h45 fun h54=>
aJ (IntKind.wrap .i64 (x8+1)) fun n56=>
J 1 [(0,x0),(1,(AV.i .i64 x1)),(7,(AV.i .i64 x7)),(8,(AV.i .i64 n56))] h54
theorem Y19.i1 {Q x0 x1 x6 x7 x8 h} (H:Y19.t1 Q x0 x1 x6 x7 x8 h (Y19.J Q)):Y19.p1 Q x0 x1 x6 x7 x8 h:=gR Y19.J Tryd.f30 Y19.dist [1,0,0,1,1,0,0,1,1] H
def Y19.t0 (Q:AV→aA→Prop) (x0:AV) (x1 x7 x8:Int) (h:aA) (J:JT):Prop:=
(bif (decide ((x8:Int)<x7)) then
(aU x0 fun v4=>
aC 1 v4 fun v5=>
aD v5 h fun v6=>
asI .i64 v6 fun n7=>
(bif (decide ((n7:Int)=0)) then
(aU x0 fun v9=>
aC 0 v9 fun v10=>
aD v10 h fun v11=>
bM 1 1 [(AV.i .u8 0)] [(0,1,(AV.i .u8 0))] h fun v12 h13=>
bV (some 5) 1 1 v11 v12 h13 fun v14 h15=>
aU x0 fun v16=>
aC 0 v16 fun v17=>
aT 1 v17 v14 h15 fun h18=>
aU x0 fun v20=>
aC 1 v20 fun v21=>
aT 1 v21 (AV.i .i64 8) h18 fun h22=>
J 2 [(0,x0),(1,(AV.i .i64 x1)),(6,(AV.i .i64 x8)),(7,(AV.i .i64 x7)),(8,(AV.i .i64 x8))] h22)
else
(J 2 [(0,x0),(1,(AV.i .i64 x1)),(6,(AV.i .i64 x8)),(7,(AV.i .i64 x7)),(8,(AV.i .i64 x8))] h)))
else
(Q (AV.tu []) h))
theorem Y19.i0 {Q x0 x1 x7 x8 h} (H:Y19.t0 Q x0 x1 x7 x8 h (Y19.J Q)):Y19.p0 Q x0 x1 x7 x8 h:=gH Y19.J Tryd.f30 Y19.dist [1,0] H
def Y19.t (Q:AV→aA→Prop) (x0:AV) (x1 x2:Int) (h:aA) (J:JT):Prop:=
J 1 [(0,x0),(1,(AV.i .i64 x1)),(7,(AV.i .i64 x2)),(8,(AV.i .i64 0))] h
theorem Y19.call {K x0 x1 x2 h} (H:Y19.t (aH h K) x0 x1 x2 h (Y19.J (aH h K))):C Y19.id [x0,(AV.i .i64 x1),(AV.i .i64 x2)] h K:=
 gC Y19.J Tryd.func30 Y19.dist H
noncomputable def Y16.body:Code:=(Tryd.f31.body).getD .skip
def Y16.ann:Ann:=(sl [0] (sq [0] (sl [0,3] (.one (.loop 1 [0,3] (sl [0,3,4] (sq [0,3] bl (.seq 3 [0,3] (.one (sl [0,2,3] (.one (.seq 2 [0,2,3,9] lf (.br lf (sl [0,3,19] bl)))))) lf)))))) (sl [0,1] lf)))
theorem Y16.dist:aI (places Y16.ann Y16.body)=true:=by kernel_rfl
noncomputable def Y16.J (Q:AV→aA→Prop):JT:=bJ prog C Tryd.f31 Y16.ann Y16.body Q
def Y16.p1 (Q:AV→aA→Prop) (x0:AV) (x2 x3:Int) (x9:Bool) (h:aA):Prop:=Y16.J Q 2 [(0,x0),(2,(AV.i .i64 x2)),(3,(AV.i .i64 x3)),(9,(AV.b x9))] h
def Y16.p2 (Q:AV→aA→Prop) (x0:AV) (x3:Int) (h:aA):Prop:=Y16.J Q 3 [(0,x0),(3,(AV.i .i64 x3))] h
def Y16.p0 (Q:AV→aA→Prop) (x0:AV) (x3:Int) (h:aA):Prop:=Y16.J Q 1 [(0,x0),(3,(AV.i .i64 x3))] h
def Y16.t1 (Q:AV→aA→Prop) (x0:AV) (x2 x3:Int) (x9:Bool) (h:aA) (J:JT):Prop:=
(bif x9 then
(bM 1 1 [(AV.i .i64 0)] [(0,1,(AV.i .i64 8))] h fun v8 h9=>
bV none 1 8 x0 v8 h9 fun v10 h11=>
J 3 [(0,v10),(3,(AV.i .i64 x3))] h11)
else
((bif (decide ((x2:Int)<256)) then
(bM 1 1 [(AV.i .i64 0)] [(0,1,(AV.i .i64 9))] h fun v14 h15=>
bV none 1 8 x0 v14 h15 fun v16 h17=>
J 3 [(0,v16),(3,(AV.i .i64 x3))] h17)
else
(bM 1 1 [(AV.i .i64 0)] [(0,1,(AV.i .i64 7))] h fun v19 h20=>
bV none 1 8 x0 v19 h20 fun v21 h22=>
J 3 [(0,v21),(3,(AV.i .i64 x3))] h22))))
theorem Y16.i1 {Q x0 x2 x3 x9 h} (H:Y16.t1 Q x0 x2 x3 x9 h (Y16.J Q)):Y16.p1 Q x0 x2 x3 x9 h:=gR Y16.J Tryd.f31 Y16.dist [1,0,1,0,0,1,1,0,0,1,0,1] H
def Y16.t2 (Q:AV→aA→Prop) (x0:AV) (x3:Int) (h:aA) (J:JT):Prop:=
aJ (IntKind.wrap .i64 (x3+1)) fun n24=>
J 1 [(0,x0),(3,(AV.i .i64 n24))] h
theorem Y16.i2 {Q x0 x3 h} (H:Y16.t2 Q x0 x3 h (Y16.J Q)):Y16.p2 Q x0 x3 h:=gR Y16.J Tryd.f31 Y16.dist [1,0,1,0,0,1,1,1] H
def Y16.t0 (Q:AV→aA→Prop) (x0:AV) (x3:Int) (h:aA) (J:JT):Prop:=
(bif (decide ((x3:Int)<288)) then
((bif (decide ((x3:Int)<144)) then
(J 2 [(0,x0),(2,(AV.i .i64 x3)),(3,(AV.i .i64 x3)),(9,(AV.b true))] h)
else
(J 2 [(0,x0),(2,(AV.i .i64 x3)),(3,(AV.i .i64 x3)),(9,(AV.b (decide ((280:Int)≤x3))))] h)))
else
(bM 1 1 [(AV.i .i64 0)] [(0,1,(AV.i .i64 5))] h fun v26 h27=>
C Y27.id [v26,(AV.i .i64 32)] h27 fun v28 h29=>
Q (AV.tu [x0,v28]) h29))
theorem Y16.i0 {Q x0 x3 h} (H:Y16.t0 Q x0 x3 h (Y16.J Q)):Y16.p0 Q x0 x3 h:=gH Y16.J Tryd.f31 Y16.dist [1,0,1,0] H
def Y16.t (Q:AV→aA→Prop) (h:aA) (J:JT):Prop:=
J 1 [(0,(AV.sl none 0 none)),(3,(AV.i .i64 0))] h
theorem Y16.call {K h} (H:Y16.t (aH h K) h (Y16.J (aH h K))):C Y16.id [] h K:=
 gC Y16.J Tryd.func31 Y16.dist H
noncomputable def Y20.body:Code:=(Tryd.f32.body).getD .skip
def Y20.ann:Ann:=(sl [0,1,2,3,8,9] (sq [0,2,8] (sl [0,2,3,8,9,19,20,21] (.one (.loop 1 [0,2,3,8,9,19,20,21] (sl [0,2,3,8,9,19,20,21,22] (sq [0,2,3,8,9,19,20,21] bl (.seq 2 [0,2,3,8,9,19,20,21] (.one (sl [0,2,3,8,9,11,19,20,21] (sq [0,2,3,8,9,11,19,20,21] (sl [0,2,3,8,9,11,19,20,21,27] (.br (sl [0,2,3,8,9,19,20,21] lf) lf)) (sl [0,2,3,8,9,11,12,19,20,21] (sl [0,2,3,8,9,11,12,13,14,19,20,21] (sl [0,2,3,8,9,11,13,14,19,20,21] (sl [0,2,3,8,9,11,19,20,21] (sl [0,2,3,8,9,11,12,19,20,21] (sl [0,2,3,8,9,11,12,13,14,19,20,21] (sl [0,2,3,8,9,11,13,14,19,20,21] lf)))))))))) lf)))))) lf))
theorem Y20.dist:aI (places Y20.ann Y20.body)=true:=by kernel_rfl
noncomputable def Y20.J (Q:AV→aA→Prop):JT:=bJ prog C Tryd.f32 Y20.ann Y20.body Q
def Y20.p1 (Q:AV→aA→Prop) (x0 x2 x3 x8 x9 x19:AV) (x20 x21:Int) (h:aA):Prop:=Y20.J Q 2 [(0,x0),(2,x2),(3,x3),(8,x8),(9,x9),(19,x19),(20,(AV.i .i64 x20)),(21,(AV.i .i64 x21))] h
def Y20.p0 (Q:AV→aA→Prop) (x0 x2 x3 x8 x9 x19:AV) (x20 x21:Int) (h:aA):Prop:=Y20.J Q 1 [(0,x0),(2,x2),(3,x3),(8,x8),(9,x9),(19,x19),(20,(AV.i .i64 x20)),(21,(AV.i .i64 x21))] h
def Y20.t1 (Q:AV→aA→Prop) (x0 x2 x3 x8 x9 x19:AV) (x20 x21:Int) (h:aA) (J:JT):Prop:=
aJ (IntKind.wrap .i64 (x21+1)) fun n76=>
J 1 [(0,x0),(2,x2),(3,x3),(8,x8),(9,x9),(19,x19),(20,(AV.i .i64 x20)),(21,(AV.i .i64 n76))] h
theorem Y20.i1 {Q x0 x2 x3 x8 x9 x19 x20 x21 h} (H:Y20.t1 Q x0 x2 x3 x8 x9 x19 x20 x21 h (Y20.J Q)):Y20.p1 Q x0 x2 x3 x8 x9 x19 x20 x21 h:=gR Y20.J Tryd.f32 Y20.dist [1,0,1,0,0,1,1,1] H
def Y20.t0 (Q:AV→aA→Prop) (x0 x2 x3 x8 x9 x19:AV) (x20 x21:Int) (h:aA) (J:JT):Prop:=
(bif (decide ((x21:Int)<x20)) then
(aP 3 x19 (AV.i .i64 x21) h fun v10=>
dG 3 v10 h fun v11=>
dD (some 82) [(AV.i .u8 0),(AV.i .i64 0),(AV.i .i64 0)] h fun v12 h13=>
aT 3 v12 v11 h13 fun h14=>
aC 1 v12 fun v16=>
aD v16 h14 fun v17=>
asI .i64 v17 fun n18=>
(bif (decide ((n18:Int)=0)) then
(aC 0 v12 fun v20=>
aD v20 h14 fun v21=>
asI .u8 v21 fun n22=>
C Y31.id [x0,x8,x2,(AV.i .i64 (IntKind.wrap .i64 n22))] h14 fun v23 h24=>
J 2 [(0,x0),(2,x2),(3,x3),(8,x8),(9,x9),(19,x19),(20,(AV.i .i64 x20)),(21,(AV.i .i64 x21))] h24)
else
(aC 1 v12 fun v28=>
aD v28 h14 fun v29=>
asI .i64 v29 fun n30=>
C Y22.id [(AV.i .i64 n30)] h14 fun v31 h32=>
asI .i64 v31 fun n33=>
C Y51.id [(AV.i .i64 n33)] h32 fun v35 h36=>
aL 0 v35 fun v37=>
asI .i64 v37 fun n38=>
aL 1 v35 fun v39=>
asI .i64 v39 fun n40=>
C Y31.id [x0,x8,x2,(AV.i .i64 n33)] h36 fun v42 h43=>
aC 1 v12 fun v45=>
aD v45 h43 fun v46=>
asI .i64 v46 fun n47=>
aJ (IntKind.wrap .i64 (n47 - n38)) fun n48=>
C Y19.id [x0,(AV.i .i64 n48),(AV.i .i64 n40)] h43 fun v49 h50=>
aC 2 v12 fun v52=>
aD v52 h50 fun v53=>
asI .i64 v53 fun n54=>
C Y21.id [(AV.i .i64 n54)] h50 fun v55 h56=>
asI .i64 v55 fun n57=>
C Y52.id [(AV.i .i64 n57)] h56 fun v59 h60=>
aL 0 v59 fun v61=>
asI .i64 v61 fun n62=>
aL 1 v59 fun v63=>
asI .i64 v63 fun n64=>
C Y31.id [x0,x9,x3,(AV.i .i64 n57)] h60 fun v66 h67=>
aC 2 v12 fun v69=>
aD v69 h67 fun v70=>
asI .i64 v70 fun n71=>
aJ (IntKind.wrap .i64 (n71 - n62)) fun n72=>
C Y19.id [x0,(AV.i .i64 n72),(AV.i .i64 n64)] h67 fun v73 h74=>
J 2 [(0,x0),(2,x2),(3,x3),(8,x8),(9,x9),(19,x19),(20,(AV.i .i64 x20)),(21,(AV.i .i64 x21))] h74)))
else
(C Y31.id [x0,x8,x2,(AV.i .i64 256)] h fun v78 h79=>
Q (AV.tu []) h79))
theorem Y20.i0 {Q x0 x2 x3 x8 x9 x19 x20 x21 h} (H:Y20.t0 Q x0 x2 x3 x8 x9 x19 x20 x21 h (Y20.J Q)):Y20.p0 Q x0 x2 x3 x8 x9 x19 x20 x21 h:=gH Y20.J Tryd.f32 Y20.dist [1,0,1,0] H
def Y20.t (Q:AV→aA→Prop) (x0 x1 x2 x3:AV) (h:aA) (J:JT):Prop:=
C Y17.id [x2] h fun v0 h1=>
C Y17.id [x3] h1 fun v2 h3=>
bK x1 fun n5=>
J 1 [(0,x0),(2,x2),(3,x3),(8,v0),(9,v2),(19,x1),(20,(AV.i .i64 n5)),(21,(AV.i .i64 0))] h3
theorem Y20.call {K x0 x1 x2 x3 h} (H:Y20.t (aH h K) x0 x1 x2 x3 h (Y20.J (aH h K))):C Y20.id [x0,x1,x2,x3] h K:=
 gC Y20.J Tryd.func32 Y20.dist H
noncomputable def Y14.body:Code:=(Tryd.f33.body).getD .skip
def Y14.ann:Ann:=(sl [1] (sl [1,3] (sl [1,3,4] (sl [1,3,4,5] (sq [3] (sl [1,3,4,5,6] (.one (.loop 1 [1,3,4,5,6] (sq [1,3,4,5,6] (sl [1,3,4,5,6,13] bl) (.one (sl [1,3,4,5,6,7] (.seq 2 [1,3,4,5,6,7] (sl [1,3,4,5,6,7,22] (.br (.ord (nn 0 9 (.eff 9 (nn 10 4 (.eff 14 (.neu 15 (.eff 16 .done .stop)) .stop)) .stop))) lf)) (sl [1,3,4,5,6,7] (sl [1,3,4,5,6,44,45] (.one (.loop 3 [1,3,4,5,6,44,45] (sl [1,3,4,5,6,44,45,46] (sq [1,3,4,5,6,44,45] bl (sq [1,3,4,5,6,44,45] (.one (sl [1,3,4,5,6,44,45] lf)) lf)))))))))))))) (sl [2] lf))))))
theorem Y14.dist:aI (places Y14.ann Y14.body)=true:=by kernel_rfl
noncomputable def Y14.J (Q:AV→aA→Prop):JT:=bJ prog C Tryd.f33 Y14.ann Y14.body Q
def Y14.p2 (Q:AV→aA→Prop) (x1 x3 x4 x5:AV) (x6 x44 x45:Int) (h:aA):Prop:=Y14.J Q 3 [(1,x1),(3,x3),(4,x4),(5,x5),(6,(AV.i .i64 x6)),(44,(AV.i .i64 x44)),(45,(AV.i .i64 x45))] h
def Y14.p1 (Q:AV→aA→Prop) (x1 x3 x4 x5:AV) (x6:Int) (x7:AV) (h:aA):Prop:=Y14.J Q 2 [(1,x1),(3,x3),(4,x4),(5,x5),(6,(AV.i .i64 x6)),(7,x7)] h
def Y14.p0 (Q:AV→aA→Prop) (x1 x3 x4 x5:AV) (x6:Int) (h:aA):Prop:=Y14.J Q 1 [(1,x1),(3,x3),(4,x4),(5,x5),(6,(AV.i .i64 x6))] h
def Y14.t2 (Q:AV→aA→Prop) (x1 x3 x4 x5:AV) (x6 x44 x45:Int) (h:aA) (J:JT):Prop:=
(bif (decide ((x45:Int)<x44)) then
(bX C x5 [(AV.i .i64 x6)] h fun v61 h62=>
aJ (IntKind.wrap .i64 (x6+1)) fun n64=>
aJ (IntKind.wrap .i64 (x45+1)) fun n66=>
J 3 [(1,x1),(3,x3),(4,x4),(5,x5),(6,(AV.i .i64 n64)),(44,(AV.i .i64 x44)),(45,(AV.i .i64 n66))] h62)
else
(J 1 [(1,x1),(3,x3),(4,x4),(5,x5),(6,(AV.i .i64 x6))] h))
theorem Y14.i2 {Q x1 x3 x4 x5 x6 x44 x45 h} (H:Y14.t2 Q x1 x3 x4 x5 x6 x44 x45 h (Y14.J Q)):Y14.p2 Q x1 x3 x4 x5 x6 x44 x45 h:=gH Y14.J Tryd.f33 Y14.dist [1,1,1,1,0,1,0,0,1,0,1,1,1,1,0] H
def Y14.t1 (Q:AV→aA→Prop) (x1 x3 x4 x5:AV) (x6:Int) (x7:AV) (h:aA) (J:JT):Prop:=
dG 3 x7 h fun v48=>
bM 3 1 [(AV.i .u8 0),(AV.i .i64 0),(AV.i .i64 0)] [(0,3,v48)] h fun v49 h50=>
bV none 3 24 x3 v49 h50 fun v51 h52=>
aC 1 x7 fun v54=>
aD v54 h52 fun v55=>
asI .i64 v55 fun n56=>
J 3 [(1,x1),(3,v51),(4,x4),(5,x5),(6,(AV.i .i64 x6)),(44,(AV.i .i64 (mmI true n56 1))),(45,(AV.i .i64 0))] h52
theorem Y14.i1 {Q x1 x3 x4 x5 x6 x7 h} (H:Y14.t1 Q x1 x3 x4 x5 x6 x7 h (Y14.J Q)):Y14.p1 Q x1 x3 x4 x5 x6 x7 h:=gR Y14.J Tryd.f33 Y14.dist [1,1,1,1,0,1,0,0,1,0,1,1] H
def Y14.t0 (Q:AV→aA→Prop) (x1 x3 x4 x5:AV) (x6:Int) (h:aA) (J:JT):Prop:=
aD x1 h fun v12=>
asS v12 fun l13=>
(bif (decide ((x6:Int)<(l13.length:Int))) then
(aD x1 h fun v17=>
asS v17 fun l18=>
eY (AV.s l18) (AV.i .i64 x6) fun n19=>
dD (some 82) [(AV.i .u8 0),(AV.i .i64 0),(AV.i .i64 0)] h fun v20 h21=>
aT 3 v20 (AV.ag [(AV.i .u8 n19),(AV.i .i64 0),(AV.i .i64 0)]) h21 fun h22=>
aJ (IntKind.wrap .i64 (x6+3)) fun n24=>
aD x1 h22 fun v25=>
asS v25 fun l26=>
(bif (decide ((n24:Int)≤(l26.length:Int))) then
(aD x1 h22 fun v28=>
asS v28 fun l29=>
aD x4 h22 fun v30=>
aD x1 h22 fun v31=>
asS v31 fun l32=>
aJ (IntKind.wrap .i64 (x6+3)) fun n33=>
cD (AV.s l32) (some (AV.i .i64 x6)) (some (AV.i .i64 n33)) fun l34=>
e6 prog 9 64 false v30 (AV.s l34) h22 fun v35=>
C Y44.id [(AV.s l29),(AV.i .i64 x6),v35] h22 fun v36 h37=>
aL 0 v36 fun v38=>
asI .i64 v38 fun n39=>
aL 1 v36 fun v40=>
asI .i64 v40 fun n41=>
aC 1 v20 fun v42=>
aT 1 v42 (AV.i .i64 n39) h37 fun h43=>
aC 2 v20 fun v44=>
aT 1 v44 (AV.i .i64 n41) h43 fun h45=>
J 2 [(1,x1),(3,x3),(4,x4),(5,x5),(6,(AV.i .i64 x6)),(7,v20)] h45)
else
(J 2 [(1,x1),(3,x3),(4,x4),(5,x5),(6,(AV.i .i64 x6)),(7,v20)] h22)))
else
(Q x3 h))
theorem Y14.i0 {Q x1 x3 x4 x5 x6 h} (H:Y14.t0 Q x1 x3 x4 x5 x6 h (Y14.J Q)):Y14.p0 Q x1 x3 x4 x5 x6 h:=gH Y14.J Tryd.f33 Y14.dist [1,1,1,1,0,1,0] H
def Y14.t (Q:AV→aA→Prop) (x0:List UInt8) (h:aA) (J:JT):Prop:=
cZ none (AV.s x0) h fun v0 h1=>
mB h1 fun v4 h5=>
dD none [(AV.mp none)] h5 fun v6 h7=>
aT 1 v6 v4 h7 fun h8=>
J 1 [(1,v0),(3,(AV.sl none 0 none)),(4,v6),(5,(AV.fn (.func Y43.id) [] [v0,v6])),(6,(AV.i .i64 0))] h8
theorem Y14.call {K x0 h} (H:Y14.t (aH h K) x0 h (Y14.J (aH h K))):C Y14.id [(AV.s x0)] h K:=
 gC Y14.J Tryd.func33 Y14.dist H
noncomputable def Y70.body:Code:=(Tryd.f37.body).getD .skip
def Y70.ann:Ann:=(sl [0] (sq [0] (sl [0,6] (.br (sl [2,3] lf) lf)) (sq [0] (sl [0,10] (.br (sl [2,3] lf) lf)) (sl [0,4] (sl [2,3] lf)))))
theorem Y70.dist:aI (places Y70.ann Y70.body)=true:=by kernel_rfl
noncomputable def Y70.J (Q:AV→aA→Prop):JT:=bJ prog C Tryd.f37 Y70.ann Y70.body Q
def Y70.t (Q:AV→aA→Prop) (x0:Int) (h:aA) (J:JT):Prop:=
(bif (decide ((x0:Int)<265)) then
(aJ (IntKind.wrap .i64 (x0 - 254)) fun n2=>
Q (AV.tu [(AV.i .i64 n2),(AV.i .i64 0)]) h)
else
((bif (decide ((x0:Int)=285)) then
(Q (AV.tu [(AV.i .i64 258),(AV.i .i64 0)]) h)
else
(aJ (IntKind.wrap .i64 (x0 - 261)) fun n8=>
rU .i64 n8 4 fun n9=>
aJ (IntKind.wrap .i64 (x0 - 265)) fun n11=>
uN n11 4 fun n12=>
aJ (IntKind.wrap .i64 (4+n12)) fun n13=>
jO .i64 n13 (IntKind.wrap .u64 n9) fun n14=>
aJ (IntKind.wrap .i64 (n14+3)) fun n15=>
Q (AV.tu [(AV.i .i64 n15),(AV.i .i64 n9)]) h))))
theorem Y70.call {K x0 h} (H:Y70.t (aH h K) x0 h (Y70.J (aH h K))):C Y70.id [(AV.i .i64 x0)] h K:=
 gC Y70.J Tryd.func37 Y70.dist H
noncomputable def Y79.body:Code:=(Tryd.f38.body).getD .skip
def Y79.ann:Ann:=(sl [0] (sq [0] (sl [0,6] (.br (sl [2,3] lf) lf)) (sl [0,4] (sl [2,3] lf))))
theorem Y79.dist:aI (places Y79.ann Y79.body)=true:=by kernel_rfl
noncomputable def Y79.J (Q:AV→aA→Prop):JT:=bJ prog C Tryd.f38 Y79.ann Y79.body Q
def Y79.t (Q:AV→aA→Prop) (x0:Int) (h:aA) (J:JT):Prop:=
(bif (decide ((x0:Int)<4)) then
(aJ (IntKind.wrap .i64 (x0+1)) fun n2=>
Q (AV.tu [(AV.i .i64 n2),(AV.i .i64 0)]) h)
else
(rU .i64 x0 2 fun n5=>
aJ (IntKind.wrap .i64 (n5 - 1)) fun n6=>
uN x0 2 fun n8=>
aJ (IntKind.wrap .i64 (2+n8)) fun n9=>
jO .i64 n9 (IntKind.wrap .u64 n6) fun n10=>
aJ (IntKind.wrap .i64 (n10+1)) fun n11=>
Q (AV.tu [(AV.i .i64 n11),(AV.i .i64 n6)]) h))
theorem Y79.call {K x0 h} (H:Y79.t (aH h K) x0 h (Y79.J (aH h K))):C Y79.id [(AV.i .i64 x0)] h K:=
 gC Y79.J Tryd.func38 Y79.dist H
noncomputable def Y57.body:Code:=(Tryd.f41.body).getD .skip
def Y57.ann:Ann:=(sl [0,1,2] (sl [6] lf))
theorem Y57.dist:aI (places Y57.ann Y57.body)=true:=by kernel_rfl
noncomputable def Y57.J (Q:AV→aA→Prop):JT:=bJ prog C Tryd.f41 Y57.ann Y57.body Q
def Y57.t (Q:AV→aA→Prop) (x0 x1 x2:Int) (h:aA) (J:JT):Prop:=
aJ (mmI false (mmI true x0 x1) x2) fun n1=>
Q (AV.i .i64 n1) h
theorem Y57.call {K x0 x1 x2 h} (H:Y57.t (aH h K) x0 x1 x2 h (Y57.J (aH h K))):C Y57.id [(AV.i .i64 x0),(AV.i .i64 x1),(AV.i .i64 x2)] h K:=
 gC Y57.J Tryd.func41 Y57.dist H
noncomputable def Y53.body:Code:=(Tryd.f42.body).getD .skip
def Y53.ann:Ann:=(sl [1] (sq [1] (sl [1,6] (.br (sl [] (sl [2] lf)) lf)) (sl [2] lf)))
theorem Y53.dist:aI (places Y53.ann Y53.body)=true:=by kernel_rfl
noncomputable def Y53.J (Q:AV→aA→Prop):JT:=bJ prog C Tryd.f42 Y53.ann Y53.body Q
def Y53.t (Q:AV→aA→Prop) (x0:AV) (h:aA) (J:JT):Prop:=
cZ none x0 h fun v0 h1=>
aD v0 h1 fun v3=>
aU v3 fun v4=>
aC 6 v4 fun v5=>
aD v5 h1 fun v6=>
asB v6 fun c7=>
(bif c7 then
(aD v0 h1 fun v9=>
aU v9 fun v10=>
aC 7 v10 fun v11=>
aT 1 v11 (AV.b true) h1 fun h12=>
Q (AV.i .i64 0) h12)
else
(aD v0 h1 fun v16=>
C Y41.id [v16,(AV.i .i64 3),(AV.fn (.func Y72.id) [] [v0])] h1 fun v17 h18=>
asI .i64 v17 fun n19=>
Q (AV.i .i64 n19) h18))
theorem Y53.call {K x0 h} (H:Y53.t (aH h K) x0 h (Y53.J (aH h K))):C Y53.id [x0] h K:=
 gC Y53.J Tryd.func42 Y53.dist H
noncomputable def Y3.body:Code:=(Tryd.f43.body).getD .skip
def Y3.ann:Ann:=(sl [0,1] (.one (sl [0,1] (.seq 2 [0,5] (sl [0,1,14] (.br (sl [0,6,7,8] (sq [0,6,7] (sl [0,6,7,26] (.br (sl [4] lf) lf)) (sq [0,6] (sl [0,6,28] (.br (sl [4] lf) lf)) lf))) (sq [0] (.ord (nn 0 13 (.eff 13 .done .stop))) (sl [0] (sq [0] (sq [0,58] (.ord (nn 0 9 .done)) (.br (sl [4] lf) lf)) lf))))) (.seq 1 [0,5] lf (sq [0] (sl [0,9] (.seq 3 [0,9,76] lf (.br (sl [4] lf) lf))) (sq [] (.seq 4 [0,89] lf (.br (sl [0,5] lf) lf)) (sl [4] lf))))))))
theorem Y3.dist:aI (places Y3.ann Y3.body)=true:=by kernel_rfl
noncomputable def Y3.J (Q:AV→aA→Prop):JT:=bJ prog C Tryd.f43 Y3.ann Y3.body Q
def Y3.p2 (Q:AV→aA→Prop) (x0:AV) (x9:Int) (x76:Bool) (h:aA):Prop:=Y3.J Q 3 [(0,x0),(9,(AV.i .i64 x9)),(76,(AV.b x76))] h
def Y3.p3 (Q:AV→aA→Prop) (x0:AV) (x89:Bool) (h:aA):Prop:=Y3.J Q 4 [(0,x0),(89,(AV.b x89))] h
def Y3.p0 (Q:AV→aA→Prop) (x0:AV) (x5:Int) (h:aA):Prop:=Y3.J Q 1 [(0,x0),(5,(AV.i .i64 x5))] h
def Y3.p1 (Q:AV→aA→Prop) (x0:AV) (x5:Int) (h:aA):Prop:=Y3.J Q 2 [(0,x0),(5,(AV.i .i64 x5))] h
def Y3.t2 (Q:AV→aA→Prop) (x0:AV) (x9:Int) (x76:Bool) (h:aA) (J:JT):Prop:=
(bif x76 then
(Q (AV.i .i64 x9) h)
else
(aU x0 fun v82=>
aC 14 v82 fun v83=>
aD v83 h fun v84=>
d7 prog .eql 44 v84 (AV.p none) fun v85=>
asB v85 fun c86=>
(bif c86 then
(aU x0 fun v87=>
aC 13 v87 fun v88=>
aD v88 h fun v89=>
asI .i64 v89 fun n90=>
J 4 [(0,x0),(89,(AV.b (decide ((n90:Int)=0))))] h)
else
(J 4 [(0,x0),(89,(AV.b false))] h))))
theorem Y3.i2 {Q x0 x9 x76 h} (H:Y3.t2 Q x0 x9 x76 h (Y3.J Q)):Y3.p2 Q x0 x9 x76 h:=gR Y3.J Tryd.f43 Y3.dist [1,0,1,1,1,0,1,1] H
def Y3.t3 (Q:AV→aA→Prop) (x0:AV) (x89:Bool) (h:aA) (J:JT):Prop:=
(bif x89 then
(J 1 [(0,x0),(5,(AV.i .i64 0))] h)
else
(Q (AV.i .i64 0) h))
theorem Y3.i3 {Q x0 x89 h} (H:Y3.t3 Q x0 x89 h (Y3.J Q)):Y3.p3 Q x0 x89 h:=gR Y3.J Tryd.f43 Y3.dist [1,0,1,1,1,1,0,1] H
def Y3.t0 (Q:AV→aA→Prop) (x0:AV) (x5:Int) (h:aA) (J:JT):Prop:=
aU x0 fun v67=>
aC 15 v67 fun v68=>
aD v68 h fun v69=>
bX C v69 [(AV.i .i64 x5)] h fun v70 h71=>
asI .i64 v70 fun n72=>
(bif (!decide ((n72:Int)=0)) then
(J 3 [(0,x0),(9,(AV.i .i64 n72)),(76,(AV.b true))] h71)
else
(aU x0 fun v75=>
aC 7 v75 fun v76=>
aD v76 h71 fun v77=>
asB v77 fun c78=>
J 3 [(0,x0),(9,(AV.i .i64 n72)),(76,(AV.b c78))] h71))
theorem Y3.i0 {Q x0 x5 h} (H:Y3.t0 Q x0 x5 h (Y3.J Q)):Y3.p0 Q x0 x5 h:=gR Y3.J Tryd.f43 Y3.dist [1,0,1,1,1] H
def Y3.t1 (Q:AV→aA→Prop) (x0:AV) (x5:Int) (h:aA) (J:JT):Prop:=
J 1 [(0,x0),(5,(AV.i .i64 x5))] h
theorem Y3.i1 {Q x0 x5 h} (H:Y3.t1 Q x0 x5 h (Y3.J Q)):Y3.p1 Q x0 x5 h:=gR Y3.J Tryd.f43 Y3.dist [1,0,1,1] H
def Y3.t (Q:AV→aA→Prop) (x0:AV) (x1:Int) (h:aA) (J:JT):Prop:=
aU x0 fun v2=>
aC 14 v2 fun v3=>
aD v3 h fun v4=>
d7 prog .neq 44 v4 (AV.p none) fun v5=>
asB v5 fun c6=>
(bif c6 then
(aU x0 fun v8=>
aC 14 v8 fun v9=>
aD v9 h fun v10=>
C Y24.id [v10,(AV.i .i64 x1)] h fun v11 h12=>
aL 0 v11 fun v13=>
asI .i64 v13 fun n14=>
aL 1 v11 fun v15=>
asB v15 fun c16=>
aL 2 v11 fun v17=>
asI .i64 v17 fun n18=>
(bif (!decide ((n18:Int)=0)) then
(Q (AV.i .i64 2) h12)
else
((bif (!c16) then
(Q (AV.i .i64 0) h12)
else
(J 2 [(0,x0),(5,(AV.i .i64 n14))] h12)))))
else
(aU x0 fun v27=>
aC 11 v27 fun v28=>
aD v28 h fun v29=>
asI .i64 v29 fun n30=>
aU x0 fun v31=>
aC 12 v31 fun v32=>
aD v32 h fun v33=>
asI .i64 v33 fun n34=>
jO .i64 x1 n34 fun n35=>
aJ (bN .or .i64 n30 n35) fun n36=>
aU x0 fun v37=>
aC 11 v37 fun v38=>
aT 1 v38 (AV.i .i64 n36) h fun h39=>
aU x0 fun v41=>
aC 12 v41 fun v42=>
aD v42 h39 fun v43=>
asI .i64 v43 fun n44=>
aJ (IntKind.wrap .i64 (n44+1)) fun n45=>
aU x0 fun v46=>
aC 12 v46 fun v47=>
aT 1 v47 (AV.i .i64 n45) h39 fun h48=>
aU x0 fun v50=>
aC 12 v50 fun v51=>
aD v51 h48 fun v52=>
asI .i64 v52 fun n53=>
aU x0 fun v54=>
aC 13 v54 fun v55=>
aD v55 h48 fun v56=>
asI .i64 v56 fun n57=>
(bif (decide ((n53:Int)<n57)) then
(Q (AV.i .i64 0) h48)
else
(aU x0 fun v61=>
aC 11 v61 fun v62=>
aD v62 h48 fun v63=>
asI .i64 v63 fun n64=>
J 2 [(0,x0),(5,(AV.i .i64 n64))] h48))))
theorem Y3.call {K x0 x1 h} (H:Y3.t (aH h K) x0 x1 h (Y3.J (aH h K))):C Y3.id [x0,(AV.i .i64 x1)] h K:=
 gC Y3.J Tryd.func43 Y3.dist H
noncomputable def Y22.body:Code:=(Tryd.f44.body).getD .skip
def Y22.ann:Ann:=(sl [0] (sq [0] (sl [0,8] (.br (sl [2] lf) lf)) (sl [0,3] (sq [3] (sl [0,3,4] (.one (.loop 1 [0,3,4] (sq [0,3,4] (sl [0,3,4,10] bl) (.seq 2 [0,3,4] (.one (sl [0,3,4,5] (sl [0,3,4,20] bl))) lf))))) (sl [2] lf)))))
theorem Y22.dist:aI (places Y22.ann Y22.body)=true:=by kernel_rfl
noncomputable def Y22.J (Q:AV→aA→Prop):JT:=bJ prog C Tryd.f44 Y22.ann Y22.body Q
def Y22.p1 (Q:AV→aA→Prop) (x0 x3 x4:Int) (h:aA):Prop:=Y22.J Q 2 [(0,(AV.i .i64 x0)),(3,(AV.i .i64 x3)),(4,(AV.i .i64 x4))] h
def Y22.p0 (Q:AV→aA→Prop) (x0 x3 x4:Int) (h:aA):Prop:=Y22.J Q 1 [(0,(AV.i .i64 x0)),(3,(AV.i .i64 x3)),(4,(AV.i .i64 x4))] h
def Y22.t1 (Q:AV→aA→Prop) (x0 x3 x4:Int) (h:aA) (J:JT):Prop:=
aJ (IntKind.wrap .i64 (x4+1)) fun n19=>
J 1 [(0,(AV.i .i64 x0)),(3,(AV.i .i64 x3)),(4,(AV.i .i64 n19))] h
theorem Y22.i1 {Q x0 x3 x4 h} (H:Y22.t1 Q x0 x3 x4 h (Y22.J Q)):Y22.p1 Q x0 x3 x4 h:=gR Y22.J Tryd.f44 Y22.dist [1,1,1,0,1,0,0,1,1] H
def Y22.t0 (Q:AV→aA→Prop) (x0 x3 x4:Int) (h:aA) (J:JT):Prop:=
(bif (decide ((x4:Int)<285)) then
(C Y51.id [(AV.i .i64 x4)] h fun v9 h10=>
aL 0 v9 fun v11=>
asI .i64 v11 fun n12=>
aL 1 v9 fun v13=>
asI .i64 v13 fun n14=>
(bif (decide ((n12:Int)≤x0)) then
(J 2 [(0,(AV.i .i64 x0)),(3,(AV.i .i64 x4)),(4,(AV.i .i64 x4))] h10)
else
(J 2 [(0,(AV.i .i64 x0)),(3,(AV.i .i64 x3)),(4,(AV.i .i64 x4))] h10)))
else
(Q (AV.i .i64 x3) h))
theorem Y22.i0 {Q x0 x3 x4 h} (H:Y22.t0 Q x0 x3 x4 h (Y22.J Q)):Y22.p0 Q x0 x3 x4 h:=gH Y22.J Tryd.f44 Y22.dist [1,1,1,0,1,0] H
def Y22.t (Q:AV→aA→Prop) (x0:Int) (h:aA) (J:JT):Prop:=
(bif (decide ((x0:Int)=258)) then
(Q (AV.i .i64 285) h)
else
(J 1 [(0,(AV.i .i64 x0)),(3,(AV.i .i64 257)),(4,(AV.i .i64 257))] h))
theorem Y22.call {K x0 h} (H:Y22.t (aH h K) x0 h (Y22.J (aH h K))):C Y22.id [(AV.i .i64 x0)] h K:=
 gC Y22.J Tryd.func44 Y22.dist H
noncomputable def Y21.body:Code:=(Tryd.f45.body).getD .skip
def Y21.ann:Ann:=(sl [0] (sl [0,3] (sq [3] (sl [0,3,7] (.one (.loop 1 [0,3,7] (sl [0,3,7,8] (sq [0,3,7] bl (.seq 2 [0,3,7] (.one (sl [0,3,4,7] (sl [0,3,4,5,7] (sl [0,3,4,7,17] bl)))) lf)))))) (sl [2] lf))))
theorem Y21.dist:aI (places Y21.ann Y21.body)=true:=by kernel_rfl
noncomputable def Y21.J (Q:AV→aA→Prop):JT:=bJ prog C Tryd.f45 Y21.ann Y21.body Q
def Y21.p1 (Q:AV→aA→Prop) (x0 x3 x7:Int) (h:aA):Prop:=Y21.J Q 2 [(0,(AV.i .i64 x0)),(3,(AV.i .i64 x3)),(7,(AV.i .i64 x7))] h
def Y21.p0 (Q:AV→aA→Prop) (x0 x3 x7:Int) (h:aA):Prop:=Y21.J Q 1 [(0,(AV.i .i64 x0)),(3,(AV.i .i64 x3)),(7,(AV.i .i64 x7))] h
def Y21.t1 (Q:AV→aA→Prop) (x0 x3 x7:Int) (h:aA) (J:JT):Prop:=
aJ (IntKind.wrap .i64 (x7+1)) fun n17=>
J 1 [(0,(AV.i .i64 x0)),(3,(AV.i .i64 x3)),(7,(AV.i .i64 n17))] h
theorem Y21.i1 {Q x0 x3 x7 h} (H:Y21.t1 Q x0 x3 x7 h (Y21.J Q)):Y21.p1 Q x0 x3 x7 h:=gR Y21.J Tryd.f45 Y21.dist [1,1,0,1,0,0,1,1,1] H
def Y21.t0 (Q:AV→aA→Prop) (x0 x3 x7:Int) (h:aA) (J:JT):Prop:=
(bif (decide ((x7:Int)<30)) then
(C Y52.id [(AV.i .i64 x7)] h fun v7 h8=>
aL 0 v7 fun v9=>
asI .i64 v9 fun n10=>
aL 1 v7 fun v11=>
asI .i64 v11 fun n12=>
(bif (decide ((n10:Int)≤x0)) then
(J 2 [(0,(AV.i .i64 x0)),(3,(AV.i .i64 x7)),(7,(AV.i .i64 x7))] h8)
else
(J 2 [(0,(AV.i .i64 x0)),(3,(AV.i .i64 x3)),(7,(AV.i .i64 x7))] h8)))
else
(Q (AV.i .i64 x3) h))
theorem Y21.i0 {Q x0 x3 x7 h} (H:Y21.t0 Q x0 x3 x7 h (Y21.J Q)):Y21.p0 Q x0 x3 x7 h:=gH Y21.J Tryd.f45 Y21.dist [1,1,0,1,0] H
def Y21.t (Q:AV→aA→Prop) (x0:Int) (h:aA) (J:JT):Prop:=
J 1 [(0,(AV.i .i64 x0)),(3,(AV.i .i64 0)),(7,(AV.i .i64 0))] h
theorem Y21.call {K x0 h} (H:Y21.t (aH h K) x0 h (Y21.J (aH h K))):C Y21.id [(AV.i .i64 x0)] h K:=
 gC Y21.J Tryd.func45 Y21.dist H
end Go.Proofs.YtpaphfeihpgamaaDoor
