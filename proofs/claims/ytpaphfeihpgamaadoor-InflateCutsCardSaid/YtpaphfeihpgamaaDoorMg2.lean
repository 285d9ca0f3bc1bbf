/- Lemmas (several texts in one). -/
import Derived.Test.YtpaphfeihpgamaaDoorProg
import Derived.KernelRfl
import Derived.Test.YtpaphfeihpgamaaDoorMg1
set_option linter.unusedVariables false
set_option linter.unusedSectionVars false
set_option maxRecDepth 100000
namespace Go.Proofs.YtpaphfeihpgamaaDoor
open Go.GAM
noncomputable abbrev prog:Program:=Tryd.prog
class XR where
 X:aS
abbrev X [XR]:aS:=XR.X
abbrev C [XR]:aS:=dR prog X
abbrev lf:Ann:=.leaf
def nn:Nat→Nat→Go.GAM.Ord→Go.GAM.Ord
 | _,0,o=>o
 | i,k+1,o=>.neu i (nn (i+1) k o)
abbrev bl:Ann:=.br .leaf .leaf
abbrev sl (l:List Nat) (x:Ann):Ann:=.seq 0 l .leaf x
abbrev sq (l:List Nat) (x y:Ann):Ann:=.seq 0 l x y
theorem gR [XR] {ann:Ann} {body:Code} (J:(AV→aA→Prop)→JT) (fn:Func) (hd:aH (places ann body)=true) {Q:AV→aA→Prop} {k:Nat} (p:List Nat) {e:Env} {h:aA} {a:JT→Prop} (H:a (J Q)) (hJ:J=bL prog C fn ann body:=by exact rfl) (hl:iQ (places ann body) k=some (p,false):=by kernel_rfl) (he:∀ j,a j=atJ prog C fn.ntmps j false p ann body e h (nR prog fn Q):=by intro j; kernel_rfl):J Q k e h:=by
 subst hJ
 exact aCY (gX X) hd hl (he _ ▸ H)
theorem gH [XR] {ann:Ann} {body:Code} (J:(AV→aA→Prop)→JT) (fn:Func) (hd:aH (places ann body)=true) {Q:AV→aA→Prop} {k:Nat} (p:List Nat) {e:Env} {h:aA} {a:JT→Prop} (H:a (J Q)) (hJ:J=bL prog C fn ann body:=by exact rfl) (hl:iQ (places ann body) k=some (p,true):=by kernel_rfl) (he:∀ j,a j=atJ prog C fn.ntmps j true p ann body e h (nR prog fn Q):=by intro j; kernel_rfl):J Q k e h:=by
 subst hJ
 exact aAP (gX X) hd hl (he _ ▸ H)
theorem gC [XR] {f:FuncId} {fn:Func} {ann:Ann} {body:Code} (J:(AV→aA→Prop)→JT) (hf:prog.funcs[f]? = some fn) (hd:aH (places ann body)=true) {args:List AV} {h:aA} {K:AV→aA→Prop} {a:JT→Prop} (H:a (J (aK h K))) (hJ:J=bL prog C fn ann body:=by exact rfl) (hb:fn.body=some body:=by kernel_rfl) (hn:(fn.name == "runtime.NumGoroutine")=false:=by kernel_rfl) (ha:Nat.ble args.length fn.ntmps=true:=by kernel_rfl) (he:∀ j,a j=exJ prog C fn.ntmps j ann body (eD 0 args) h (nR prog fn (aK h K)):=by intro j; kernel_rfl):C f args h K:=by
 subst hJ
 exact aEZ hf hb hn hd ha (he _ ▸ H)
abbrev Y1.id:FuncId:=5
abbrev Y22.id:FuncId:=9
abbrev Y40.id:FuncId:=10
abbrev Y18.id:FuncId:=12
abbrev Y43.id:FuncId:=14
abbrev Y30.id:FuncId:=16
abbrev Y0.id:FuncId:=17
abbrev Y19.id:FuncId:=18
abbrev Y41.id:FuncId:=25
abbrev Y26.id:FuncId:=27
abbrev Y23.id:FuncId:=28
abbrev Y53.id:FuncId:=29
abbrev Y11.id:FuncId:=30
abbrev Y10.id:FuncId:=31
abbrev Y12.id:FuncId:=32
abbrev Y8.id:FuncId:=33
abbrev Y44.id:FuncId:=41
abbrev Y36.id:FuncId:=42
abbrev Y2.id:FuncId:=43
abbrev Y13.id:FuncId:=44
abbrev Y14.id:FuncId:=45
abbrev Y9.id:FuncId:=50
abbrev Y20.id:FuncId:=51
abbrev Y28.id:FuncId:=62
abbrev Y4.id:FuncId:=63
abbrev Y17.id:FuncId:=64
abbrev Y33.id:FuncId:=65
abbrev Y34.id:FuncId:=66
abbrev Y29.id:FuncId:=67
abbrev Y31.id:FuncId:=68
abbrev Y27.id:FuncId:=70
abbrev Y57.id:FuncId:=71
abbrev Y56.id:FuncId:=72
abbrev Y52.id:FuncId:=73
abbrev Y48.id:FuncId:=74
abbrev Y15.id:FuncId:=75
abbrev Y5.id:FuncId:=79
abbrev Y7.id:FuncId:=80
abbrev Y32.id:FuncId:=85
abbrev Y69.id:FuncId:=86
abbrev Y67.id:FuncId:=87
abbrev Y59.id:FuncId:=88
abbrev Y65.id:FuncId:=89
abbrev Y62.id:FuncId:=90
abbrev Y55.id:FuncId:=91
abbrev Y46.id:FuncId:=92
abbrev Y42.id:FuncId:=93
abbrev Y47.id:FuncId:=94
abbrev Y60.id:FuncId:=95
abbrev Y54.id:FuncId:=96
abbrev Y45.id:FuncId:=97
abbrev Y66.id:FuncId:=104
abbrev Y25.id:FuncId:=105
abbrev Y58.id:FuncId:=106
abbrev Y16.id:FuncId:=107
abbrev Y6.id:FuncId:=108
abbrev Y37.id:FuncId:=109
abbrev Y38.id:FuncId:=110
abbrev Y50.id:FuncId:=111
abbrev Y68.id:FuncId:=112
abbrev Y35.id:FuncId:=113
abbrev Y61.id:FuncId:=114
abbrev Y51.id:FuncId:=115
abbrev Y64.id:FuncId:=116
abbrev Y49.id:FuncId:=117
abbrev Y21.id:FuncId:=118
abbrev Y39.id:FuncId:=119
abbrev Y63.id:FuncId:=120
abbrev Y24.id:FuncId:=121
variable [XR]
noncomputable def Y22.body:Code:=(Tryd.f9.body).getD .skip
def Y22.ann:Ann:=(sl [] (sl [1,2] (sl [1,2,4] (.seq 1 [0] lf lf))))
theorem Y22.dist:aH (places Y22.ann Y22.body)=true:=by kernel_rfl
noncomputable def Y22.J (Q:AV→aA→Prop):JT:=bL prog C Tryd.f9 Y22.ann Y22.body Q
def Y22.p0 (Q:AV→aA→Prop) (x0:Bool) (h:aA):Prop:=Y22.J Q 1 [(0,(AV.b x0))] h
def Y22.t0 (Q:AV→aA→Prop) (x0:Bool) (h:aA) (J:JT):Prop:=
Q (AV.b x0) h
theorem Y22.i0 {Q x0 h} (H:Y22.t0 Q x0 h (Y22.J Q)):Y22.p0 Q x0 h:=gR Y22.J Tryd.f9 Y22.dist [1,1,1,1] H
def Y22.t (Q:AV→aA→Prop) (h:aA) (J:JT):Prop:=
C Y41.id [] h fun v1 h2=>
C Y40.id [(AV.s [75,4,0]),v1] h2 fun v3 h4=>
aN 0 v3 fun v5=>
asS v5 fun l6=>
aN 1 v3 fun v7=>
asI .i64 v7 fun n8=>
C Y41.id [] h4 fun v10 h11=>
C Y40.id [(AV.s [75,4]),v10] h11 fun v12 h13=>
aN 0 v12 fun v14=>
asS v14 fun l15=>
aN 1 v12 fun v16=>
asI .i64 v16 fun n17=>
(bif (decide ((l6:List UInt8)=[97])) then
((bif (decide ((n8:Int)=0)) then
((bif (decide ((n17:Int)=1)) then
(C Y18.id [(AV.s [97])] h13 fun v19 h20=>
asS v19 fun l21=>
(bif (decide ((l21:List UInt8)=[1,1,0,254,255,97])) then
(C Y43.id [(AV.s [97])] h20 fun v22 h23=>
asS v22 fun l24=>
(bif (decide ((l24:List UInt8)=[75,4,0])) then
(C Y43.id [(AV.s [97,97,97,97,97,97])] h23 fun v25 h26=>
asS v25 fun l27=>
J 1 [(0,(AV.b (decide ((l27:List UInt8)=[75,4,3,0]))))] h26)
else
(J 1 [(0,(AV.b false))] h23)))
else
(J 1 [(0,(AV.b false))] h20)))
else
(J 1 [(0,(AV.b false))] h13)))
else
(J 1 [(0,(AV.b false))] h13)))
else
(J 1 [(0,(AV.b false))] h13))
theorem Y22.call {K h} (H:Y22.t (aK h K) h (Y22.J (aK h K))):C Y22.id [] h K:=
 gC Y22.J Tryd.func9 Y22.dist H
noncomputable def Y40.body:Code:=(Tryd.f10.body).getD .skip
def Y40.ann:Ann:=(sl [0,3] (sl [0,6] (sl [6,7,8] (sq [7] (.one (sl [6,7,8,17] (.br (sl [4,5] lf) (sl [6,7,21] (.br (sl [4,5] lf) (sl [7,27] (.br (sl [4,5] lf) lf))))))) (sl [4,5] lf)))))
theorem Y40.dist:aH (places Y40.ann Y40.body)=true:=by kernel_rfl
noncomputable def Y40.J (Q:AV→aA→Prop):JT:=bL prog C Tryd.f10 Y40.ann Y40.body Q
def Y40.t (Q:AV→aA→Prop) (x0:List UInt8) (x1:AV) (h:aA) (J:JT):Prop:=
dD (some 23) x1 h fun v0 h1=>
cP 2 v0 h1 fun v3=>
C Y30.id [v3] h1 fun v4 h5=>
C Y0.id [v4,(AV.s x0)] h5 fun v7 h8=>
aN 0 v7 fun v9=>
asS v9 fun l10=>
aN 1 v7 fun v11=>
asI .i64 v11 fun n12=>
(bif (!decide ((n12:Int)=0)) then
(Q (AV.tu [(AV.s []),(AV.i .i64 n12)]) h8)
else
(aY v4 fun v16=>
aC 7 v16 fun v17=>
aB v17 h8 fun v18=>
asB v18 fun c19=>
(bif (!c19) then
(Q (AV.tu [(AV.s []),(AV.i .i64 1)]) h8)
else
(aY v4 fun v22=>
aC 10 v22 fun v23=>
aB v23 h8 fun v24=>
asS v24 fun l25=>
(bif (!(decide ((l25:List UInt8)=[]))) then
(Q (AV.tu [(AV.s []),(AV.i .i64 2)]) h8)
else
(Q (AV.tu [(AV.s l10),(AV.i .i64 0)]) h8))))))
theorem Y40.call {K x0 x1 h} (H:Y40.t (aK h K) x0 x1 h (Y40.J (aK h K))):C Y40.id [(AV.s x0),x1] h K:=
 gC Y40.J Tryd.func10 Y40.dist H
noncomputable def Y18.body:Code:=(Tryd.f12.body).getD .skip
def Y18.ann:Ann:=(sl [0] (sl [0,3] (.one (.loop 1 [0,3] (.one (sl [0,3,4] (sl [0,3,4,5] (.seq 2 [0,3,4,5] (sl [0,3,4,5,12] bl) (sl [0,3,4,5] (sl [0,3,4,5] (sl [0,3,5] (sl [0,3,36] (.br (sl [2] lf) lf)))))))))))))
theorem Y18.dist:aH (places Y18.ann Y18.body)=true:=by kernel_rfl
noncomputable def Y18.J (Q:AV→aA→Prop):JT:=bL prog C Tryd.f12 Y18.ann Y18.body Q
def Y18.p1 (Q:AV→aA→Prop) (x0:List UInt8) (x3:AV) (x4 x5:Int) (h:aA):Prop:=Y18.J Q 2 [(0,(AV.s x0)),(3,x3),(4,(AV.i .i64 x4)),(5,(AV.i .u8 x5))] h
def Y18.p0 (Q:AV→aA→Prop) (x0:List UInt8) (x3:AV) (h:aA):Prop:=Y18.J Q 1 [(0,(AV.s x0)),(3,x3)] h
def Y18.t1 (Q:AV→aA→Prop) (x0:List UInt8) (x3:AV) (x4 x5:Int) (h:aA) (J:JT):Prop:=
lU .i64 x4 8 fun n10=>
aO (bP .xor .u8 (IntKind.max .u8) (IntKind.wrap .u8 x4)) fun n11=>
lU .i64 x4 8 fun n12=>
aO (bP .xor .u8 (IntKind.max .u8) (IntKind.wrap .u8 n12)) fun n13=>
bQ 1 5 [(AV.i .u8 0),(AV.i .u8 0),(AV.i .u8 0),(AV.i .u8 0),(AV.i .u8 0)] [(0,1,(AV.i .u8 x5)),(1,1,(AV.i .u8 (IntKind.wrap .u8 x4))),(2,1,(AV.i .u8 (IntKind.wrap .u8 n10))),(3,1,(AV.i .u8 n11)),(4,1,(AV.i .u8 n13))] h fun v14 h15=>
C Y26.id [x3,v14] h15 fun v16 h17=>
bW (AV.s x0) none (some (AV.i .i64 x4)) fun l19=>
C Y23.id [x3,(AV.s l19)] h17 fun v20 h21=>
bW (AV.s x0) (some (AV.i .i64 x4)) none fun l23=>
(bif (decide ((x5:Int)=1)) then
(C Y53.id [x3] h21 fun v26 h27=>
asS v26 fun l28=>
Q (AV.s l28) h27)
else
(J 1 [(0,(AV.s l23)),(3,x3)] h21))
theorem Y18.i1 {Q x0 x3 x4 x5 h} (H:Y18.t1 Q x0 x3 x4 x5 h (Y18.J Q)):Y18.p1 Q x0 x3 x4 x5 h:=gR Y18.J Tryd.f12 Y18.dist [1,1,0,0,0,1,1,1] H
def Y18.t0 (Q:AV→aA→Prop) (x0:List UInt8) (x3:AV) (h:aA) (J:JT):Prop:=
aO (mmI false (x0.length:Int) 65535) fun n4=>
(bif (decide ((n4:Int)=(x0.length:Int))) then
(J 2 [(0,(AV.s x0)),(3,x3),(4,(AV.i .i64 n4)),(5,(AV.i .u8 1))] h)
else
(J 2 [(0,(AV.s x0)),(3,x3),(4,(AV.i .i64 n4)),(5,(AV.i .u8 0))] h))
theorem Y18.i0 {Q x0 x3 h} (H:Y18.t0 Q x0 x3 h (Y18.J Q)):Y18.p0 Q x0 x3 h:=gH Y18.J Tryd.f12 Y18.dist [1,1,0] H
def Y18.t (Q:AV→aA→Prop) (x0:List UInt8) (h:aA) (J:JT):Prop:=
cW (some 53) [(AV.sl none 0 none),(AV.i .i64 0),(AV.i .i8 0)] h fun v1 h2=>
J 1 [(0,(AV.s x0)),(3,v1)] h2
theorem Y18.call {K x0 h} (H:Y18.t (aK h K) x0 h (Y18.J (aK h K))):C Y18.id [(AV.s x0)] h K:=
 gC Y18.J Tryd.func12 Y18.dist H
noncomputable def Y43.body:Code:=(Tryd.f14.body).getD .skip
def Y43.ann:Ann:=(sl [0] (sl [0,3] (sl [0,3] (sl [0,3,4,5] (sl [3] (sl [2] lf))))))
theorem Y43.dist:aH (places Y43.ann Y43.body)=true:=by kernel_rfl
noncomputable def Y43.J (Q:AV→aA→Prop):JT:=bL prog C Tryd.f14 Y43.ann Y43.body Q
def Y43.t (Q:AV→aA→Prop) (x0:List UInt8) (h:aA) (J:JT):Prop:=
dD (some 62) (AV.ag [(AV.sl none 0 none),(AV.i .i64 0)]) h fun v1 h2=>
C Y11.id [v1,(AV.i .i64 3),(AV.i .i64 3)] h2 fun v4 h5=>
C Y10.id [] h5 fun v7 h8=>
aN 0 v7 fun v9=>
aN 1 v7 fun v10=>
C Y8.id [(AV.s x0)] h8 fun v12 h13=>
C Y12.id [v1,v12,v9,v10] h13 fun v14 h15=>
aY v1 fun v17=>
aC 0 v17 fun v18=>
aB v18 h15 fun v19=>
dA v19 h15 fun l20=>
Q (AV.s l20) h15
theorem Y43.call {K x0 h} (H:Y43.t (aK h K) x0 h (Y43.J (aK h K))):C Y43.id [(AV.s x0)] h K:=
 gC Y43.J Tryd.func14 Y43.dist H
noncomputable def Y30.body:Code:=(Tryd.f16.body).getD .skip
def Y30.ann:Ann:=(sl [1] (sq [3] (.ord (nn 0 2 (nn 3 2 (.eff 2 (.eff 5 (nn 6 2 (.eff 8 (.neu 9 .done) .stop)) .stop) .stop)))) (sl [3] (sl [2] lf))))
theorem Y30.dist:aH (places Y30.ann Y30.body)=true:=by kernel_rfl
noncomputable def Y30.J (Q:AV→aA→Prop):JT:=bL prog C Tryd.f16 Y30.ann Y30.body Q
def Y30.t (Q:AV→aA→Prop) (x0:AV) (h:aA) (J:JT):Prop:=
dD (some 23) x0 h fun v0 h1=>
aC 0 v0 fun v3=>
aB v3 h1 fun v4=>
asI .i64 v4 fun n5=>
aC 1 v0 fun v6=>
aB v6 h1 fun v7=>
asI .i64 v7 fun n8=>
C Y44.id [(AV.i .i64 n5),(AV.i .i64 0),(AV.i .i64 65536)] h1 fun v9 h10=>
asI .i64 v9 fun n11=>
aB v6 h10 fun v12=>
asI .i64 v12 fun n13=>
((AV.i .i64 n8)=(AV.i .i64 n13) ∧
(C Y44.id [(AV.i .i64 n8),(AV.i .i64 1),(AV.i .i64 1100)] h10 fun v14 h15=>
asI .i64 v14 fun n16=>
iD [(AV.i .i64 0),(AV.i .i64 0),(AV.sl none 0 none),(AV.i .i64 0),(AV.sl none 0 none),(AV.i .i64 0),(AV.b false),(AV.b false),(AV.b false),(AV.b false),(AV.s []),(AV.i .i64 0),(AV.i .i64 0),(AV.i .i64 0),(AV.p none),AV.nf] [(0,2,(AV.ag [(AV.i .i64 n11),(AV.i .i64 n16)]))] fun v17=>
dD (some 47) v17 h15 fun v18 h19=>
C Y36.id [v18] h19 fun v21 h22=>
asI .i64 v21 fun n23=>
Q v18 h22))
theorem Y30.call {K x0 h} (H:Y30.t (aK h K) x0 h (Y30.J (aK h K))):C Y30.id [x0] h K:=
 gC Y30.J Tryd.func16 Y30.dist H
noncomputable def Y0.body:Code:=(Tryd.f17.body).getD .skip
def Y0.ann:Ann:=(sl [0,1] (sq [0,1] (.one (sl [0,1,9] (.br (sl [4,5] lf) (.seq 1 [0,1,12] lf (.br (sl [4,5] lf) lf))))) (sl [0,1] (.seq 5 [0] (sl [0,1,27,28] (.one (.loop 2 [0,1,27,28] (sl [0,1,27,28,29] (sq [0,1,27,28] bl (sq [0,1,27,28] (.one (sl [0,1,6,27,28] (sl [0,1,6,27,28] (sl [0,1,6,27,28] (sq [0,1,6,27,28] (sl [0,1,6,7,27,28] (.one (.loop 3 [0,1,6,7,27,28] (sq [0,1,6,7,27,28] (.seq 4 [0,1,6,7,27,28,56] lf bl) (sq [0,1,6,7,27,28] (.one (sl [0,1,6,7,8,27,28] (sl [0,1,6,7,8,27,28,69] (.br (sl [0,8] (sl [4,5] lf)) lf)))) lf))))) (sl [0,1,6,27,28,82] (.br (sl [0] lf) lf))))))) lf)))))) (sl [4,5] lf)))))
theorem Y0.dist:aH (places Y0.ann Y0.body)=true:=by kernel_rfl
noncomputable def Y0.J (Q:AV→aA→Prop):JT:=bL prog C Tryd.f17 Y0.ann Y0.body Q
def Y0.p0 (Q:AV→aA→Prop) (x0:AV) (x1:List UInt8) (x12:Bool) (h:aA):Prop:=Y0.J Q 1 [(0,x0),(1,(AV.s x1)),(12,(AV.b x12))] h
def Y0.p3 (Q:AV→aA→Prop) (x0:AV) (x1:List UInt8) (x6 x7 x27 x28:Int) (x56:Bool) (h:aA):Prop:=Y0.J Q 4 [(0,x0),(1,(AV.s x1)),(6,(AV.i .i64 x6)),(7,(AV.i .i64 x7)),(27,(AV.i .i64 x27)),(28,(AV.i .i64 x28)),(56,(AV.b x56))] h
def Y0.p2 (Q:AV→aA→Prop) (x0:AV) (x1:List UInt8) (x6 x7 x27 x28:Int) (h:aA):Prop:=Y0.J Q 3 [(0,x0),(1,(AV.s x1)),(6,(AV.i .i64 x6)),(7,(AV.i .i64 x7)),(27,(AV.i .i64 x27)),(28,(AV.i .i64 x28))] h
def Y0.p1 (Q:AV→aA→Prop) (x0:AV) (x1:List UInt8) (x27 x28:Int) (h:aA):Prop:=Y0.J Q 2 [(0,x0),(1,(AV.s x1)),(27,(AV.i .i64 x27)),(28,(AV.i .i64 x28))] h
def Y0.p4 (Q:AV→aA→Prop) (x0:AV) (h:aA):Prop:=Y0.J Q 5 [(0,x0)] h
def Y0.t0 (Q:AV→aA→Prop) (x0:AV) (x1:List UInt8) (x12:Bool) (h:aA) (J:JT):Prop:=
(bif x12 then
(Q (AV.tu [(AV.s []),(AV.i .i64 10)]) h)
else
(aY x0 fun v17=>
aC 4 v17 fun v18=>
aU 1 v18 (AV.sl none 0 none) h fun h19=>
J 2 [(0,x0),(1,(AV.s x1)),(27,(AV.i .i64 (x1.length:Int))),(28,(AV.i .i64 0))] h19))
theorem Y0.i0 {Q x0 x1 x12 h} (H:Y0.t0 Q x0 x1 x12 h (Y0.J Q)):Y0.p0 Q x0 x1 x12 h:=gR Y0.J Tryd.f17 Y0.dist [1,0,0,1,1,1] H
def Y0.t3 (Q:AV→aA→Prop) (x0:AV) (x1:List UInt8) (x6 x7 x27 x28:Int) (x56:Bool) (h:aA) (J:JT):Prop:=
(bif x56 then
(e7 (AV.s x1) (AV.i .i64 x6) fun n53=>
lU .i64 (IntKind.wrap .i64 n53) x7 fun n54=>
C Y2.id [x0,(AV.i .i64 (bP .and .i64 n54 1))] h fun v55 h56=>
asI .i64 v55 fun n57=>
(bif (!decide ((n57:Int)=0)) then
(aY x0 fun v60=>
aC 8 v60 fun v61=>
aU 1 v61 (AV.b true) h56 fun h62=>
aY x0 fun v64=>
aC 4 v64 fun v65=>
aB v65 h62 fun v66=>
dA v66 h62 fun l67=>
Q (AV.tu [(AV.s l67),(AV.i .i64 n57)]) h62)
else
(aO (IntKind.wrap .i64 (x7+1)) fun n70=>
J 3 [(0,x0),(1,(AV.s x1)),(6,(AV.i .i64 x6)),(7,(AV.i .i64 n70)),(27,(AV.i .i64 x27)),(28,(AV.i .i64 x28))] h56)))
else
(aY x0 fun v72=>
aC 7 v72 fun v73=>
aB v73 h fun v74=>
asB v74 fun c75=>
(bif c75 then
(aO (IntKind.wrap .i64 (x6+1)) fun n77=>
bW (AV.s x1) (some (AV.i .i64 n77)) none fun l78=>
aY x0 fun v79=>
aC 10 v79 fun v80=>
aU 1 v80 (AV.s l78) h fun h81=>
J 5 [(0,x0)] h81)
else
(aO (IntKind.wrap .i64 (x28+1)) fun n85=>
J 2 [(0,x0),(1,(AV.s x1)),(27,(AV.i .i64 x27)),(28,(AV.i .i64 n85))] h))))
theorem Y0.i3 {Q x0 x1 x6 x7 x27 x28 x56 h} (H:Y0.t3 Q x0 x1 x6 x7 x27 x28 x56 h (Y0.J Q)):Y0.p3 Q x0 x1 x6 x7 x27 x28 x56 h:=gR Y0.J Tryd.f17 Y0.dist [1,1,1,0,1,0,0,1,1,0,0,1,1,1,0,1,0,0,0,1] H
def Y0.t2 (Q:AV→aA→Prop) (x0:AV) (x1:List UInt8) (x6 x7 x27 x28:Int) (h:aA) (J:JT):Prop:=
(bif (decide ((x7:Int)<8)) then
(aY x0 fun v40=>
aC 9 v40 fun v41=>
aB v41 h fun v42=>
asB v42 fun c43=>
(bif (!c43) then
(aY x0 fun v44=>
aC 7 v44 fun v45=>
aB v45 h fun v46=>
asB v46 fun c47=>
J 4 [(0,x0),(1,(AV.s x1)),(6,(AV.i .i64 x6)),(7,(AV.i .i64 x7)),(27,(AV.i .i64 x27)),(28,(AV.i .i64 x28)),(56,(AV.b (!c47)))] h)
else
(J 4 [(0,x0),(1,(AV.s x1)),(6,(AV.i .i64 x6)),(7,(AV.i .i64 x7)),(27,(AV.i .i64 x27)),(28,(AV.i .i64 x28)),(56,(AV.b false))] h)))
else
(J 4 [(0,x0),(1,(AV.s x1)),(6,(AV.i .i64 x6)),(7,(AV.i .i64 x7)),(27,(AV.i .i64 x27)),(28,(AV.i .i64 x28)),(56,(AV.b false))] h))
theorem Y0.i2 {Q x0 x1 x6 x7 x27 x28 h} (H:Y0.t2 Q x0 x1 x6 x7 x27 x28 h (Y0.J Q)):Y0.p2 Q x0 x1 x6 x7 x27 x28 h:=gH Y0.J Tryd.f17 Y0.dist [1,1,1,0,1,0,0,1,1,0,0,1,1,1,0,1,0] H
def Y0.t1 (Q:AV→aA→Prop) (x0:AV) (x1:List UInt8) (x27 x28:Int) (h:aA) (J:JT):Prop:=
(bif (decide ((x28:Int)<x27)) then
(aY x0 fun v26=>
aC 5 v26 fun v27=>
aB v27 h fun v28=>
asI .i64 v28 fun n29=>
aO (IntKind.wrap .i64 (n29+1)) fun n30=>
aY x0 fun v31=>
aC 5 v31 fun v32=>
aU 1 v32 (AV.i .i64 n30) h fun h33=>
aY x0 fun v35=>
aC 9 v35 fun v36=>
aU 1 v36 (AV.b false) h33 fun h37=>
J 3 [(0,x0),(1,(AV.s x1)),(6,(AV.i .i64 x28)),(7,(AV.i .i64 0)),(27,(AV.i .i64 x27)),(28,(AV.i .i64 x28))] h37)
else
(J 5 [(0,x0)] h))
theorem Y0.i1 {Q x0 x1 x27 x28 h} (H:Y0.t1 Q x0 x1 x27 x28 h (Y0.J Q)):Y0.p1 Q x0 x1 x27 x28 h:=gH Y0.J Tryd.f17 Y0.dist [1,1,1,0,1,0] H
def Y0.t4 (Q:AV→aA→Prop) (x0:AV) (h:aA) (J:JT):Prop:=
aY x0 fun v87=>
aC 4 v87 fun v88=>
aB v88 h fun v89=>
dA v89 h fun l90=>
Q (AV.tu [(AV.s l90),(AV.i .i64 0)]) h
theorem Y0.i4 {Q x0 h} (H:Y0.t4 Q x0 h (Y0.J Q)):Y0.p4 Q x0 h:=gR Y0.J Tryd.f17 Y0.dist [1,1,1,1] H
def Y0.t (Q:AV→aA→Prop) (x0:AV) (x1:List UInt8) (h:aA) (J:JT):Prop:=
dN prog .eql 32 x0 (AV.p none) fun v1=>
asB v1 fun c2=>
(bif c2 then
(Q (AV.tu [(AV.s []),(AV.i .i64 6)]) h)
else
(aY x0 fun v5=>
aC 8 v5 fun v6=>
aB v6 h fun v7=>
asB v7 fun c8=>
(bif c8 then
(J 1 [(0,x0),(1,(AV.s x1)),(12,(AV.b true))] h)
else
(aY x0 fun v10=>
aC 7 v10 fun v11=>
aB v11 h fun v12=>
asB v12 fun c13=>
J 1 [(0,x0),(1,(AV.s x1)),(12,(AV.b c13))] h))))
theorem Y0.call {K x0 x1 h} (H:Y0.t (aK h K) x0 x1 h (Y0.J (aK h K))):C Y0.id [x0,(AV.s x1)] h K:=
 gC Y0.J Tryd.func17 Y0.dist H
noncomputable def Y19.body:Code:=(Tryd.f18.body).getD .skip
def Y19.ann:Ann:=(sl [0] (.seq 1 [2] lf lf))
theorem Y19.dist:aH (places Y19.ann Y19.body)=true:=by kernel_rfl
noncomputable def Y19.J (Q:AV→aA→Prop):JT:=bL prog C Tryd.f18 Y19.ann Y19.body Q
def Y19.p0 (Q:AV→aA→Prop) (x2:Bool) (h:aA):Prop:=Y19.J Q 1 [(2,(AV.b x2))] h
def Y19.t0 (Q:AV→aA→Prop) (x2:Bool) (h:aA) (J:JT):Prop:=
Q (AV.b x2) h
theorem Y19.i0 {Q x2 h} (H:Y19.t0 Q x2 h (Y19.J Q)):Y19.p0 Q x2 h:=gR Y19.J Tryd.f18 Y19.dist [1,1] H
def Y19.t (Q:AV→aA→Prop) (x0:AV) (h:aA) (J:JT):Prop:=
dN prog .neq 32 x0 (AV.p none) fun v1=>
asB v1 fun c2=>
(bif c2 then
(aY x0 fun v3=>
aC 7 v3 fun v4=>
aB v4 h fun v5=>
asB v5 fun c6=>
J 1 [(2,(AV.b c6))] h)
else
(J 1 [(2,(AV.b false))] h))
theorem Y19.call {K x0 h} (H:Y19.t (aK h K) x0 h (Y19.J (aK h K))):C Y19.id [x0] h K:=
 gC Y19.J Tryd.func18 Y19.dist H
noncomputable def Y41.body:Code:=(Tryd.f25.body).getD .skip
def Y41.ann:Ann:=(sl [0] (sl [0] lf))
theorem Y41.dist:aH (places Y41.ann Y41.body)=true:=by kernel_rfl
noncomputable def Y41.J (Q:AV→aA→Prop):JT:=bL prog C Tryd.f25 Y41.ann Y41.body Q
def Y41.t (Q:AV→aA→Prop) (h:aA) (J:JT):Prop:=
cW (some 23) [(AV.i .i64 0),(AV.i .i64 0)] h fun v0 h1=>
aU 2 v0 (AV.ag [(AV.i .i64 65536),(AV.i .i64 1100)]) h1 fun h3=>
cP 2 v0 h3 fun v5=>
Q v5 h3
theorem Y41.call {K h} (H:Y41.t (aK h K) h (Y41.J (aK h K))):C Y41.id [] h K:=
 gC Y41.J Tryd.func25 Y41.dist H
noncomputable def Y26.body:Code:=(Tryd.f27.body).getD .skip
def Y26.ann:Ann:=(sl [0,1] (sl [0,1] (sl [0,1,6,7] (.seq 1 [0,1,6] (sl [0,1,6,19] bl) (sl [4,5] lf)))))
theorem Y26.dist:aH (places Y26.ann Y26.body)=true:=by kernel_rfl
noncomputable def Y26.J (Q:AV→aA→Prop):JT:=bL prog C Tryd.f27 Y26.ann Y26.body Q
def Y26.p0 (Q:AV→aA→Prop) (x0 x1:AV) (x6:Int) (h:aA):Prop:=Y26.J Q 1 [(0,x0),(1,x1),(6,(AV.i .i64 x6))] h
def Y26.t0 (Q:AV→aA→Prop) (x0 x1:AV) (x6:Int) (h:aA) (J:JT):Prop:=
aY x0 fun v20=>
aC 0 v20 fun v21=>
aB v21 h fun v22=>
bJ 1 v22 (some (AV.i .i64 x6)) none none h fun v23=>
j8 1 v23 x1 h fun v24 h25=>
asI .i64 v24 fun n26=>
Q (AV.tu [(AV.i .i64 n26),AV.ni]) h25
theorem Y26.i0 {Q x0 x1 x6 h} (H:Y26.t0 Q x0 x1 x6 h (Y26.J Q)):Y26.p0 Q x0 x1 x6 h:=gR Y26.J Tryd.f27 Y26.dist [1,1,1,1] H
def Y26.t (Q:AV→aA→Prop) (x0 x1:AV) (h:aA) (J:JT):Prop:=
aY x0 fun v1=>
aC 2 v1 fun v2=>
aU 1 v2 (AV.i .i8 0) h fun h3=>
bX x1 fun n5=>
C Y28.id [x0,(AV.i .i64 n5)] h3 fun v6 h7=>
aN 0 v6 fun v8=>
asI .i64 v8 fun n9=>
aN 1 v6 fun v10=>
asB v10 fun c11=>
(bif (!c11) then
(bX x1 fun n14=>
C Y4.id [x0,(AV.i .i64 n14)] h7 fun v15 h16=>
asI .i64 v15 fun n17=>
J 1 [(0,x0),(1,x1),(6,(AV.i .i64 n17))] h16)
else
(J 1 [(0,x0),(1,x1),(6,(AV.i .i64 n9))] h7))
theorem Y26.call {K x0 x1 h} (H:Y26.t (aK h K) x0 x1 h (Y26.J (aK h K))):C Y26.id [x0,x1] h K:=
 gC Y26.J Tryd.func27 Y26.dist H
noncomputable def Y23.body:Code:=(Tryd.f28.body).getD .skip
def Y23.ann:Ann:=(sl [0,1] (sl [0,1] (sl [0,1,6,7] (.seq 1 [0,1,6] (sl [0,1,6,19] bl) (sl [4,5] lf)))))
theorem Y23.dist:aH (places Y23.ann Y23.body)=true:=by kernel_rfl
noncomputable def Y23.J (Q:AV→aA→Prop):JT:=bL prog C Tryd.f28 Y23.ann Y23.body Q
def Y23.p0 (Q:AV→aA→Prop) (x0:AV) (x1:List UInt8) (x6:Int) (h:aA):Prop:=Y23.J Q 1 [(0,x0),(1,(AV.s x1)),(6,(AV.i .i64 x6))] h
def Y23.t0 (Q:AV→aA→Prop) (x0:AV) (x1:List UInt8) (x6:Int) (h:aA) (J:JT):Prop:=
aY x0 fun v18=>
aC 0 v18 fun v19=>
aB v19 h fun v20=>
bJ 1 v20 (some (AV.i .i64 x6)) none none h fun v21=>
j8 1 v21 (AV.s x1) h fun v22 h23=>
asI .i64 v22 fun n24=>
Q (AV.tu [(AV.i .i64 n24),AV.ni]) h23
theorem Y23.i0 {Q x0 x1 x6 h} (H:Y23.t0 Q x0 x1 x6 h (Y23.J Q)):Y23.p0 Q x0 x1 x6 h:=gR Y23.J Tryd.f28 Y23.dist [1,1,1,1] H
def Y23.t (Q:AV→aA→Prop) (x0:AV) (x1:List UInt8) (h:aA) (J:JT):Prop:=
aY x0 fun v1=>
aC 2 v1 fun v2=>
aU 1 v2 (AV.i .i8 0) h fun h3=>
C Y28.id [x0,(AV.i .i64 (x1.length:Int))] h3 fun v5 h6=>
aN 0 v5 fun v7=>
asI .i64 v7 fun n8=>
aN 1 v5 fun v9=>
asB v9 fun c10=>
(bif (!c10) then
(C Y4.id [x0,(AV.i .i64 (x1.length:Int))] h6 fun v13 h14=>
asI .i64 v13 fun n15=>
J 1 [(0,x0),(1,(AV.s x1)),(6,(AV.i .i64 n15))] h14)
else
(J 1 [(0,x0),(1,(AV.s x1)),(6,(AV.i .i64 n8))] h6))
theorem Y23.call {K x0 x1 h} (H:Y23.t (aK h K) x0 x1 h (Y23.J (aK h K))):C Y23.id [x0,(AV.s x1)] h K:=
 gC Y23.J Tryd.func28 Y23.dist H
noncomputable def Y53.body:Code:=(Tryd.f29.body).getD .skip
def Y53.ann:Ann:=(sl [0] (sq [0] (sl [0,4] (.br (sl [2] lf) lf)) (sq [2] (.ord (nn 0 11 .done)) lf)))
theorem Y53.dist:aH (places Y53.ann Y53.body)=true:=by kernel_rfl
noncomputable def Y53.J (Q:AV→aA→Prop):JT:=bL prog C Tryd.f29 Y53.ann Y53.body Q
def Y53.t (Q:AV→aA→Prop) (x0:AV) (h:aA) (J:JT):Prop:=
dN prog .eql 100 x0 (AV.p none) fun v1=>
asB v1 fun c2=>
(bif c2 then
(Q (AV.s [60,110,105,108,62]) h)
else
(aY x0 fun v6=>
aC 0 v6 fun v7=>
aB v7 h fun v8=>
aY x0 fun v9=>
aC 1 v9 fun v10=>
aB v10 h fun v11=>
asI .i64 v11 fun n12=>
bJ 1 v8 (some (AV.i .i64 n12)) none none h fun v13=>
dA v13 h fun l14=>
Q (AV.s l14) h))
theorem Y53.call {K x0 h} (H:Y53.t (aK h K) x0 h (Y53.J (aK h K))):C Y53.id [x0] h K:=
 gC Y53.J Tryd.func29 Y53.dist H
noncomputable def Y11.body:Code:=(Tryd.f30.body).getD .skip
def Y11.ann:Ann:=(sl [0,1,7,8] (.one (.loop 1 [0,1,7,8] (sl [0,1,7,8,9] (sq [0,1,7,8] bl (sq [0,1,7,8] (.one (sl [0,1,6,7,8] (.seq 2 [0,1,6,7,8] (sl [0,1,6,7,8,15] (.br (sl [0,1,6,7,8] lf) lf)) (sq [0,1,7,8] (.ord (nn 0 25 (.eff 25 .done .stop))) lf)))) lf))))))
theorem Y11.dist:aH (places Y11.ann Y11.body)=true:=by kernel_rfl
noncomputable def Y11.J (Q:AV→aA→Prop):JT:=bL prog C Tryd.f30 Y11.ann Y11.body Q
def Y11.p1 (Q:AV→aA→Prop) (x0:AV) (x1 x6 x7 x8:Int) (h:aA):Prop:=Y11.J Q 2 [(0,x0),(1,(AV.i .i64 x1)),(6,(AV.i .i64 x6)),(7,(AV.i .i64 x7)),(8,(AV.i .i64 x8))] h
def Y11.p0 (Q:AV→aA→Prop) (x0:AV) (x1 x7 x8:Int) (h:aA):Prop:=Y11.J Q 1 [(0,x0),(1,(AV.i .i64 x1)),(7,(AV.i .i64 x7)),(8,(AV.i .i64 x8))] h
def Y11.t1 (Q:AV→aA→Prop) (x0:AV) (x1 x6 x7 x8:Int) (h:aA) (J:JT):Prop:=
aY x0 fun v25=>
aC 0 v25 fun v26=>
aB v26 h fun v27=>
aY x0 fun v28=>
aC 0 v28 fun v29=>
aB v29 h fun v30=>
bX v30 fun n31=>
aO (IntKind.wrap .i64 (n31 - 1)) fun n32=>
aX 1 v27 (AV.i .i64 n32) h fun v33=>
aB v33 h fun v34=>
asI .u8 v34 fun n35=>
lU .i64 x1 x6 fun n36=>
aO (IntKind.wrap .u8 (bP .and .i64 n36 1)) fun n37=>
aY x0 fun v38=>
aC 1 v38 fun v39=>
aB v39 h fun v40=>
asI .i64 v40 fun n41=>
aO (IntKind.wrap .i64 (8 - n41)) fun n42=>
nQ .u8 n37 n42 fun n43=>
aX 1 v27 (AV.i .i64 n32) h fun v44=>
aU 1 v44 (AV.i .u8 (bP .or .u8 n35 n43)) h fun h45=>
aY x0 fun v47=>
aC 1 v47 fun v48=>
aB v48 h45 fun v49=>
asI .i64 v49 fun n50=>
aO (IntKind.wrap .i64 (n50 - 1)) fun n51=>
aY x0 fun v52=>
aC 1 v52 fun v53=>
aU 1 v53 (AV.i .i64 n51) h45 fun h54=>
aO (IntKind.wrap .i64 (x8+1)) fun n56=>
J 1 [(0,x0),(1,(AV.i .i64 x1)),(7,(AV.i .i64 x7)),(8,(AV.i .i64 n56))] h54
theorem Y11.i1 {Q x0 x1 x6 x7 x8 h} (H:Y11.t1 Q x0 x1 x6 x7 x8 h (Y11.J Q)):Y11.p1 Q x0 x1 x6 x7 x8 h:=gR Y11.J Tryd.f30 Y11.dist [1,0,0,1,1,0,0,1,1] H
def Y11.t0 (Q:AV→aA→Prop) (x0:AV) (x1 x7 x8:Int) (h:aA) (J:JT):Prop:=
(bif (decide ((x8:Int)<x7)) then
(aY x0 fun v4=>
aC 1 v4 fun v5=>
aB v5 h fun v6=>
asI .i64 v6 fun n7=>
(bif (decide ((n7:Int)=0)) then
(aY x0 fun v9=>
aC 0 v9 fun v10=>
aB v10 h fun v11=>
bQ 1 1 [(AV.i .u8 0)] [(0,1,(AV.i .u8 0))] h fun v12 h13=>
bU (some 5) 1 1 v11 v12 h13 fun v14 h15=>
aY x0 fun v16=>
aC 0 v16 fun v17=>
aU 1 v17 v14 h15 fun h18=>
aY x0 fun v20=>
aC 1 v20 fun v21=>
aU 1 v21 (AV.i .i64 8) h18 fun h22=>
J 2 [(0,x0),(1,(AV.i .i64 x1)),(6,(AV.i .i64 x8)),(7,(AV.i .i64 x7)),(8,(AV.i .i64 x8))] h22)
else
(J 2 [(0,x0),(1,(AV.i .i64 x1)),(6,(AV.i .i64 x8)),(7,(AV.i .i64 x7)),(8,(AV.i .i64 x8))] h)))
else
(Q (AV.tu []) h))
theorem Y11.i0 {Q x0 x1 x7 x8 h} (H:Y11.t0 Q x0 x1 x7 x8 h (Y11.J Q)):Y11.p0 Q x0 x1 x7 x8 h:=gH Y11.J Tryd.f30 Y11.dist [1,0] H
def Y11.t (Q:AV→aA→Prop) (x0:AV) (x1 x2:Int) (h:aA) (J:JT):Prop:=
J 1 [(0,x0),(1,(AV.i .i64 x1)),(7,(AV.i .i64 x2)),(8,(AV.i .i64 0))] h
theorem Y11.call {K x0 x1 x2 h} (H:Y11.t (aK h K) x0 x1 x2 h (Y11.J (aK h K))):C Y11.id [x0,(AV.i .i64 x1),(AV.i .i64 x2)] h K:=
 gC Y11.J Tryd.func30 Y11.dist H
noncomputable def Y10.body:Code:=(Tryd.f31.body).getD .skip
def Y10.ann:Ann:=(sl [0] (sq [0] (sl [0,3] (.one (.loop 1 [0,3] (sl [0,3,4] (sq [0,3] bl (.seq 3 [0,3] (.one (sl [0,2,3] (.one (.seq 2 [0,2,3,9] lf (.br lf (sl [0,3,19] bl)))))) lf)))))) (sl [0,1] lf)))
theorem Y10.dist:aH (places Y10.ann Y10.body)=true:=by kernel_rfl
noncomputable def Y10.J (Q:AV→aA→Prop):JT:=bL prog C Tryd.f31 Y10.ann Y10.body Q
def Y10.p1 (Q:AV→aA→Prop) (x0:AV) (x2 x3:Int) (x9:Bool) (h:aA):Prop:=Y10.J Q 2 [(0,x0),(2,(AV.i .i64 x2)),(3,(AV.i .i64 x3)),(9,(AV.b x9))] h
def Y10.p2 (Q:AV→aA→Prop) (x0:AV) (x3:Int) (h:aA):Prop:=Y10.J Q 3 [(0,x0),(3,(AV.i .i64 x3))] h
def Y10.p0 (Q:AV→aA→Prop) (x0:AV) (x3:Int) (h:aA):Prop:=Y10.J Q 1 [(0,x0),(3,(AV.i .i64 x3))] h
def Y10.t1 (Q:AV→aA→Prop) (x0:AV) (x2 x3:Int) (x9:Bool) (h:aA) (J:JT):Prop:=
(bif x9 then
(bQ 1 1 [(AV.i .i64 0)] [(0,1,(AV.i .i64 8))] h fun v8 h9=>
bU none 1 8 x0 v8 h9 fun v10 h11=>
J 3 [(0,v10),(3,(AV.i .i64 x3))] h11)
else
((bif (decide ((x2:Int)<256)) then
(bQ 1 1 [(AV.i .i64 0)] [(0,1,(AV.i .i64 9))] h fun v14 h15=>
bU none 1 8 x0 v14 h15 fun v16 h17=>
J 3 [(0,v16),(3,(AV.i .i64 x3))] h17)
else
(bQ 1 1 [(AV.i .i64 0)] [(0,1,(AV.i .i64 7))] h fun v19 h20=>
bU none 1 8 x0 v19 h20 fun v21 h22=>
J 3 [(0,v21),(3,(AV.i .i64 x3))] h22))))
theorem Y10.i1 {Q x0 x2 x3 x9 h} (H:Y10.t1 Q x0 x2 x3 x9 h (Y10.J Q)):Y10.p1 Q x0 x2 x3 x9 h:=gR Y10.J Tryd.f31 Y10.dist [1,0,1,0,0,1,1,0,0,1,0,1] H
def Y10.t2 (Q:AV→aA→Prop) (x0:AV) (x3:Int) (h:aA) (J:JT):Prop:=
aO (IntKind.wrap .i64 (x3+1)) fun n24=>
J 1 [(0,x0),(3,(AV.i .i64 n24))] h
theorem Y10.i2 {Q x0 x3 h} (H:Y10.t2 Q x0 x3 h (Y10.J Q)):Y10.p2 Q x0 x3 h:=gR Y10.J Tryd.f31 Y10.dist [1,0,1,0,0,1,1,1] H
def Y10.t0 (Q:AV→aA→Prop) (x0:AV) (x3:Int) (h:aA) (J:JT):Prop:=
(bif (decide ((x3:Int)<288)) then
((bif (decide ((x3:Int)<144)) then
(J 2 [(0,x0),(2,(AV.i .i64 x3)),(3,(AV.i .i64 x3)),(9,(AV.b true))] h)
else
(J 2 [(0,x0),(2,(AV.i .i64 x3)),(3,(AV.i .i64 x3)),(9,(AV.b (decide ((280:Int)≤x3))))] h)))
else
(bQ 1 1 [(AV.i .i64 0)] [(0,1,(AV.i .i64 5))] h fun v26 h27=>
C Y17.id [v26,(AV.i .i64 32)] h27 fun v28 h29=>
Q (AV.tu [x0,v28]) h29))
theorem Y10.i0 {Q x0 x3 h} (H:Y10.t0 Q x0 x3 h (Y10.J Q)):Y10.p0 Q x0 x3 h:=gH Y10.J Tryd.f31 Y10.dist [1,0,1,0] H
def Y10.t (Q:AV→aA→Prop) (h:aA) (J:JT):Prop:=
J 1 [(0,(AV.sl none 0 none)),(3,(AV.i .i64 0))] h
theorem Y10.call {K h} (H:Y10.t (aK h K) h (Y10.J (aK h K))):C Y10.id [] h K:=
 gC Y10.J Tryd.func31 Y10.dist H
noncomputable def Y12.body:Code:=(Tryd.f32.body).getD .skip
def Y12.ann:Ann:=(sl [0,1,2,3,8,9] (sq [0,2,8] (sl [0,2,3,8,9,19,20,21] (.one (.loop 1 [0,2,3,8,9,19,20,21] (sl [0,2,3,8,9,19,20,21,22] (sq [0,2,3,8,9,19,20,21] bl (.seq 2 [0,2,3,8,9,19,20,21] (.one (sl [0,2,3,8,9,11,19,20,21] (sq [0,2,3,8,9,11,19,20,21] (sl [0,2,3,8,9,11,19,20,21,27] (.br (sl [0,2,3,8,9,19,20,21] lf) lf)) (sl [0,2,3,8,9,11,12,19,20,21] (sl [0,2,3,8,9,11,12,13,14,19,20,21] (sl [0,2,3,8,9,11,13,14,19,20,21] (sl [0,2,3,8,9,11,19,20,21] (sl [0,2,3,8,9,11,12,19,20,21] (sl [0,2,3,8,9,11,12,13,14,19,20,21] (sl [0,2,3,8,9,11,13,14,19,20,21] lf)))))))))) lf)))))) lf))
theorem Y12.dist:aH (places Y12.ann Y12.body)=true:=by kernel_rfl
noncomputable def Y12.J (Q:AV→aA→Prop):JT:=bL prog C Tryd.f32 Y12.ann Y12.body Q
def Y12.p1 (Q:AV→aA→Prop) (x0 x2 x3 x8 x9 x19:AV) (x20 x21:Int) (h:aA):Prop:=Y12.J Q 2 [(0,x0),(2,x2),(3,x3),(8,x8),(9,x9),(19,x19),(20,(AV.i .i64 x20)),(21,(AV.i .i64 x21))] h
def Y12.p0 (Q:AV→aA→Prop) (x0 x2 x3 x8 x9 x19:AV) (x20 x21:Int) (h:aA):Prop:=Y12.J Q 1 [(0,x0),(2,x2),(3,x3),(8,x8),(9,x9),(19,x19),(20,(AV.i .i64 x20)),(21,(AV.i .i64 x21))] h
def Y12.t1 (Q:AV→aA→Prop) (x0 x2 x3 x8 x9 x19:AV) (x20 x21:Int) (h:aA) (J:JT):Prop:=
aO (IntKind.wrap .i64 (x21+1)) fun n76=>
J 1 [(0,x0),(2,x2),(3,x3),(8,x8),(9,x9),(19,x19),(20,(AV.i .i64 x20)),(21,(AV.i .i64 n76))] h
theorem Y12.i1 {Q x0 x2 x3 x8 x9 x19 x20 x21 h} (H:Y12.t1 Q x0 x2 x3 x8 x9 x19 x20 x21 h (Y12.J Q)):Y12.p1 Q x0 x2 x3 x8 x9 x19 x20 x21 h:=gR Y12.J Tryd.f32 Y12.dist [1,0,1,0,0,1,1,1] H
def Y12.t0 (Q:AV→aA→Prop) (x0 x2 x3 x8 x9 x19:AV) (x20 x21:Int) (h:aA) (J:JT):Prop:=
(bif (decide ((x21:Int)<x20)) then
(aX 3 x19 (AV.i .i64 x21) h fun v10=>
cP 3 v10 h fun v11=>
cW (some 82) [(AV.i .u8 0),(AV.i .i64 0),(AV.i .i64 0)] h fun v12 h13=>
aU 3 v12 v11 h13 fun h14=>
aC 1 v12 fun v16=>
aB v16 h14 fun v17=>
asI .i64 v17 fun n18=>
(bif (decide ((n18:Int)=0)) then
(aC 0 v12 fun v20=>
aB v20 h14 fun v21=>
asI .u8 v21 fun n22=>
C Y20.id [x0,x8,x2,(AV.i .i64 (IntKind.wrap .i64 n22))] h14 fun v23 h24=>
J 2 [(0,x0),(2,x2),(3,x3),(8,x8),(9,x9),(19,x19),(20,(AV.i .i64 x20)),(21,(AV.i .i64 x21))] h24)
else
(aC 1 v12 fun v28=>
aB v28 h14 fun v29=>
asI .i64 v29 fun n30=>
C Y13.id [(AV.i .i64 n30)] h14 fun v31 h32=>
asI .i64 v31 fun n33=>
C Y33.id [(AV.i .i64 n33)] h32 fun v35 h36=>
aN 0 v35 fun v37=>
asI .i64 v37 fun n38=>
aN 1 v35 fun v39=>
asI .i64 v39 fun n40=>
C Y20.id [x0,x8,x2,(AV.i .i64 n33)] h36 fun v42 h43=>
aC 1 v12 fun v45=>
aB v45 h43 fun v46=>
asI .i64 v46 fun n47=>
aO (IntKind.wrap .i64 (n47 - n38)) fun n48=>
C Y11.id [x0,(AV.i .i64 n48),(AV.i .i64 n40)] h43 fun v49 h50=>
aC 2 v12 fun v52=>
aB v52 h50 fun v53=>
asI .i64 v53 fun n54=>
C Y14.id [(AV.i .i64 n54)] h50 fun v55 h56=>
asI .i64 v55 fun n57=>
C Y34.id [(AV.i .i64 n57)] h56 fun v59 h60=>
aN 0 v59 fun v61=>
asI .i64 v61 fun n62=>
aN 1 v59 fun v63=>
asI .i64 v63 fun n64=>
C Y20.id [x0,x9,x3,(AV.i .i64 n57)] h60 fun v66 h67=>
aC 2 v12 fun v69=>
aB v69 h67 fun v70=>
asI .i64 v70 fun n71=>
aO (IntKind.wrap .i64 (n71 - n62)) fun n72=>
C Y11.id [x0,(AV.i .i64 n72),(AV.i .i64 n64)] h67 fun v73 h74=>
J 2 [(0,x0),(2,x2),(3,x3),(8,x8),(9,x9),(19,x19),(20,(AV.i .i64 x20)),(21,(AV.i .i64 x21))] h74)))
else
(C Y20.id [x0,x8,x2,(AV.i .i64 256)] h fun v78 h79=>
Q (AV.tu []) h79))
theorem Y12.i0 {Q x0 x2 x3 x8 x9 x19 x20 x21 h} (H:Y12.t0 Q x0 x2 x3 x8 x9 x19 x20 x21 h (Y12.J Q)):Y12.p0 Q x0 x2 x3 x8 x9 x19 x20 x21 h:=gH Y12.J Tryd.f32 Y12.dist [1,0,1,0] H
def Y12.t (Q:AV→aA→Prop) (x0 x1 x2 x3:AV) (h:aA) (J:JT):Prop:=
C Y9.id [x2] h fun v0 h1=>
C Y9.id [x3] h1 fun v2 h3=>
bX x1 fun n5=>
J 1 [(0,x0),(2,x2),(3,x3),(8,v0),(9,v2),(19,x1),(20,(AV.i .i64 n5)),(21,(AV.i .i64 0))] h3
theorem Y12.call {K x0 x1 x2 x3 h} (H:Y12.t (aK h K) x0 x1 x2 x3 h (Y12.J (aK h K))):C Y12.id [x0,x1,x2,x3] h K:=
 gC Y12.J Tryd.func32 Y12.dist H
noncomputable def Y8.body:Code:=(Tryd.f33.body).getD .skip
def Y8.ann:Ann:=(sl [1] (sl [1,3] (sl [1,3,4] (sl [1,3,4,5] (sq [3] (sl [1,3,4,5,6] (.one (.loop 1 [1,3,4,5,6] (sq [1,3,4,5,6] (sl [1,3,4,5,6,13] bl) (.one (sl [1,3,4,5,6,7] (.seq 2 [1,3,4,5,6,7] (sl [1,3,4,5,6,7,22] (.br (.ord (nn 0 9 (.eff 9 (nn 10 4 (.eff 14 (.neu 15 (.eff 16 .done .stop)) .stop)) .stop))) lf)) (sl [1,3,4,5,6,7] (sl [1,3,4,5,6,44,45] (.one (.loop 3 [1,3,4,5,6,44,45] (sl [1,3,4,5,6,44,45,46] (sq [1,3,4,5,6,44,45] bl (sq [1,3,4,5,6,44,45] (.one (sl [1,3,4,5,6,44,45] lf)) lf)))))))))))))) (sl [2] lf))))))
theorem Y8.dist:aH (places Y8.ann Y8.body)=true:=by kernel_rfl
noncomputable def Y8.J (Q:AV→aA→Prop):JT:=bL prog C Tryd.f33 Y8.ann Y8.body Q
def Y8.p2 (Q:AV→aA→Prop) (x1 x3 x4 x5:AV) (x6 x44 x45:Int) (h:aA):Prop:=Y8.J Q 3 [(1,x1),(3,x3),(4,x4),(5,x5),(6,(AV.i .i64 x6)),(44,(AV.i .i64 x44)),(45,(AV.i .i64 x45))] h
def Y8.p1 (Q:AV→aA→Prop) (x1 x3 x4 x5:AV) (x6:Int) (x7:AV) (h:aA):Prop:=Y8.J Q 2 [(1,x1),(3,x3),(4,x4),(5,x5),(6,(AV.i .i64 x6)),(7,x7)] h
def Y8.p0 (Q:AV→aA→Prop) (x1 x3 x4 x5:AV) (x6:Int) (h:aA):Prop:=Y8.J Q 1 [(1,x1),(3,x3),(4,x4),(5,x5),(6,(AV.i .i64 x6))] h
def Y8.t2 (Q:AV→aA→Prop) (x1 x3 x4 x5:AV) (x6 x44 x45:Int) (h:aA) (J:JT):Prop:=
(bif (decide ((x45:Int)<x44)) then
(bV C x5 [(AV.i .i64 x6)] h fun v61 h62=>
aO (IntKind.wrap .i64 (x6+1)) fun n64=>
aO (IntKind.wrap .i64 (x45+1)) fun n66=>
J 3 [(1,x1),(3,x3),(4,x4),(5,x5),(6,(AV.i .i64 n64)),(44,(AV.i .i64 x44)),(45,(AV.i .i64 n66))] h62)
else
(J 1 [(1,x1),(3,x3),(4,x4),(5,x5),(6,(AV.i .i64 x6))] h))
theorem Y8.i2 {Q x1 x3 x4 x5 x6 x44 x45 h} (H:Y8.t2 Q x1 x3 x4 x5 x6 x44 x45 h (Y8.J Q)):Y8.p2 Q x1 x3 x4 x5 x6 x44 x45 h:=gH Y8.J Tryd.f33 Y8.dist [1,1,1,1,0,1,0,0,1,0,1,1,1,1,0] H
def Y8.t1 (Q:AV→aA→Prop) (x1 x3 x4 x5:AV) (x6:Int) (x7:AV) (h:aA) (J:JT):Prop:=
cP 3 x7 h fun v48=>
bQ 3 1 [(AV.i .u8 0),(AV.i .i64 0),(AV.i .i64 0)] [(0,3,v48)] h fun v49 h50=>
bU none 3 24 x3 v49 h50 fun v51 h52=>
aC 1 x7 fun v54=>
aB v54 h52 fun v55=>
asI .i64 v55 fun n56=>
J 3 [(1,x1),(3,v51),(4,x4),(5,x5),(6,(AV.i .i64 x6)),(44,(AV.i .i64 (mmI true n56 1))),(45,(AV.i .i64 0))] h52
theorem Y8.i1 {Q x1 x3 x4 x5 x6 x7 h} (H:Y8.t1 Q x1 x3 x4 x5 x6 x7 h (Y8.J Q)):Y8.p1 Q x1 x3 x4 x5 x6 x7 h:=gR Y8.J Tryd.f33 Y8.dist [1,1,1,1,0,1,0,0,1,0,1,1] H
def Y8.t0 (Q:AV→aA→Prop) (x1 x3 x4 x5:AV) (x6:Int) (h:aA) (J:JT):Prop:=
aB x1 h fun v12=>
asS v12 fun l13=>
(bif (decide ((x6:Int)<(l13.length:Int))) then
(aB x1 h fun v17=>
asS v17 fun l18=>
e7 (AV.s l18) (AV.i .i64 x6) fun n19=>
cW (some 82) [(AV.i .u8 0),(AV.i .i64 0),(AV.i .i64 0)] h fun v20 h21=>
aU 3 v20 (AV.ag [(AV.i .u8 n19),(AV.i .i64 0),(AV.i .i64 0)]) h21 fun h22=>
aO (IntKind.wrap .i64 (x6+3)) fun n24=>
aB x1 h22 fun v25=>
asS v25 fun l26=>
(bif (decide ((n24:Int)≤(l26.length:Int))) then
(aB x1 h22 fun v28=>
asS v28 fun l29=>
aB x4 h22 fun v30=>
aB x1 h22 fun v31=>
asS v31 fun l32=>
aO (IntKind.wrap .i64 (x6+3)) fun n33=>
bW (AV.s l32) (some (AV.i .i64 x6)) (some (AV.i .i64 n33)) fun l34=>
eP prog 9 64 false v30 (AV.s l34) h22 fun v35=>
C Y31.id [(AV.s l29),(AV.i .i64 x6),v35] h22 fun v36 h37=>
aN 0 v36 fun v38=>
asI .i64 v38 fun n39=>
aN 1 v36 fun v40=>
asI .i64 v40 fun n41=>
aC 1 v20 fun v42=>
aU 1 v42 (AV.i .i64 n39) h37 fun h43=>
aC 2 v20 fun v44=>
aU 1 v44 (AV.i .i64 n41) h43 fun h45=>
J 2 [(1,x1),(3,x3),(4,x4),(5,x5),(6,(AV.i .i64 x6)),(7,v20)] h45)
else
(J 2 [(1,x1),(3,x3),(4,x4),(5,x5),(6,(AV.i .i64 x6)),(7,v20)] h22)))
else
(Q x3 h))
theorem Y8.i0 {Q x1 x3 x4 x5 x6 h} (H:Y8.t0 Q x1 x3 x4 x5 x6 h (Y8.J Q)):Y8.p0 Q x1 x3 x4 x5 x6 h:=gH Y8.J Tryd.f33 Y8.dist [1,1,1,1,0,1,0] H
def Y8.t (Q:AV→aA→Prop) (x0:List UInt8) (h:aA) (J:JT):Prop:=
dD none (AV.s x0) h fun v0 h1=>
kX h1 fun v4 h5=>
cW none [(AV.mp none)] h5 fun v6 h7=>
aU 1 v6 v4 h7 fun h8=>
J 1 [(1,v0),(3,(AV.sl none 0 none)),(4,v6),(5,(AV.fn (.func Y29.id) [] [v0,v6])),(6,(AV.i .i64 0))] h8
theorem Y8.call {K x0 h} (H:Y8.t (aK h K) x0 h (Y8.J (aK h K))):C Y8.id [(AV.s x0)] h K:=
 gC Y8.J Tryd.func33 Y8.dist H
noncomputable def Y44.body:Code:=(Tryd.f41.body).getD .skip
def Y44.ann:Ann:=(sl [0,1,2] (sl [6] lf))
theorem Y44.dist:aH (places Y44.ann Y44.body)=true:=by kernel_rfl
noncomputable def Y44.J (Q:AV→aA→Prop):JT:=bL prog C Tryd.f41 Y44.ann Y44.body Q
def Y44.t (Q:AV→aA→Prop) (x0 x1 x2:Int) (h:aA) (J:JT):Prop:=
aO (mmI false (mmI true x0 x1) x2) fun n1=>
Q (AV.i .i64 n1) h
theorem Y44.call {K x0 x1 x2 h} (H:Y44.t (aK h K) x0 x1 x2 h (Y44.J (aK h K))):C Y44.id [(AV.i .i64 x0),(AV.i .i64 x1),(AV.i .i64 x2)] h K:=
 gC Y44.J Tryd.func41 Y44.dist H
noncomputable def Y36.body:Code:=(Tryd.f42.body).getD .skip
def Y36.ann:Ann:=(sl [1] (sq [1] (sl [1,6] (.br (sl [] (sl [2] lf)) lf)) (sl [2] lf)))
theorem Y36.dist:aH (places Y36.ann Y36.body)=true:=by kernel_rfl
noncomputable def Y36.J (Q:AV→aA→Prop):JT:=bL prog C Tryd.f42 Y36.ann Y36.body Q
def Y36.t (Q:AV→aA→Prop) (x0:AV) (h:aA) (J:JT):Prop:=
dD none x0 h fun v0 h1=>
aB v0 h1 fun v3=>
aY v3 fun v4=>
aC 6 v4 fun v5=>
aB v5 h1 fun v6=>
asB v6 fun c7=>
(bif c7 then
(aB v0 h1 fun v9=>
aY v9 fun v10=>
aC 7 v10 fun v11=>
aU 1 v11 (AV.b true) h1 fun h12=>
Q (AV.i .i64 0) h12)
else
(aB v0 h1 fun v16=>
C Y27.id [v16,(AV.i .i64 3),(AV.fn (.func Y57.id) [] [v0])] h1 fun v17 h18=>
asI .i64 v17 fun n19=>
Q (AV.i .i64 n19) h18))
theorem Y36.call {K x0 h} (H:Y36.t (aK h K) x0 h (Y36.J (aK h K))):C Y36.id [x0] h K:=
 gC Y36.J Tryd.func42 Y36.dist H
noncomputable def Y2.body:Code:=(Tryd.f43.body).getD .skip
def Y2.ann:Ann:=(sl [0,1] (.one (sl [0,1] (.seq 2 [0,5] (sl [0,1,14] (.br (sl [0,6,7,8] (sq [0,6,7] (sl [0,6,7,26] (.br (sl [4] lf) lf)) (sq [0,6] (sl [0,6,28] (.br (sl [4] lf) lf)) lf))) (sq [0] (.ord (nn 0 13 (.eff 13 .done .stop))) (sl [0] (sq [0] (sq [0,58] (.ord (nn 0 9 .done)) (.br (sl [4] lf) lf)) lf))))) (.seq 1 [0,5] lf (sq [0] (sl [0,9] (.seq 3 [0,9,76] lf (.br (sl [4] lf) lf))) (sq [] (.seq 4 [0,89] lf (.br (sl [0,5] lf) lf)) (sl [4] lf))))))))
theorem Y2.dist:aH (places Y2.ann Y2.body)=true:=by kernel_rfl
noncomputable def Y2.J (Q:AV→aA→Prop):JT:=bL prog C Tryd.f43 Y2.ann Y2.body Q
def Y2.p2 (Q:AV→aA→Prop) (x0:AV) (x9:Int) (x76:Bool) (h:aA):Prop:=Y2.J Q 3 [(0,x0),(9,(AV.i .i64 x9)),(76,(AV.b x76))] h
def Y2.p3 (Q:AV→aA→Prop) (x0:AV) (x89:Bool) (h:aA):Prop:=Y2.J Q 4 [(0,x0),(89,(AV.b x89))] h
def Y2.p0 (Q:AV→aA→Prop) (x0:AV) (x5:Int) (h:aA):Prop:=Y2.J Q 1 [(0,x0),(5,(AV.i .i64 x5))] h
def Y2.p1 (Q:AV→aA→Prop) (x0:AV) (x5:Int) (h:aA):Prop:=Y2.J Q 2 [(0,x0),(5,(AV.i .i64 x5))] h
def Y2.t2 (Q:AV→aA→Prop) (x0:AV) (x9:Int) (x76:Bool) (h:aA) (J:JT):Prop:=
(bif x76 then
(Q (AV.i .i64 x9) h)
else
(aY x0 fun v82=>
aC 14 v82 fun v83=>
aB v83 h fun v84=>
dN prog .eql 44 v84 (AV.p none) fun v85=>
asB v85 fun c86=>
(bif c86 then
(aY x0 fun v87=>
aC 13 v87 fun v88=>
aB v88 h fun v89=>
asI .i64 v89 fun n90=>
J 4 [(0,x0),(89,(AV.b (decide ((n90:Int)=0))))] h)
else
(J 4 [(0,x0),(89,(AV.b false))] h))))
theorem Y2.i2 {Q x0 x9 x76 h} (H:Y2.t2 Q x0 x9 x76 h (Y2.J Q)):Y2.p2 Q x0 x9 x76 h:=gR Y2.J Tryd.f43 Y2.dist [1,0,1,1,1,0,1,1] H
def Y2.t3 (Q:AV→aA→Prop) (x0:AV) (x89:Bool) (h:aA) (J:JT):Prop:=
(bif x89 then
(J 1 [(0,x0),(5,(AV.i .i64 0))] h)
else
(Q (AV.i .i64 0) h))
theorem Y2.i3 {Q x0 x89 h} (H:Y2.t3 Q x0 x89 h (Y2.J Q)):Y2.p3 Q x0 x89 h:=gR Y2.J Tryd.f43 Y2.dist [1,0,1,1,1,1,0,1] H
def Y2.t0 (Q:AV→aA→Prop) (x0:AV) (x5:Int) (h:aA) (J:JT):Prop:=
aY x0 fun v67=>
aC 15 v67 fun v68=>
aB v68 h fun v69=>
bV C v69 [(AV.i .i64 x5)] h fun v70 h71=>
asI .i64 v70 fun n72=>
(bif (!decide ((n72:Int)=0)) then
(J 3 [(0,x0),(9,(AV.i .i64 n72)),(76,(AV.b true))] h71)
else
(aY x0 fun v75=>
aC 7 v75 fun v76=>
aB v76 h71 fun v77=>
asB v77 fun c78=>
J 3 [(0,x0),(9,(AV.i .i64 n72)),(76,(AV.b c78))] h71))
theorem Y2.i0 {Q x0 x5 h} (H:Y2.t0 Q x0 x5 h (Y2.J Q)):Y2.p0 Q x0 x5 h:=gR Y2.J Tryd.f43 Y2.dist [1,0,1,1,1] H
def Y2.t1 (Q:AV→aA→Prop) (x0:AV) (x5:Int) (h:aA) (J:JT):Prop:=
J 1 [(0,x0),(5,(AV.i .i64 x5))] h
theorem Y2.i1 {Q x0 x5 h} (H:Y2.t1 Q x0 x5 h (Y2.J Q)):Y2.p1 Q x0 x5 h:=gR Y2.J Tryd.f43 Y2.dist [1,0,1,1] H
def Y2.t (Q:AV→aA→Prop) (x0:AV) (x1:Int) (h:aA) (J:JT):Prop:=
aY x0 fun v2=>
aC 14 v2 fun v3=>
aB v3 h fun v4=>
dN prog .neq 44 v4 (AV.p none) fun v5=>
asB v5 fun c6=>
(bif c6 then
(aY x0 fun v8=>
aC 14 v8 fun v9=>
aB v9 h fun v10=>
C Y15.id [v10,(AV.i .i64 x1)] h fun v11 h12=>
aN 0 v11 fun v13=>
asI .i64 v13 fun n14=>
aN 1 v11 fun v15=>
asB v15 fun c16=>
aN 2 v11 fun v17=>
asI .i64 v17 fun n18=>
(bif (!decide ((n18:Int)=0)) then
(Q (AV.i .i64 2) h12)
else
((bif (!c16) then
(Q (AV.i .i64 0) h12)
else
(J 2 [(0,x0),(5,(AV.i .i64 n14))] h12)))))
else
(aY x0 fun v27=>
aC 11 v27 fun v28=>
aB v28 h fun v29=>
asI .i64 v29 fun n30=>
aY x0 fun v31=>
aC 12 v31 fun v32=>
aB v32 h fun v33=>
asI .i64 v33 fun n34=>
nQ .i64 x1 n34 fun n35=>
aO (bP .or .i64 n30 n35) fun n36=>
aY x0 fun v37=>
aC 11 v37 fun v38=>
aU 1 v38 (AV.i .i64 n36) h fun h39=>
aY x0 fun v41=>
aC 12 v41 fun v42=>
aB v42 h39 fun v43=>
asI .i64 v43 fun n44=>
aO (IntKind.wrap .i64 (n44+1)) fun n45=>
aY x0 fun v46=>
aC 12 v46 fun v47=>
aU 1 v47 (AV.i .i64 n45) h39 fun h48=>
aY x0 fun v50=>
aC 12 v50 fun v51=>
aB v51 h48 fun v52=>
asI .i64 v52 fun n53=>
aY x0 fun v54=>
aC 13 v54 fun v55=>
aB v55 h48 fun v56=>
asI .i64 v56 fun n57=>
(bif (decide ((n53:Int)<n57)) then
(Q (AV.i .i64 0) h48)
else
(aY x0 fun v61=>
aC 11 v61 fun v62=>
aB v62 h48 fun v63=>
asI .i64 v63 fun n64=>
J 2 [(0,x0),(5,(AV.i .i64 n64))] h48))))
theorem Y2.call {K x0 x1 h} (H:Y2.t (aK h K) x0 x1 h (Y2.J (aK h K))):C Y2.id [x0,(AV.i .i64 x1)] h K:=
 gC Y2.J Tryd.func43 Y2.dist H
noncomputable def Y13.body:Code:=(Tryd.f44.body).getD .skip
def Y13.ann:Ann:=(sl [0] (sq [0] (sl [0,8] (.br (sl [2] lf) lf)) (sl [0,3] (sq [3] (sl [0,3,4] (.one (.loop 1 [0,3,4] (sq [0,3,4] (sl [0,3,4,10] bl) (.seq 2 [0,3,4] (.one (sl [0,3,4,5] (sl [0,3,4,20] bl))) lf))))) (sl [2] lf)))))
theorem Y13.dist:aH (places Y13.ann Y13.body)=true:=by kernel_rfl
noncomputable def Y13.J (Q:AV→aA→Prop):JT:=bL prog C Tryd.f44 Y13.ann Y13.body Q
def Y13.p1 (Q:AV→aA→Prop) (x0 x3 x4:Int) (h:aA):Prop:=Y13.J Q 2 [(0,(AV.i .i64 x0)),(3,(AV.i .i64 x3)),(4,(AV.i .i64 x4))] h
def Y13.p0 (Q:AV→aA→Prop) (x0 x3 x4:Int) (h:aA):Prop:=Y13.J Q 1 [(0,(AV.i .i64 x0)),(3,(AV.i .i64 x3)),(4,(AV.i .i64 x4))] h
def Y13.t1 (Q:AV→aA→Prop) (x0 x3 x4:Int) (h:aA) (J:JT):Prop:=
aO (IntKind.wrap .i64 (x4+1)) fun n19=>
J 1 [(0,(AV.i .i64 x0)),(3,(AV.i .i64 x3)),(4,(AV.i .i64 n19))] h
theorem Y13.i1 {Q x0 x3 x4 h} (H:Y13.t1 Q x0 x3 x4 h (Y13.J Q)):Y13.p1 Q x0 x3 x4 h:=gR Y13.J Tryd.f44 Y13.dist [1,1,1,0,1,0,0,1,1] H
def Y13.t0 (Q:AV→aA→Prop) (x0 x3 x4:Int) (h:aA) (J:JT):Prop:=
(bif (decide ((x4:Int)<285)) then
(C Y33.id [(AV.i .i64 x4)] h fun v9 h10=>
aN 0 v9 fun v11=>
asI .i64 v11 fun n12=>
aN 1 v9 fun v13=>
asI .i64 v13 fun n14=>
(bif (decide ((n12:Int)≤x0)) then
(J 2 [(0,(AV.i .i64 x0)),(3,(AV.i .i64 x4)),(4,(AV.i .i64 x4))] h10)
else
(J 2 [(0,(AV.i .i64 x0)),(3,(AV.i .i64 x3)),(4,(AV.i .i64 x4))] h10)))
else
(Q (AV.i .i64 x3) h))
theorem Y13.i0 {Q x0 x3 x4 h} (H:Y13.t0 Q x0 x3 x4 h (Y13.J Q)):Y13.p0 Q x0 x3 x4 h:=gH Y13.J Tryd.f44 Y13.dist [1,1,1,0,1,0] H
def Y13.t (Q:AV→aA→Prop) (x0:Int) (h:aA) (J:JT):Prop:=
(bif (decide ((x0:Int)=258)) then
(Q (AV.i .i64 285) h)
else
(J 1 [(0,(AV.i .i64 x0)),(3,(AV.i .i64 257)),(4,(AV.i .i64 257))] h))
theorem Y13.call {K x0 h} (H:Y13.t (aK h K) x0 h (Y13.J (aK h K))):C Y13.id [(AV.i .i64 x0)] h K:=
 gC Y13.J Tryd.func44 Y13.dist H
noncomputable def Y14.body:Code:=(Tryd.f45.body).getD .skip
def Y14.ann:Ann:=(sl [0] (sl [0,3] (sq [3] (sl [0,3,7] (.one (.loop 1 [0,3,7] (sl [0,3,7,8] (sq [0,3,7] bl (.seq 2 [0,3,7] (.one (sl [0,3,4,7] (sl [0,3,4,5,7] (sl [0,3,4,7,17] bl)))) lf)))))) (sl [2] lf))))
theorem Y14.dist:aH (places Y14.ann Y14.body)=true:=by kernel_rfl
noncomputable def Y14.J (Q:AV→aA→Prop):JT:=bL prog C Tryd.f45 Y14.ann Y14.body Q
def Y14.p1 (Q:AV→aA→Prop) (x0 x3 x7:Int) (h:aA):Prop:=Y14.J Q 2 [(0,(AV.i .i64 x0)),(3,(AV.i .i64 x3)),(7,(AV.i .i64 x7))] h
def Y14.p0 (Q:AV→aA→Prop) (x0 x3 x7:Int) (h:aA):Prop:=Y14.J Q 1 [(0,(AV.i .i64 x0)),(3,(AV.i .i64 x3)),(7,(AV.i .i64 x7))] h
def Y14.t1 (Q:AV→aA→Prop) (x0 x3 x7:Int) (h:aA) (J:JT):Prop:=
aO (IntKind.wrap .i64 (x7+1)) fun n17=>
J 1 [(0,(AV.i .i64 x0)),(3,(AV.i .i64 x3)),(7,(AV.i .i64 n17))] h
theorem Y14.i1 {Q x0 x3 x7 h} (H:Y14.t1 Q x0 x3 x7 h (Y14.J Q)):Y14.p1 Q x0 x3 x7 h:=gR Y14.J Tryd.f45 Y14.dist [1,1,0,1,0,0,1,1,1] H
def Y14.t0 (Q:AV→aA→Prop) (x0 x3 x7:Int) (h:aA) (J:JT):Prop:=
(bif (decide ((x7:Int)<30)) then
(C Y34.id [(AV.i .i64 x7)] h fun v7 h8=>
aN 0 v7 fun v9=>
asI .i64 v9 fun n10=>
aN 1 v7 fun v11=>
asI .i64 v11 fun n12=>
(bif (decide ((n10:Int)≤x0)) then
(J 2 [(0,(AV.i .i64 x0)),(3,(AV.i .i64 x7)),(7,(AV.i .i64 x7))] h8)
else
(J 2 [(0,(AV.i .i64 x0)),(3,(AV.i .i64 x3)),(7,(AV.i .i64 x7))] h8)))
else
(Q (AV.i .i64 x3) h))
theorem Y14.i0 {Q x0 x3 x7 h} (H:Y14.t0 Q x0 x3 x7 h (Y14.J Q)):Y14.p0 Q x0 x3 x7 h:=gH Y14.J Tryd.f45 Y14.dist [1,1,0,1,0] H
def Y14.t (Q:AV→aA→Prop) (x0:Int) (h:aA) (J:JT):Prop:=
J 1 [(0,(AV.i .i64 x0)),(3,(AV.i .i64 0)),(7,(AV.i .i64 0))] h
theorem Y14.call {K x0 h} (H:Y14.t (aK h K) x0 h (Y14.J (aK h K))):C Y14.id [(AV.i .i64 x0)] h K:=
 gC Y14.J Tryd.func45 Y14.dist H
end Go.Proofs.YtpaphfeihpgamaaDoor
namespace Go.Proofs.YtpaphfeihpgamaaDoor
open Go.GAM
variable [XR]
noncomputable def Y9.body:Code:=(Tryd.f50.body).getD .skip
def Y9.ann:Ann:=(sl [0] (sq [0] (sl [0,3] (.seq 1 [0,15] lf (.br (sl [2] lf) lf))) (sl [0,4] (sl [0,4,5] (sq [5] (sl [4,5,22,23,24] (.one (.loop 2 [4,5,22,23,24] (sl [4,5,22,23,24,25] (sq [4,5,22,23,24] bl (.seq 3 [4,5,22,23,24] (.one (sl [4,5,6,7,22,23,24] (sl [4,5,6,7,22,23,24,30] (.br (sl [4,5,7,22,23,24] lf) lf)))) lf)))))) (sl [2] lf))))))
theorem Y9.dist:aH (places Y9.ann Y9.body)=true:=by kernel_rfl
noncomputable def Y9.J (Q:AV→aA→Prop):JT:=bL prog C Tryd.f50 Y9.ann Y9.body Q
def Y9.p0 (Q:AV→aA→Prop) (x0:AV) (x15:Bool) (h:aA):Prop:=Y9.J Q 1 [(0,x0),(15,(AV.b x15))] h
def Y9.p2 (Q:AV→aA→Prop) (x4 x5 x22:AV) (x23 x24:Int) (h:aA):Prop:=Y9.J Q 3 [(4,x4),(5,x5),(22,x22),(23,(AV.i .i64 x23)),(24,(AV.i .i64 x24))] h
def Y9.p1 (Q:AV→aA→Prop) (x4 x5 x22:AV) (x23 x24:Int) (h:aA):Prop:=Y9.J Q 2 [(4,x4),(5,x5),(22,x22),(23,(AV.i .i64 x23)),(24,(AV.i .i64 x24))] h
def Y9.t0 (Q:AV→aA→Prop) (x0:AV) (x15:Bool) (h:aA) (J:JT):Prop:=
(bif x15 then
(Q (AV.sl none 0 none) h)
else
(C Y7.id [x0] h fun v9 h10=>
j4 16 16 v9 fun v11=>
cW none [(AV.i .i64 0),(AV.i .i64 0),(AV.i .i64 0),(AV.i .i64 0),(AV.i .i64 0),(AV.i .i64 0),(AV.i .i64 0),(AV.i .i64 0),(AV.i .i64 0),(AV.i .i64 0),(AV.i .i64 0),(AV.i .i64 0),(AV.i .i64 0),(AV.i .i64 0),(AV.i .i64 0),(AV.i .i64 0)] h10 fun v12 h13=>
aU 16 v12 v11 h13 fun h14=>
bX x0 fun n16=>
nD 1 8 [(AV.i .i64 0)] (AV.i .i64 n16) (AV.i .i64 n16) h14 fun v17 h18=>
bX x0 fun n20=>
J 2 [(4,v12),(5,v17),(22,x0),(23,(AV.i .i64 n20)),(24,(AV.i .i64 0))] h18))
theorem Y9.i0 {Q x0 x15 h} (H:Y9.t0 Q x0 x15 h (Y9.J Q)):Y9.p0 Q x0 x15 h:=gR Y9.J Tryd.f50 Y9.dist [1,0,1,1] H
def Y9.t2 (Q:AV→aA→Prop) (x4 x5 x22:AV) (x23 x24:Int) (h:aA) (J:JT):Prop:=
aO (IntKind.wrap .i64 (x24+1)) fun n44=>
J 2 [(4,x4),(5,x5),(22,x22),(23,(AV.i .i64 x23)),(24,(AV.i .i64 n44))] h
theorem Y9.i2 {Q x4 x5 x22 x23 x24 h} (H:Y9.t2 Q x4 x5 x22 x23 x24 h (Y9.J Q)):Y9.p2 Q x4 x5 x22 x23 x24 h:=gR Y9.J Tryd.f50 Y9.dist [1,1,1,1,0,1,0,0,1,1,1] H
def Y9.t1 (Q:AV→aA→Prop) (x4 x5 x22:AV) (x23 x24:Int) (h:aA) (J:JT):Prop:=
(bif (decide ((x24:Int)<x23)) then
(aX 1 x22 (AV.i .i64 x24) h fun v25=>
aB v25 h fun v26=>
asI .i64 v26 fun n27=>
(bif (decide ((0:Int)<n27)) then
(bG 16 1 x4 (AV.i .i64 n27) fun v30=>
aB v30 h fun v31=>
asI .i64 v31 fun n32=>
aX 1 x5 (AV.i .i64 x24) h fun v33=>
aU 1 v33 (AV.i .i64 n32) h fun h34=>
bG 16 1 x4 (AV.i .i64 n27) fun v36=>
aB v36 h34 fun v37=>
asI .i64 v37 fun n38=>
aO (IntKind.wrap .i64 (n38+1)) fun n39=>
bG 16 1 x4 (AV.i .i64 n27) fun v40=>
aU 1 v40 (AV.i .i64 n39) h34 fun h41=>
J 3 [(4,x4),(5,x5),(22,x22),(23,(AV.i .i64 x23)),(24,(AV.i .i64 x24))] h41)
else
(J 3 [(4,x4),(5,x5),(22,x22),(23,(AV.i .i64 x23)),(24,(AV.i .i64 x24))] h)))
else
(Q x5 h))
theorem Y9.i1 {Q x4 x5 x22 x23 x24 h} (H:Y9.t1 Q x4 x5 x22 x23 x24 h (Y9.J Q)):Y9.p1 Q x4 x5 x22 x23 x24 h:=gH Y9.J Tryd.f50 Y9.dist [1,1,1,1,0,1,0] H
def Y9.t (Q:AV→aA→Prop) (x0:AV) (h:aA) (J:JT):Prop:=
C Y5.id [x0] h fun v1 h2=>
asI .i64 v1 fun n3=>
(bif (!decide ((n3:Int)=0)) then
(J 1 [(0,x0),(15,(AV.b (!decide ((n3:Int)=1))))] h2)
else
(J 1 [(0,x0),(15,(AV.b false))] h2))
theorem Y9.call {K x0 h} (H:Y9.t (aK h K) x0 h (Y9.J (aK h K))):C Y9.id [x0] h K:=
 gC Y9.J Tryd.func50 Y9.dist H
noncomputable def Y20.body:Code:=(Tryd.f51.body).getD .skip
def Y20.ann:Ann:=(sl [0,1,3,8] (.one (.loop 1 [0,1,3,8] (sq [0,1,3,8] (sl [0,1,3,8,15] bl) (sq [0,1,3,8] (.one lf) lf)))))
theorem Y20.dist:aH (places Y20.ann Y20.body)=true:=by kernel_rfl
noncomputable def Y20.J (Q:AV→aA→Prop):JT:=bL prog C Tryd.f51 Y20.ann Y20.body Q
def Y20.p0 (Q:AV→aA→Prop) (x0 x1:AV) (x3 x8:Int) (h:aA):Prop:=Y20.J Q 1 [(0,x0),(1,x1),(3,(AV.i .i64 x3)),(8,(AV.i .i64 x8))] h
def Y20.t0 (Q:AV→aA→Prop) (x0 x1:AV) (x3 x8:Int) (h:aA) (J:JT):Prop:=
(bif (decide ((0:Int)≤x8)) then
(aX 1 x1 (AV.i .i64 x3) h fun v7=>
aB v7 h fun v8=>
asI .i64 v8 fun n9=>
lU .i64 n9 x8 fun n10=>
C Y11.id [x0,(AV.i .i64 (bP .and .i64 n10 1)),(AV.i .i64 1)] h fun v11 h12=>
aO (IntKind.wrap .i64 (x8 - 1)) fun n14=>
J 1 [(0,x0),(1,x1),(3,(AV.i .i64 x3)),(8,(AV.i .i64 n14))] h12)
else
(Q (AV.tu []) h))
theorem Y20.i0 {Q x0 x1 x3 x8 h} (H:Y20.t0 Q x0 x1 x3 x8 h (Y20.J Q)):Y20.p0 Q x0 x1 x3 x8 h:=gH Y20.J Tryd.f51 Y20.dist [1,0] H
def Y20.t (Q:AV→aA→Prop) (x0 x1 x2:AV) (x3:Int) (h:aA) (J:JT):Prop:=
aX 1 x2 (AV.i .i64 x3) h fun v0=>
aB v0 h fun v1=>
asI .i64 v1 fun n2=>
aO (IntKind.wrap .i64 (n2 - 1)) fun n3=>
J 1 [(0,x0),(1,x1),(3,(AV.i .i64 x3)),(8,(AV.i .i64 n3))] h
theorem Y20.call {K x0 x1 x2 x3 h} (H:Y20.t (aK h K) x0 x1 x2 x3 h (Y20.J (aK h K))):C Y20.id [x0,x1,x2,(AV.i .i64 x3)] h K:=
 gC Y20.J Tryd.func51 Y20.dist H
noncomputable def Y28.body:Code:=(Tryd.f62.body).getD .skip
def Y28.ann:Ann:=(sl [0,1] (sq [] (sl [0,1,6] (sl [0,1,6,20] (.br (sl [6] (sl [4,5] lf)) lf))) (sl [4,5] lf)))
theorem Y28.dist:aH (places Y28.ann Y28.body)=true:=by kernel_rfl
noncomputable def Y28.J (Q:AV→aA→Prop):JT:=bL prog C Tryd.f62 Y28.ann Y28.body Q
def Y28.t (Q:AV→aA→Prop) (x0:AV) (x1:Int) (h:aA) (J:JT):Prop:=
aY x0 fun v1=>
aC 0 v1 fun v2=>
aB v2 h fun v3=>
bX v3 fun n4=>
aY x0 fun v6=>
aC 0 v6 fun v7=>
aB v7 h fun v8=>
vG 1 v8 h fun v9 h10=>
asI .i64 v9 fun n11=>
aO (IntKind.wrap .i64 (n11 - n4)) fun n12=>
(bif (decide ((x1:Int)≤n12)) then
(aY x0 fun v14=>
aC 0 v14 fun v15=>
aB v15 h10 fun v16=>
aO (IntKind.wrap .i64 (n4+x1)) fun n17=>
bJ 1 v16 none (some (AV.i .i64 n17)) none h10 fun v18=>
aY x0 fun v19=>
aC 0 v19 fun v20=>
aU 1 v20 v18 h10 fun h21=>
Q (AV.tu [(AV.i .i64 n4),(AV.b true)]) h21)
else
(Q (AV.tu [(AV.i .i64 0),(AV.b false)]) h10))
theorem Y28.call {K x0 x1 h} (H:Y28.t (aK h K) x0 x1 h (Y28.J (aK h K))):C Y28.id [x0,(AV.i .i64 x1)] h K:=
 gC Y28.J Tryd.func62 Y28.dist H
noncomputable def Y4.body:Code:=(Tryd.f63.body).getD .skip
def Y4.ann:Ann:=(sl [0,1] (sl [0,1,5] (.seq 2 [0,1,5] (.seq 1 [0,1,5,19] lf bl) (sq [0,1,5] (sl [0,1,5,6,7] (sl [0,1,5,6,28] (.br (sl [4] lf) lf))) (sq [0,1,5] (.seq 3 [0,1,5,38] lf (.br (sl [] (sl [4] lf)) lf)) (sl [0,1,5,8] (.seq 4 [0,1,5] (sl [0,1,5,8,54] (.br (.ord (nn 0 13 (.eff 13 .done .stop))) (sl [0,1,5,74] (.br lf (.ord (nn 0 16 (.eff 16 (nn 17 2 (.eff 19 .done .stop)) .stop))))))) (sl [0,1,5] (sl [5] (sl [4] lf))))))))))
theorem Y4.dist:aH (places Y4.ann Y4.body)=true:=by kernel_rfl
noncomputable def Y4.J (Q:AV→aA→Prop):JT:=bL prog C Tryd.f63 Y4.ann Y4.body Q
def Y4.p0 (Q:AV→aA→Prop) (x0:AV) (x1 x5:Int) (x19:Bool) (h:aA):Prop:=Y4.J Q 1 [(0,x0),(1,(AV.i .i64 x1)),(5,(AV.i .i64 x5)),(19,(AV.b x19))] h
def Y4.p2 (Q:AV→aA→Prop) (x0:AV) (x1 x5:Int) (x38:Bool) (h:aA):Prop:=Y4.J Q 3 [(0,x0),(1,(AV.i .i64 x1)),(5,(AV.i .i64 x5)),(38,(AV.b x38))] h
def Y4.p3 (Q:AV→aA→Prop) (x0:AV) (x1 x5:Int) (h:aA):Prop:=Y4.J Q 4 [(0,x0),(1,(AV.i .i64 x1)),(5,(AV.i .i64 x5))] h
def Y4.p1 (Q:AV→aA→Prop) (x0:AV) (x1 x5:Int) (h:aA):Prop:=Y4.J Q 2 [(0,x0),(1,(AV.i .i64 x1)),(5,(AV.i .i64 x5))] h
def Y4.t0 (Q:AV→aA→Prop) (x0:AV) (x1 x5:Int) (x19:Bool) (h:aA) (J:JT):Prop:=
(bif x19 then
(C Y69.id [x0] h fun v11 h12=>
J 2 [(0,x0),(1,(AV.i .i64 x1)),(5,(AV.i .i64 x5))] h12)
else
(J 2 [(0,x0),(1,(AV.i .i64 x1)),(5,(AV.i .i64 x5))] h))
theorem Y4.i0 {Q x0 x1 x5 x19 h} (H:Y4.t0 Q x0 x1 x5 x19 h (Y4.J Q)):Y4.p0 Q x0 x1 x5 x19 h:=gR Y4.J Tryd.f63 Y4.dist [1,1,0,1] H
def Y4.t2 (Q:AV→aA→Prop) (x0:AV) (x1 x5:Int) (x38:Bool) (h:aA) (J:JT):Prop:=
(bif x38 then
(nD 1 1 [(AV.i .u8 0)] (AV.i .i64 x1) (AV.i .i64 64) h fun v32 h33=>
aY x0 fun v34=>
aC 0 v34 fun v35=>
aU 1 v35 v32 h33 fun h36=>
Q (AV.i .i64 0) h36)
else
(aY x0 fun v40=>
aC 0 v40 fun v41=>
aB v41 h fun v42=>
vG 1 v42 h fun v43 h44=>
asI .i64 v43 fun n45=>
aBW .i64 n45 2 fun n47=>
aO (IntKind.wrap .i64 (n47 - x5)) fun n48=>
(bif (decide ((x1:Int)≤n48)) then
(aY x0 fun v50=>
aC 0 v50 fun v51=>
aB v51 h44 fun v52=>
aY x0 fun v53=>
aC 0 v53 fun v54=>
aB v54 h44 fun v55=>
aY x0 fun v56=>
aC 1 v56 fun v57=>
aB v57 h44 fun v58=>
asI .i64 v58 fun n59=>
bJ 1 v55 (some (AV.i .i64 n59)) none none h44 fun v60=>
j8 1 v52 v60 h44 fun v61 h62=>
asI .i64 v61 fun n63=>
J 4 [(0,x0),(1,(AV.i .i64 x1)),(5,(AV.i .i64 x5))] h62)
else
(aO (IntKind.wrap .i64 (9223372036854775807 - n45)) fun n65=>
aO (IntKind.wrap .i64 (n65 - x1)) fun n66=>
(bif (decide ((n66:Int)<n45)) then
(aB (y1 h44 1) h44 fun v68=>
False)
else
(aY x0 fun v69=>
aC 0 v69 fun v70=>
aB v70 h44 fun v71=>
aY x0 fun v72=>
aC 1 v72 fun v73=>
aB v73 h44 fun v74=>
asI .i64 v74 fun n75=>
bJ 1 v71 (some (AV.i .i64 n75)) none none h44 fun v76=>
aY x0 fun v77=>
aC 1 v77 fun v78=>
aB v78 h44 fun v79=>
asI .i64 v79 fun n80=>
aO (IntKind.wrap .i64 (n80+x1)) fun n81=>
C Y67.id [v76,(AV.i .i64 n81)] h44 fun v82 h83=>
aY x0 fun v84=>
aC 0 v84 fun v85=>
aU 1 v85 v82 h83 fun h86=>
J 4 [(0,x0),(1,(AV.i .i64 x1)),(5,(AV.i .i64 x5))] h86))))))
theorem Y4.i2 {Q x0 x1 x5 x38 h} (H:Y4.t2 Q x0 x1 x5 x38 h (Y4.J Q)):Y4.p2 Q x0 x1 x5 x38 h:=gR Y4.J Tryd.f63 Y4.dist [1,1,1,1,0,1] H
def Y4.t3 (Q:AV→aA→Prop) (x0:AV) (x1 x5:Int) (h:aA) (J:JT):Prop:=
aY x0 fun v88=>
aC 1 v88 fun v89=>
aU 1 v89 (AV.i .i64 0) h fun h90=>
aY x0 fun v92=>
aC 0 v92 fun v93=>
aB v93 h90 fun v94=>
aO (IntKind.wrap .i64 (x5+x1)) fun n95=>
bJ 1 v94 none (some (AV.i .i64 n95)) none h90 fun v96=>
aY x0 fun v97=>
aC 0 v97 fun v98=>
aU 1 v98 v96 h90 fun h99=>
Q (AV.i .i64 x5) h99
theorem Y4.i3 {Q x0 x1 x5 h} (H:Y4.t3 Q x0 x1 x5 h (Y4.J Q)):Y4.p3 Q x0 x1 x5 h:=gR Y4.J Tryd.f63 Y4.dist [1,1,1,1,1,1,1] H
def Y4.t1 (Q:AV→aA→Prop) (x0:AV) (x1 x5:Int) (h:aA) (J:JT):Prop:=
C Y28.id [x0,(AV.i .i64 x1)] h fun v15 h16=>
aN 0 v15 fun v17=>
asI .i64 v17 fun n18=>
aN 1 v15 fun v19=>
asB v19 fun c20=>
(bif c20 then
(Q (AV.i .i64 n18) h16)
else
(aY x0 fun v25=>
aC 0 v25 fun v26=>
aB v26 h16 fun v27=>
dN prog .eql 43 v27 (AV.sl none 0 none) fun v28=>
asB v28 fun c29=>
(bif c29 then
(J 3 [(0,x0),(1,(AV.i .i64 x1)),(5,(AV.i .i64 x5)),(38,(AV.b (decide ((x1:Int)≤64))))] h16)
else
(J 3 [(0,x0),(1,(AV.i .i64 x1)),(5,(AV.i .i64 x5)),(38,(AV.b false))] h16))))
theorem Y4.i1 {Q x0 x1 x5 h} (H:Y4.t1 Q x0 x1 x5 h (Y4.J Q)):Y4.p1 Q x0 x1 x5 h:=gR Y4.J Tryd.f63 Y4.dist [1,1,1] H
def Y4.t (Q:AV→aA→Prop) (x0:AV) (x1:Int) (h:aA) (J:JT):Prop:=
C Y32.id [x0] h fun v1 h2=>
asI .i64 v1 fun n3=>
(bif (decide ((n3:Int)=0)) then
(aY x0 fun v5=>
aC 1 v5 fun v6=>
aB v6 h2 fun v7=>
asI .i64 v7 fun n8=>
J 1 [(0,x0),(1,(AV.i .i64 x1)),(5,(AV.i .i64 n3)),(19,(AV.b (!decide ((n8:Int)=0))))] h2)
else
(J 1 [(0,x0),(1,(AV.i .i64 x1)),(5,(AV.i .i64 n3)),(19,(AV.b false))] h2))
theorem Y4.call {K x0 x1 h} (H:Y4.t (aK h K) x0 x1 h (Y4.J (aK h K))):C Y4.id [x0,(AV.i .i64 x1)] h K:=
 gC Y4.J Tryd.func63 Y4.dist H
noncomputable def Y17.body:Code:=(Tryd.f64.body).getD .skip
def Y17.ann:Ann:=(sl [0,1] (sq [0,1] (sl [0,1,10] bl) (sl [0,5,6] (sq [0,6] (.seq 1 [0,6,26] lf bl) (sl [0,7] (sl [7,8] (sq [7] (.one (.loop 2 [7,8] (sq [7,8] (sl [7,8,37] bl) (.one (.ord (nn 0 7 (.eff 7 (.neu 8 (.eff 9 .done .stop)) .stop))))))) (sl [4] lf))))))))
theorem Y17.dist:aH (places Y17.ann Y17.body)=true:=by kernel_rfl
noncomputable def Y17.J (Q:AV→aA→Prop):JT:=bL prog C Tryd.f64 Y17.ann Y17.body Q
def Y17.p0 (Q:AV→aA→Prop) (x0:AV) (x6:Int) (x26:Bool) (h:aA):Prop:=Y17.J Q 1 [(0,x0),(6,(AV.i .u64 x6)),(26,(AV.b x26))] h
def Y17.p1 (Q:AV→aA→Prop) (x7:AV) (x8:Int) (h:aA):Prop:=Y17.J Q 2 [(7,x7),(8,(AV.i .i64 x8))] h
def Y17.t0 (Q:AV→aA→Prop) (x0:AV) (x6:Int) (x26:Bool) (h:aA) (J:JT):Prop:=
(bif x26 then
(False)
else
(nD 1 8 [(AV.i .i64 0)] (AV.i .i64 (IntKind.wrap .i64 x6)) (AV.i .i64 (IntKind.wrap .i64 x6)) h fun v14 h15=>
j8 1 v14 x0 h15 fun v17 h18=>
asI .i64 v17 fun n19=>
J 2 [(7,v14),(8,(AV.i .i64 n19))] h18))
theorem Y17.i0 {Q x0 x6 x26 h} (H:Y17.t0 Q x0 x6 x26 h (Y17.J Q)):Y17.p0 Q x0 x6 x26 h:=gR Y17.J Tryd.f64 Y17.dist [1,1,1,0,1] H
def Y17.t1 (Q:AV→aA→Prop) (x7:AV) (x8:Int) (h:aA) (J:JT):Prop:=
bX x7 fun n21=>
(bif (decide ((x8:Int)<n21)) then
(bJ 1 x7 (some (AV.i .i64 x8)) none none h fun v25=>
bJ 1 x7 none (some (AV.i .i64 x8)) none h fun v26=>
j8 1 v25 v26 h fun v27 h28=>
asI .i64 v27 fun n29=>
aO (IntKind.wrap .i64 (x8+n29)) fun n30=>
J 2 [(7,x7),(8,(AV.i .i64 n30))] h28)
else
(Q x7 h))
theorem Y17.i1 {Q x7 x8 h} (H:Y17.t1 Q x7 x8 h (Y17.J Q)):Y17.p1 Q x7 x8 h:=gH Y17.J Tryd.f64 Y17.dist [1,1,1,1,1,1,0,0] H
def Y17.t (Q:AV→aA→Prop) (x0:AV) (x1:Int) (h:aA) (J:JT):Prop:=
(bif (decide ((x1:Int)<0)) then
(False)
else
(bX x0 fun n3=>
C Y59.id [(AV.i .u64 (IntKind.wrap .u64 n3)),(AV.i .u64 (IntKind.wrap .u64 x1))] h fun v4 h5=>
aN 0 v4 fun v6=>
asI .u64 v6 fun n7=>
aN 1 v4 fun v8=>
asI .u64 v8 fun n9=>
(bif (decide ((0:Int)<n7)) then
(J 1 [(0,x0),(6,(AV.i .u64 n9)),(26,(AV.b true))] h5)
else
(J 1 [(0,x0),(6,(AV.i .u64 n9)),(26,(AV.b (decide ((9223372036854775807:Int)<n9))))] h5))))
theorem Y17.call {K x0 x1 h} (H:Y17.t (aK h K) x0 x1 h (Y17.J (aK h K))):C Y17.id [x0,(AV.i .i64 x1)] h K:=
 gC Y17.J Tryd.func64 Y17.dist H
noncomputable def Y33.body:Code:=(Tryd.f65.body).getD .skip
def Y33.ann:Ann:=(sl [0] (sq [0] (.one (sl [0,5] (.br (sl [2,3] lf) (sl [0,10] (.br (sl [2,3] lf) lf))))) (sl [0,4] (sl [2,3] lf))))
theorem Y33.dist:aH (places Y33.ann Y33.body)=true:=by kernel_rfl
noncomputable def Y33.J (Q:AV→aA→Prop):JT:=bL prog C Tryd.f65 Y33.ann Y33.body Q
def Y33.t (Q:AV→aA→Prop) (x0:Int) (h:aA) (J:JT):Prop:=
(bif (decide ((x0:Int)≤264)) then
(aO (IntKind.wrap .i64 (x0 - 254)) fun n2=>
Q (AV.tu [(AV.i .i64 n2),(AV.i .i64 0)]) h)
else
((bif (decide ((x0:Int)=285)) then
(Q (AV.tu [(AV.i .i64 258),(AV.i .i64 0)]) h)
else
(aO (IntKind.wrap .i64 (x0 - 261)) fun n7=>
aBW .i64 n7 4 fun n8=>
aO (IntKind.wrap .i64 (x0 - 265)) fun n10=>
aAC n10 4 fun n11=>
aO (IntKind.wrap .i64 (4+n11)) fun n12=>
nQ .i64 n12 n8 fun n13=>
aO (IntKind.wrap .i64 (n13+3)) fun n14=>
Q (AV.tu [(AV.i .i64 n14),(AV.i .i64 n8)]) h))))
theorem Y33.call {K x0 h} (H:Y33.t (aK h K) x0 h (Y33.J (aK h K))):C Y33.id [(AV.i .i64 x0)] h K:=
 gC Y33.J Tryd.func65 Y33.dist H
noncomputable def Y34.body:Code:=(Tryd.f66.body).getD .skip
def Y34.ann:Ann:=(sl [0] (sq [0] (sl [0,6] (.br (sl [2,3] lf) lf)) (sl [0,4] (sl [2,3] lf))))
theorem Y34.dist:aH (places Y34.ann Y34.body)=true:=by kernel_rfl
noncomputable def Y34.J (Q:AV→aA→Prop):JT:=bL prog C Tryd.f66 Y34.ann Y34.body Q
def Y34.t (Q:AV→aA→Prop) (x0:Int) (h:aA) (J:JT):Prop:=
(bif (decide ((x0:Int)<4)) then
(aO (IntKind.wrap .i64 (x0+1)) fun n2=>
Q (AV.tu [(AV.i .i64 n2),(AV.i .i64 0)]) h)
else
(aBW .i64 x0 2 fun n5=>
aO (IntKind.wrap .i64 (n5 - 1)) fun n6=>
aAC x0 2 fun n8=>
aO (IntKind.wrap .i64 (2+n8)) fun n9=>
nQ .i64 n9 n6 fun n10=>
aO (IntKind.wrap .i64 (n10+1)) fun n11=>
Q (AV.tu [(AV.i .i64 n11),(AV.i .i64 n6)]) h))
theorem Y34.call {K x0 h} (H:Y34.t (aK h K) x0 h (Y34.J (aK h K))):C Y34.id [(AV.i .i64 x0)] h K:=
 gC Y34.J Tryd.func66 Y34.dist H
noncomputable def Y29.body:Code:=(Tryd.f67.body).getD .skip
def Y29.ann:Ann:=(sl [0,1,2,8] (.br (.ord (nn 0 14 (.eff 14 (.eff 15 (.eff 16 .done .stop) .stop) .stop))) lf))
theorem Y29.dist:aH (places Y29.ann Y29.body)=true:=by kernel_rfl
noncomputable def Y29.J (Q:AV→aA→Prop):JT:=bL prog C Tryd.f67 Y29.ann Y29.body Q
def Y29.t (Q:AV→aA→Prop) (x0:Int) (x1 x2:AV) (h:aA) (J:JT):Prop:=
aO (IntKind.wrap .i64 (x0+3)) fun n0=>
aB x1 h fun v1=>
asS v1 fun l2=>
(bif (decide ((n0:Int)≤(l2.length:Int))) then
(aB x2 h fun v4=>
aB x1 h fun v5=>
asS v5 fun l6=>
aO (IntKind.wrap .i64 (x0+3)) fun n7=>
bW (AV.s l6) (some (AV.i .i64 x0)) (some (AV.i .i64 n7)) fun l8=>
aB x2 h fun v9=>
aB x1 h fun v10=>
asS v10 fun l11=>
aO (IntKind.wrap .i64 (x0+3)) fun n12=>
bW (AV.s l11) (some (AV.i .i64 x0)) (some (AV.i .i64 n12)) fun l13=>
eP prog 9 64 false v9 (AV.s l13) h fun v14=>
bQ 1 1 [(AV.i .i64 0)] [(0,1,(AV.i .i64 x0))] h fun v15 h16=>
eP prog 9 64 false v9 (AV.s l13) h16 fun v17=>
(v14=v17 ∧
(aB x1 h16 fun v18=>
asS v18 fun l19=>
((AV.s l11)=(AV.s l19) ∧
(aB x2 h16 fun v20=>
(v9=v20 ∧
(aB x1 h16 fun v21=>
asS v21 fun l22=>
((AV.s l6)=(AV.s l22) ∧
(aB x2 h16 fun v23=>
(v4=v23 ∧
(bU none 1 8 v14 v15 h16 fun v24 h25=>
aB x1 h25 fun v26=>
asS v26 fun l27=>
((AV.s l6)=(AV.s l27) ∧
(aB x2 h25 fun v28=>
(v4=v28 ∧
(gB prog 9 v4 (AV.s l8) v24 h25 fun h29=>
Q (AV.tu []) h29)))))))))))))))
else
(Q (AV.tu []) h))
theorem Y29.call {K x0 x1 x2 h} (H:Y29.t (aK h K) x0 x1 x2 h (Y29.J (aK h K))):C Y29.id [(AV.i .i64 x0),x1,x2] h K:=
 gC Y29.J Tryd.func67 Y29.dist H
noncomputable def Y31.body:Code:=(Tryd.f68.body).getD .skip
def Y31.ann:Ann:=(sl [2,3,4,6,7] (sl [2,3,4,6,7,8] (sq [6,7] (sl [3,4,6,7,8,18] (.one (.br lf (.one (sq [3,4,6,7,8,10] (.seq 1 [3,4,6,7,8,10,29] lf bl) (sl [3,4,6,7,8,10,11] (sq [4,6,7,10,11] (.one (.loop 2 [3,4,6,7,8,10,11] (sq [3,4,6,7,8,10,11] (.seq 3 [3,4,6,7,8,10,11,45] (.ord (nn 0 16 .done)) bl) (.one lf)))) (sl [4,6,7,10,11,50] (.br (.ord (nn 0 4 (.eff 4 (.eff 5 .done .stop) .stop))) lf))))))))) (sq [6,7] (.ord (nn 0 2 (.eff 2 (.eff 3 .done .stop) .stop))) lf))))
theorem Y31.body_eq:Tryd.f68.body=some Y31.body:=by kernel_rfl
noncomputable def Y3.body:Code:=codeAt [1,1,0,1,0,1] Y31.body
def Y3.ann:Ann:=(.one (sq [3,4,6,7,8,10] (.seq 1 [3,4,6,7,8,10,29] lf bl) (sl [3,4,6,7,8,10,11] (sq [4,6,7,10,11] (.one (.loop 2 [3,4,6,7,8,10,11] (sq [3,4,6,7,8,10,11] (.seq 3 [3,4,6,7,8,10,11,45] (.ord (nn 0 16 .done)) bl) (.one lf)))) (sl [4,6,7,10,11,50] (.br (.ord (nn 0 4 (.eff 4 (.eff 5 .done .stop) .stop))) lf))))))
theorem Y3.dist:aH (places Y3.ann Y3.body)=true:=by kernel_rfl
noncomputable def Y3.J (X:Exit→aA→Prop):JT:=lR prog C 57 Y3.ann Y3.body (xK X)
theorem Y3.goR {X:Exit→aA→Prop} {k:Nat} {p:List Nat} (hl:iQ (places Y3.ann Y3.body) k=some (p,false)) {e:Env} {h:aA} (hk:atJ prog C 57 (Y3.J X) false p Y3.ann Y3.body e h (xK X)):Y3.J X k e h:=aC4 (P:=prog) (nt:=57) (ann:=Y3.ann) (body:=Y3.body) (K:=xK X) (k:=k) (p:=p) (e:=e) (h:=h) (gX _) Y3.dist hl hk
theorem Y3.goH {X:Exit→aA→Prop} {k:Nat} {p:List Nat} (hl:iQ (places Y3.ann Y3.body) k=some (p,true)) {e:Env} {h:aA} (hk:atJ prog C 57 (Y3.J X) true p Y3.ann Y3.body e h (xK X)):Y3.J X k e h:=aBE (P:=prog) (nt:=57) (ann:=Y3.ann) (body:=Y3.body) (K:=xK X) (k:=k) (p:=p) (e:=e) (h:=h) (gX _) Y3.dist hl hk
def Y3.p0 (X:Exit→aA→Prop) (x3 x4 x6 x7 x8:AV) (x10:Int) (x29:Bool) (h:aA):Prop:=Y3.J X 1 [(3,x3),(4,x4),(6,x6),(7,x7),(8,x8),(10,(AV.i .i64 x10)),(29,(AV.b x29))] h
def Y3.p2 (X:Exit→aA→Prop) (x3 x4 x6 x7 x8:AV) (x10 x11:Int) (x45:Bool) (h:aA):Prop:=Y3.J X 3 [(3,x3),(4,x4),(6,x6),(7,x7),(8,x8),(10,(AV.i .i64 x10)),(11,(AV.i .i64 x11)),(45,(AV.b x45))] h
def Y3.p1 (X:Exit→aA→Prop) (x3 x4 x6 x7 x8:AV) (x10 x11:Int) (h:aA):Prop:=Y3.J X 2 [(3,x3),(4,x4),(6,x6),(7,x7),(8,x8),(10,(AV.i .i64 x10)),(11,(AV.i .i64 x11))] h
def Y3.t0 (J:JT) (X:Exit→aA→Prop) (x3 x4 x6 x7 x8:AV) (x10:Int) (x29:Bool) (h:aA):Prop:=
(bif x29 then
(X (Exit.exit 0) h)
else
(J 2 [(3,x3),(4,x4),(6,x6),(7,x7),(8,x8),(10,(AV.i .i64 x10)),(11,(AV.i .i64 0))] h))
theorem Y3.t0_eq (J:JT) (X:Exit→aA→Prop) (x3:AV) (x4:AV) (x6:AV) (x7:AV) (x8:AV) (x10:Int) (x29:Bool) (h:aA):Y3.t0 J X x3 x4 x6 x7 x8 x10 x29 h=atJ prog C 57 J false [0,0,1] Y3.ann Y3.body [(3,x3),(4,x4),(6,x6),(7,x7),(8,x8),(10,(AV.i .i64 x10)),(29,(AV.b x29))] h (xK X):=by kernel_rfl
theorem Y3.i0 {X x3 x4 x6 x7 x8 x10 x29 h} (H:Y3.t0 (Y3.J X) X x3 x4 x6 x7 x8 x10 x29 h):Y3.p0 X x3 x4 x6 x7 x8 x10 x29 h:=Y3.goR (k:=1) (p:=[0,0,1]) (by kernel_rfl) ((Y3.t0_eq (Y3.J X) X x3 x4 x6 x7 x8 x10 x29 h).mp H)
def Y3.t2 (J:JT) (X:Exit→aA→Prop) (x3 x4 x6 x7 x8:AV) (x10 x11:Int) (x45:Bool) (h:aA):Prop:=
(bif x45 then
(aO (IntKind.wrap .i64 (x11+1)) fun n54=>
J 2 [(3,x3),(4,x4),(6,x6),(7,x7),(8,x8),(10,(AV.i .i64 x10)),(11,(AV.i .i64 n54))] h)
else
(aB x6 h fun v56=>
asI .i64 v56 fun n57=>
(bif (decide ((n57:Int)<x11)) then
(aB x4 h fun v59=>
asI .i64 v59 fun n60=>
aO (IntKind.wrap .i64 (n60 - x10)) fun n61=>
aU 1 x6 (AV.i .i64 x11) h fun h62=>
aB x4 h62 fun v63=>
asI .i64 v63 fun n64=>
((AV.i .i64 n60)=(AV.i .i64 n64) ∧
(aU 1 x7 (AV.i .i64 n61) h62 fun h65=>
X Exit.normal h65)))
else
(X Exit.normal h))))
theorem Y3.t2_eq (J:JT) (X:Exit→aA→Prop) (x3:AV) (x4:AV) (x6:AV) (x7:AV) (x8:AV) (x10:Int) (x11:Int) (x45:Bool) (h:aA):Y3.t2 J X x3 x4 x6 x7 x8 x10 x11 x45 h=atJ prog C 57 J false [0,1,1,0,0,0,0,1] Y3.ann Y3.body [(3,x3),(4,x4),(6,x6),(7,x7),(8,x8),(10,(AV.i .i64 x10)),(11,(AV.i .i64 x11)),(45,(AV.b x45))] h (xK X):=by kernel_rfl
theorem Y3.i2 {X x3 x4 x6 x7 x8 x10 x11 x45 h} (H:Y3.t2 (Y3.J X) X x3 x4 x6 x7 x8 x10 x11 x45 h):Y3.p2 X x3 x4 x6 x7 x8 x10 x11 x45 h:=Y3.goR (k:=3) (p:=[0,1,1,0,0,0,0,1]) (by kernel_rfl) ((Y3.t2_eq (Y3.J X) X x3 x4 x6 x7 x8 x10 x11 x45 h).mp H)
def Y3.t1 (J:JT) (X:Exit→aA→Prop) (x3 x4 x6 x7 x8:AV) (x10 x11:Int) (h:aA):Prop:=
aB x8 h fun v38=>
asI .i64 v38 fun n39=>
(bif (decide ((x11:Int)<n39)) then
(aB x3 h fun v40=>
asS v40 fun l41=>
aO (IntKind.wrap .i64 (x10+x11)) fun n42=>
e7 (AV.s l41) (AV.i .i64 n42) fun n43=>
aB x3 h fun v44=>
asS v44 fun l45=>
aB x4 h fun v46=>
asI .i64 v46 fun n47=>
aO (IntKind.wrap .i64 (n47+x11)) fun n48=>
e7 (AV.s l45) (AV.i .i64 n48) fun n49=>
J 3 [(3,x3),(4,x4),(6,x6),(7,x7),(8,x8),(10,(AV.i .i64 x10)),(11,(AV.i .i64 x11)),(45,(AV.b (decide ((n43:Int)=n49))))] h)
else
(J 3 [(3,x3),(4,x4),(6,x6),(7,x7),(8,x8),(10,(AV.i .i64 x10)),(11,(AV.i .i64 x11)),(45,(AV.b false))] h))
theorem Y3.t1_eq (J:JT) (X:Exit→aA→Prop) (x3:AV) (x4:AV) (x6:AV) (x7:AV) (x8:AV) (x10:Int) (x11:Int) (h:aA):Y3.t1 J X x3 x4 x6 x7 x8 x10 x11 h=atJ prog C 57 J true [0,1,1,0,0] Y3.ann Y3.body [(3,x3),(4,x4),(6,x6),(7,x7),(8,x8),(10,(AV.i .i64 x10)),(11,(AV.i .i64 x11))] h (xK X):=by kernel_rfl
theorem Y3.i1 {X x3 x4 x6 x7 x8 x10 x11 h} (H:Y3.t1 (Y3.J X) X x3 x4 x6 x7 x8 x10 x11 h):Y3.p1 X x3 x4 x6 x7 x8 x10 x11 h:=Y3.goH (k:=2) (p:=[0,1,1,0,0]) (by kernel_rfl) ((Y3.t1_eq (Y3.J X) X x3 x4 x6 x7 x8 x10 x11 h).mp H)
def Y31.tX (Q:AV→aA→Prop) (x0:List UInt8) (x1:Int) (x2:AV) (h:aA):Prop:=
dD none (AV.s x0) h fun v0 h1=>
dD none (AV.i .i64 x1) h1 fun v2 h3=>
cW none [(AV.i .i64 0)] h3 fun v4 h5=>
cW none [(AV.i .i64 0)] h5 fun v6 h7=>
aB v0 h7 fun v9=>
asS v9 fun l10=>
aB v2 h7 fun v11=>
asI .i64 v11 fun n12=>
aO (IntKind.wrap .i64 ((l10.length:Int) - n12)) fun n13=>
cW none [(AV.i .i64 0)] h7 fun v14 h15=>
aU 1 v14 (AV.i .i64 (mmI false 258 n13)) h15 fun h16=>
C Y65.id [x2] h16 fun v18 h19=>
aCG prog C (dR prog) v18 (fun g21 r22 y23 h24 K25=>
h24[g21]? = some (dJ r22 .ready none) ∧
aCZ y23 fun y23_0 y23_1=>
asI .i64 y23_1 fun n26=>
h24[g21]? = some (dJ r22 .ready none) ∧
aAM (aD3 g21 r22 K25) fun X=>
aBY (Y3.J X) fun J=>
aB v2 (h24.set g21 (dJ r22 .busy none)) fun v27=>
asI .i64 v27 fun n28=>
aO (IntKind.wrap .i64 (n28 - n26)) fun n29=>
(bif (decide ((32768:Int)<n29)) then
(J 1 [(3,v0),(4,v2),(6,v4),(7,v6),(8,v14),(10,(AV.i .i64 n26)),(29,(AV.b true))] (h24.set g21 (dJ r22 .busy none)))
else
(aB v4 (h24.set g21 (dJ r22 .busy none)) fun v31=>
asI .i64 v31 fun n32=>
aB v14 (h24.set g21 (dJ r22 .busy none)) fun v33=>
asI .i64 v33 fun n34=>
J 1 [(3,v0),(4,v2),(6,v4),(7,v6),(8,v14),(10,(AV.i .i64 n26)),(29,(AV.b (decide ((n32:Int)=n34))))] (h24.set g21 (dJ r22 .busy none))))) h19 fun r68 h66=>
(h66[h19.length]? = some (dJ r68 .ready none)∧aB v4 (h66.set h19.length cI) fun v73=>
asI .i64 v73 fun n74=>
aB v6 (h66.set h19.length cI) fun v75=>
asI .i64 v75 fun n76=>
aU 1 v4 (AV.i .i64 n74) (h66.set h19.length cI) fun h77=>
aB v6 h77 fun v78=>
asI .i64 v78 fun n79=>
((AV.i .i64 n76)=(AV.i .i64 n79) ∧
(aU 1 v6 (AV.i .i64 n76) h77 fun h80=>
aB v4 h80 fun v82=>
aB v6 h80 fun v83=>
Q (AV.tu [v82,v83]) h80))) ∨
(h66[h19.length]? = some (dJ r68 .done (some (.exit 0)))∧aB v4 (h66.set h19.length cI) fun v84=>
asI .i64 v84 fun n85=>
aB v6 (h66.set h19.length cI) fun v86=>
asI .i64 v86 fun n87=>
aU 1 v4 (AV.i .i64 n85) (h66.set h19.length cI) fun h88=>
aB v6 h88 fun v89=>
asI .i64 v89 fun n90=>
((AV.i .i64 n87)=(AV.i .i64 n90) ∧
(aU 1 v6 (AV.i .i64 n87) h88 fun h91=>
aB v4 h91 fun v93=>
aB v6 h91 fun v94=>
Q (AV.tu [v93,v94]) h91))) ∨
(h66[h19.length]? = some (dJ r68 .done (some .ret))∧aB v4 (h66.set h19.length cI) fun v71=>
aB v6 (h66.set h19.length cI) fun v72=>
Q (AV.tu [v71,v72]) (h66.set h19.length cI))
theorem Y31.tX_eq (Q:AV→aA→Prop) (x0:List UInt8) (x1:Int) (x2:AV) (h:aA):Y31.tX Q x0 x1 x2 h=eB prog C (dR prog) 57 Y31.ann Y31.body (eD 0 [(AV.s x0),(AV.i .i64 x1),x2]) h (nR prog Tryd.f68 Q):=by kernel_rfl
theorem Y31.callX {K:AV→aA→Prop} {x0:List UInt8} {x1:Int} {x2:AV} {h:aA} (H:Y31.tX (aK h K) x0 x1 x2 h):aFX prog C (dR prog) Y31.id [(AV.s x0),(AV.i .i64 x1),x2] h K:=
 ⟨Tryd.f68,Y31.body,Y31.ann,Tryd.func68,Y31.body_eq,by kernel_rfl,Nat.le_of_ble_eq_true (by kernel_rfl),(Y31.tX_eq (aK h K) x0 x1 x2 h).mp H⟩
noncomputable def Y27.body:Code:=(Tryd.f70.body).getD .skip
def Y27.ann:Ann:=(sl [0,1,2] (sl [] (sl [6] lf)))
theorem Y27.dist:aH (places Y27.ann Y27.body)=true:=by kernel_rfl
noncomputable def Y27.J (Q:AV→aA→Prop):JT:=bL prog C Tryd.f70 Y27.ann Y27.body Q
def Y27.t (Q:AV→aA→Prop) (x0:AV) (x1:Int) (x2:AV) (h:aA) (J:JT):Prop:=
aY x0 fun v1=>
aC 11 v1 fun v2=>
aU 1 v2 (AV.i .i64 0) h fun h3=>
aY x0 fun v4=>
aC 12 v4 fun v5=>
aU 1 v5 (AV.i .i64 0) h3 fun h6=>
aY x0 fun v7=>
aC 13 v7 fun v8=>
aU 1 v8 (AV.i .i64 x1) h6 fun h9=>
aY x0 fun v10=>
aC 14 v10 fun v11=>
aU 1 v11 (AV.p none) h9 fun h12=>
aY x0 fun v13=>
aC 15 v13 fun v14=>
aU 1 v14 x2 h12 fun h15=>
Q (AV.i .i64 0) h15
theorem Y27.call {K x0 x1 x2 h} (H:Y27.t (aK h K) x0 x1 x2 h (Y27.J (aK h K))):C Y27.id [x0,(AV.i .i64 x1),x2] h K:=
 gC Y27.J Tryd.func70 Y27.dist H
noncomputable def Y57.body:Code:=(Tryd.f71.body).getD .skip
def Y57.ann:Ann:=(sl [0,1] (sl [0,1] (sq [] (sl [1,11] (.one (sl [1,11,12] (.br (sl [1] (sl [3] lf)) (sl [1,11,19] (.br (sl [3] lf) (sl [1,23] (.br (sl [3] lf) lf)))))))) (sl [3] lf))))
theorem Y57.dist:aH (places Y57.ann Y57.body)=true:=by kernel_rfl
noncomputable def Y57.J (Q:AV→aA→Prop):JT:=bL prog C Tryd.f71 Y57.ann Y57.body Q
def Y57.t (Q:AV→aA→Prop) (x0:Int) (x1:AV) (h:aA) (J:JT):Prop:=
aB x1 h fun v1=>
aY v1 fun v2=>
aC 6 v2 fun v3=>
aU 1 v3 (AV.b (decide (((bP .and .i64 x0 1):Int)=1))) h fun h4=>
lU .i64 x0 1 fun n6=>
(bif (decide ((n6:Int)=0)) then
(aB x1 h4 fun v9=>
aY v9 fun v10=>
aC 9 v10 fun v11=>
aU 1 v11 (AV.b true) h4 fun h12=>
aB x1 h12 fun v14=>
C Y56.id [v14] h12 fun v15 h16=>
asI .i64 v15 fun n17=>
Q (AV.i .i64 n17) h16)
else
((bif (decide ((n6:Int)=1)) then
(aB x1 h4 fun v20=>
C Y52.id [v20] h4 fun v21 h22=>
asI .i64 v21 fun n23=>
Q (AV.i .i64 n23) h22)
else
((bif (decide ((n6:Int)=2)) then
(aB x1 h4 fun v26=>
C Y48.id [v26] h4 fun v27 h28=>
asI .i64 v27 fun n29=>
Q (AV.i .i64 n29) h28)
else
(Q (AV.i .i64 2) h4))))))
theorem Y57.call {K x0 x1 h} (H:Y57.t (aK h K) x0 x1 h (Y57.J (aK h K))):C Y57.id [(AV.i .i64 x0),x1] h K:=
 gC Y57.J Tryd.func71 Y57.dist H
noncomputable def Y56.body:Code:=(Tryd.f72.body).getD .skip
def Y56.ann:Ann:=(sl [1] (sl [2] lf))
theorem Y56.dist:aH (places Y56.ann Y56.body)=true:=by kernel_rfl
noncomputable def Y56.J (Q:AV→aA→Prop):JT:=bL prog C Tryd.f72 Y56.ann Y56.body Q
def Y56.t (Q:AV→aA→Prop) (x0:AV) (h:aA) (J:JT):Prop:=
dD none x0 h fun v0 h1=>
aB v0 h1 fun v3=>
C Y27.id [v3,(AV.i .i64 16),(AV.fn (.func Y62.id) [] [v0])] h1 fun v4 h5=>
asI .i64 v4 fun n6=>
Q (AV.i .i64 n6) h5
theorem Y56.call {K x0 h} (H:Y56.t (aK h K) x0 h (Y56.J (aK h K))):C Y56.id [x0] h K:=
 gC Y56.J Tryd.func72 Y56.dist H
noncomputable def Y52.body:Code:=(Tryd.f73.body).getD .skip
def Y52.ann:Ann:=(sl [0] (sl [0,3,4] (sl [2] lf)))
theorem Y52.dist:aH (places Y52.ann Y52.body)=true:=by kernel_rfl
noncomputable def Y52.J (Q:AV→aA→Prop):JT:=bL prog C Tryd.f73 Y52.ann Y52.body Q
def Y52.t (Q:AV→aA→Prop) (x0:AV) (h:aA) (J:JT):Prop:=
C Y10.id [] h fun v1 h2=>
aN 0 v1 fun v3=>
aN 1 v1 fun v4=>
C Y42.id [x0,v3,v4] h2 fun v6 h7=>
asI .i64 v6 fun n8=>
Q (AV.i .i64 n8) h7
theorem Y52.call {K x0 h} (H:Y52.t (aK h K) x0 h (Y52.J (aK h K))):C Y52.id [x0] h K:=
 gC Y52.J Tryd.func73 Y52.dist H
noncomputable def Y48.body:Code:=(Tryd.f74.body).getD .skip
def Y48.ann:Ann:=(sl [1] (sl [2] lf))
theorem Y48.dist:aH (places Y48.ann Y48.body)=true:=by kernel_rfl
noncomputable def Y48.J (Q:AV→aA→Prop):JT:=bL prog C Tryd.f74 Y48.ann Y48.body Q
def Y48.t (Q:AV→aA→Prop) (x0:AV) (h:aA) (J:JT):Prop:=
dD none x0 h fun v0 h1=>
aB v0 h1 fun v3=>
C Y27.id [v3,(AV.i .i64 5),(AV.fn (.func Y47.id) [] [v0])] h1 fun v4 h5=>
asI .i64 v4 fun n6=>
Q (AV.i .i64 n6) h5
theorem Y48.call {K x0 h} (H:Y48.t (aK h K) x0 h (Y48.J (aK h K))):C Y48.id [x0] h K:=
 gC Y48.J Tryd.func74 Y48.dist H
noncomputable def Y15.body:Code:=(Tryd.f75.body).getD .skip
def Y15.ann:Ann:=(sl [0,1,4,5,6] (sq [0,1,4,5,6] (sl [0,1,4,5,6,9] (.br (sl [4,5,6] lf) lf)) (sq [0,4,5,6] (.ord (nn 0 17 (.eff 17 (nn 18 2 (.eff 20 .done .stop)) .stop))) (.seq 2 [0,4,5,6] (sl [0,4,5,6,7] (.seq 1 [0,4,5,6,7,74] (.ord (nn 0 42 .done)) (.br (.ord (nn 0 27 .done)) (sl [0,4,5,105] (.br (sl [4,5,6] lf) lf))))) (sl [4,5,6] (sl [4,5,6] lf))))))
theorem Y15.dist:aH (places Y15.ann Y15.body)=true:=by kernel_rfl
noncomputable def Y15.J (Q:AV→aA→Prop):JT:=bL prog C Tryd.f75 Y15.ann Y15.body Q
def Y15.p0 (Q:AV→aA→Prop) (x0:AV) (x4:Int) (x5:Bool) (x6 x7:Int) (x74:Bool) (h:aA):Prop:=Y15.J Q 1 [(0,x0),(4,(AV.i .i64 x4)),(5,(AV.b x5)),(6,(AV.i .i64 x6)),(7,(AV.i .i64 x7)),(74,(AV.b x74))] h
def Y15.p1 (Q:AV→aA→Prop) (x0:AV) (x4:Int) (x5:Bool) (x6:Int) (h:aA):Prop:=Y15.J Q 2 [(0,x0),(4,(AV.i .i64 x4)),(5,(AV.b x5)),(6,(AV.i .i64 x6))] h
def Y15.t0 (Q:AV→aA→Prop) (x0:AV) (x4:Int) (x5:Bool) (x6 x7:Int) (x74:Bool) (h:aA) (J:JT):Prop:=
(bif x74 then
(aY x0 fun v63=>
aC 32 v63 fun v64=>
aB v64 h fun v65=>
aY x0 fun v66=>
aC 33 v66 fun v67=>
bG 16 1 v67 (AV.i .i64 x7) fun v68=>
aB v68 h fun v69=>
asI .i64 v69 fun n70=>
aY x0 fun v71=>
aC 50 v71 fun v72=>
aB v72 h fun v73=>
asI .i64 v73 fun n74=>
aO (IntKind.wrap .i64 (n70+n74)) fun n75=>
aY x0 fun v76=>
aC 0 v76 fun v77=>
aC 16 v77 fun v78=>
bG 16 1 v78 (AV.i .i64 x7) fun v79=>
aB v79 h fun v80=>
asI .i64 v80 fun n81=>
aO (IntKind.wrap .i64 (n75 - n81)) fun n82=>
aX 1 v65 (AV.i .i64 n82) h fun v83=>
aB v83 h fun v84=>
asI .i64 v84 fun n85=>
J 2 [(0,x0),(4,(AV.i .i64 n85)),(5,(AV.b true)),(6,(AV.i .i64 x6))] h)
else
(aY x0 fun v87=>
aC 49 v87 fun v88=>
aB v88 h fun v89=>
asI .i64 v89 fun n90=>
(bif (decide ((x7:Int)<n90)) then
(Q (AV.tu [(AV.i .i64 0),(AV.b false),(AV.i .i64 0)]) h)
else
(J 2 [(0,x0),(4,(AV.i .i64 x4)),(5,(AV.b x5)),(6,(AV.i .i64 2))] h))))
theorem Y15.i0 {Q x0 x4 x5 x6 x7 x74 h} (H:Y15.t0 Q x0 x4 x5 x6 x7 x74 h (Y15.J Q)):Y15.p0 Q x0 x4 x5 x6 x7 x74 h:=gR Y15.J Tryd.f75 Y15.dist [1,1,1,0,1,1] H
def Y15.t1 (Q:AV→aA→Prop) (x0:AV) (x4:Int) (x5:Bool) (x6:Int) (h:aA) (J:JT):Prop:=
aY x0 fun v94=>
aC 50 v94 fun v95=>
aU 1 v95 (AV.i .i64 0) h fun h96=>
aY x0 fun v97=>
aC 51 v97 fun v98=>
aU 1 v98 (AV.i .i64 0) h96 fun h99=>
Q (AV.tu [(AV.i .i64 x4),(AV.b x5),(AV.i .i64 x6)]) h99
theorem Y15.i1 {Q x0 x4 x5 x6 h} (H:Y15.t1 Q x0 x4 x5 x6 h (Y15.J Q)):Y15.p1 Q x0 x4 x5 x6 h:=gR Y15.J Tryd.f75 Y15.dist [1,1,1,1] H
def Y15.t (Q:AV→aA→Prop) (x0:AV) (x1:Int) (h:aA) (J:JT):Prop:=
dN prog .eql 44 x0 (AV.p none) fun v1=>
asB v1 fun c2=>
(bif c2 then
(Q (AV.tu [(AV.i .i64 0),(AV.b false),(AV.i .i64 6)]) h)
else
(aY x0 fun v6=>
aC 50 v6 fun v7=>
aB v7 h fun v8=>
asI .i64 v8 fun n9=>
nQ .i64 n9 1 fun n10=>
aO (bP .or .i64 n10 (bP .and .i64 x1 1)) fun n11=>
aY x0 fun v12=>
aC 51 v12 fun v13=>
aB v13 h fun v14=>
asI .i64 v14 fun n15=>
aO (IntKind.wrap .i64 (n15+1)) fun n16=>
aY x0 fun v17=>
aC 50 v17 fun v18=>
aU 1 v18 (AV.i .i64 n11) h fun h19=>
aY x0 fun v20=>
aC 51 v20 fun v21=>
aU 1 v21 (AV.i .i64 n16) h19 fun h22=>
aY x0 fun v24=>
aC 51 v24 fun v25=>
aB v25 h22 fun v26=>
asI .i64 v26 fun n27=>
aY x0 fun v29=>
aC 49 v29 fun v30=>
aB v30 h22 fun v31=>
asI .i64 v31 fun n32=>
(bif (decide ((n27:Int)≤n32)) then
(aY x0 fun v33=>
aC 50 v33 fun v34=>
aB v34 h22 fun v35=>
asI .i64 v35 fun n36=>
aY x0 fun v37=>
aC 0 v37 fun v38=>
aC 16 v38 fun v39=>
bG 16 1 v39 (AV.i .i64 n27) fun v40=>
aB v40 h22 fun v41=>
asI .i64 v41 fun n42=>
aO (IntKind.wrap .i64 (n36 - n42)) fun n43=>
aY x0 fun v44=>
aC 0 v44 fun v45=>
aC 0 v45 fun v46=>
bG 16 1 v46 (AV.i .i64 n27) fun v47=>
aB v47 h22 fun v48=>
asI .i64 v48 fun n49=>
(bif (decide ((n43:Int)<n49)) then
(aY x0 fun v50=>
aC 50 v50 fun v51=>
aB v51 h22 fun v52=>
asI .i64 v52 fun n53=>
aY x0 fun v54=>
aC 0 v54 fun v55=>
aC 16 v55 fun v56=>
bG 16 1 v56 (AV.i .i64 n27) fun v57=>
aB v57 h22 fun v58=>
asI .i64 v58 fun n59=>
J 1 [(0,x0),(4,(AV.i .i64 0)),(5,(AV.b false)),(6,(AV.i .i64 0)),(7,(AV.i .i64 n27)),(74,(AV.b (decide ((n59:Int)≤n53))))] h22)
else
(J 1 [(0,x0),(4,(AV.i .i64 0)),(5,(AV.b false)),(6,(AV.i .i64 0)),(7,(AV.i .i64 n27)),(74,(AV.b false))] h22)))
else
(J 1 [(0,x0),(4,(AV.i .i64 0)),(5,(AV.b false)),(6,(AV.i .i64 0)),(7,(AV.i .i64 n27)),(74,(AV.b false))] h22))))
theorem Y15.call {K x0 x1 h} (H:Y15.t (aK h K) x0 x1 h (Y15.J (aK h K))):C Y15.id [x0,(AV.i .i64 x1)] h K:=
 gC Y15.J Tryd.func75 Y15.dist H
noncomputable def Y5.body:Code:=(Tryd.f79.body).getD .skip
def Y5.ann:Ann:=(sl [0] (sq [0] (sl [0,10] (.br (sl [2] lf) lf)) (sl [0,3,4,5] (sq [3,4,5] (sl [3,4,5,11,12,13] (.one (.loop 1 [3,4,5,11,12,13] (sl [3,4,5,11,12,13,14] (sq [3,4,5,11,12,13] bl (.seq 3 [3,4,5,11,12,13] (.one (sl [3,4,5,7,11,12,13] (sq [3,4,5,7,11,12,13] (.seq 2 [3,4,5,7,11,12,13,22] lf (.br (sl [2] lf) lf)) (sl [3,4,5,7,11,12,13,24] (.br (sl [3,4,5,7,11,12,13] (sl [3,4,5,7,11,12,13] lf)) lf))))) lf)))))) (sq [] (.one (sl [3,4,5,36] (.br (sl [2] lf) (.seq 4 [39] lf (.br (sl [2] lf) lf))))) (sl [2] lf))))))
theorem Y5.dist:aH (places Y5.ann Y5.body)=true:=by kernel_rfl
noncomputable def Y5.J (Q:AV→aA→Prop):JT:=bL prog C Tryd.f79 Y5.ann Y5.body Q
def Y5.p1 (Q:AV→aA→Prop) (x3 x4 x5 x7:Int) (x11:AV) (x12 x13:Int) (x22:Bool) (h:aA):Prop:=Y5.J Q 2 [(3,(AV.i .i64 x3)),(4,(AV.i .i64 x4)),(5,(AV.i .i64 x5)),(7,(AV.i .i64 x7)),(11,x11),(12,(AV.i .i64 x12)),(13,(AV.i .i64 x13)),(22,(AV.b x22))] h
def Y5.p2 (Q:AV→aA→Prop) (x3 x4 x5:Int) (x11:AV) (x12 x13:Int) (h:aA):Prop:=Y5.J Q 3 [(3,(AV.i .i64 x3)),(4,(AV.i .i64 x4)),(5,(AV.i .i64 x5)),(11,x11),(12,(AV.i .i64 x12)),(13,(AV.i .i64 x13))] h
def Y5.p0 (Q:AV→aA→Prop) (x3 x4 x5:Int) (x11:AV) (x12 x13:Int) (h:aA):Prop:=Y5.J Q 1 [(3,(AV.i .i64 x3)),(4,(AV.i .i64 x4)),(5,(AV.i .i64 x5)),(11,x11),(12,(AV.i .i64 x12)),(13,(AV.i .i64 x13))] h
def Y5.p3 (Q:AV→aA→Prop) (x39:Bool) (h:aA):Prop:=Y5.J Q 4 [(39,(AV.b x39))] h
def Y5.t1 (Q:AV→aA→Prop) (x3 x4 x5 x7:Int) (x11:AV) (x12 x13:Int) (x22:Bool) (h:aA) (J:JT):Prop:=
(bif x22 then
(Q (AV.i .i64 4) h)
else
((bif (decide ((0:Int)<x7)) then
(aO (IntKind.wrap .i64 (15 - x7)) fun n20=>
nQ .i64 1 n20 fun n21=>
aO (IntKind.wrap .i64 (x3+n21)) fun n22=>
aO (IntKind.wrap .i64 (x4+1)) fun n24=>
J 3 [(3,(AV.i .i64 n22)),(4,(AV.i .i64 n24)),(5,(AV.i .i64 (mmI true x5 x7))),(11,x11),(12,(AV.i .i64 x12)),(13,(AV.i .i64 x13))] h)
else
(J 3 [(3,(AV.i .i64 x3)),(4,(AV.i .i64 x4)),(5,(AV.i .i64 x5)),(11,x11),(12,(AV.i .i64 x12)),(13,(AV.i .i64 x13))] h))))
theorem Y5.i1 {Q x3 x4 x5 x7 x11 x12 x13 x22 h} (H:Y5.t1 Q x3 x4 x5 x7 x11 x12 x13 x22 h (Y5.J Q)):Y5.p1 Q x3 x4 x5 x7 x11 x12 x13 x22 h:=gR Y5.J Tryd.f79 Y5.dist [1,1,1,0,1,0,0,1,1,0,0,1,0,1] H
def Y5.t2 (Q:AV→aA→Prop) (x3 x4 x5:Int) (x11:AV) (x12 x13:Int) (h:aA) (J:JT):Prop:=
aO (IntKind.wrap .i64 (x13+1)) fun n28=>
J 1 [(3,(AV.i .i64 x3)),(4,(AV.i .i64 x4)),(5,(AV.i .i64 x5)),(11,x11),(12,(AV.i .i64 x12)),(13,(AV.i .i64 n28))] h
theorem Y5.i2 {Q x3 x4 x5 x11 x12 x13 h} (H:Y5.t2 Q x3 x4 x5 x11 x12 x13 h (Y5.J Q)):Y5.p2 Q x3 x4 x5 x11 x12 x13 h:=gR Y5.J Tryd.f79 Y5.dist [1,1,1,0,1,0,0,1,1,1] H
def Y5.t0 (Q:AV→aA→Prop) (x3 x4 x5:Int) (x11:AV) (x12 x13:Int) (h:aA) (J:JT):Prop:=
(bif (decide ((x13:Int)<x12)) then
(aX 1 x11 (AV.i .i64 x13) h fun v11=>
aB v11 h fun v12=>
asI .i64 v12 fun n13=>
(bif (decide ((n13:Int)<0)) then
(J 2 [(3,(AV.i .i64 x3)),(4,(AV.i .i64 x4)),(5,(AV.i .i64 x5)),(7,(AV.i .i64 n13)),(11,x11),(12,(AV.i .i64 x12)),(13,(AV.i .i64 x13)),(22,(AV.b true))] h)
else
(J 2 [(3,(AV.i .i64 x3)),(4,(AV.i .i64 x4)),(5,(AV.i .i64 x5)),(7,(AV.i .i64 n13)),(11,x11),(12,(AV.i .i64 x12)),(13,(AV.i .i64 x13)),(22,(AV.b (decide ((15:Int)<n13))))] h)))
else
((bif (decide ((32768:Int)<x3)) then
(Q (AV.i .i64 2) h)
else
((bif (decide ((x3:Int)<32768)) then
((bif (decide ((0:Int)<x4)) then
((bif (decide ((1:Int)<x4)) then
(J 4 [(39,(AV.b true))] h)
else
(J 4 [(39,(AV.b (decide ((1:Int)<x5))))] h)))
else
(J 4 [(39,(AV.b false))] h)))
else
(J 4 [(39,(AV.b false))] h))))))
theorem Y5.i0 {Q x3 x4 x5 x11 x12 x13 h} (H:Y5.t0 Q x3 x4 x5 x11 x12 x13 h (Y5.J Q)):Y5.p0 Q x3 x4 x5 x11 x12 x13 h:=gH Y5.J Tryd.f79 Y5.dist [1,1,1,0,1,0] H
def Y5.t3 (Q:AV→aA→Prop) (x39:Bool) (h:aA) (J:JT):Prop:=
(bif x39 then
(Q (AV.i .i64 1) h)
else
(Q (AV.i .i64 0) h))
theorem Y5.i3 {Q x39 h} (H:Y5.t3 Q x39 h (Y5.J Q)):Y5.p3 Q x39 h:=gR Y5.J Tryd.f79 Y5.dist [1,1,1,1,0,0,1,1,1] H
def Y5.t (Q:AV→aA→Prop) (x0:AV) (h:aA) (J:JT):Prop:=
bX x0 fun n1=>
(bif (decide ((320:Int)<n1)) then
(Q (AV.i .i64 3) h)
else
(bX x0 fun n6=>
J 1 [(3,(AV.i .i64 0)),(4,(AV.i .i64 0)),(5,(AV.i .i64 0)),(11,x0),(12,(AV.i .i64 n6)),(13,(AV.i .i64 0))] h))
theorem Y5.call {K x0 h} (H:Y5.t (aK h K) x0 h (Y5.J (aK h K))):C Y5.id [x0] h K:=
 gC Y5.J Tryd.func79 Y5.dist H
end Go.Proofs.YtpaphfeihpgamaaDoor
