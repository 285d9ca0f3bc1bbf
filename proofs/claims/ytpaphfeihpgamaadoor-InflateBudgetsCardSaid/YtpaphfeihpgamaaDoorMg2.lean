/- Lemmas (several texts in one). -/
import Derived.Test.YtpaphfeihpgamaaDoorProg
import Derived.KernelRfl
import Derived.Test.YtpaphfeihpgamaaDoorMg1
set_option linter.unusedVariables false
set_option linter.unusedSectionVars false
set_option maxRecDepth 100000
namespace Go.Proofs.YtpaphfeihpgamaaDoor
open Go.GAM
noncomputable abbrev prog:Program:=Tryd.prog
class XR where
 X:aS
abbrev X [XR]:aS:=XR.X
abbrev C [XR]:aS:=dO prog X
abbrev lf:Ann:=.leaf
def nn:Nat→Nat→Go.GAM.Ord→Go.GAM.Ord
 | _,0,o=>o
 | i,k+1,o=>.neu i (nn (i+1) k o)
abbrev bl:Ann:=.br .leaf .leaf
abbrev sl (l:List Nat) (x:Ann):Ann:=.seq 0 l .leaf x
abbrev sq (l:List Nat) (x y:Ann):Ann:=.seq 0 l x y
theorem gR [XR] {ann:Ann} {body:Code} (J:(AV→aA→Prop)→JT) (fn:Func) (hd:aH (places ann body)=true) {Q:AV→aA→Prop} {k:Nat} (p:List Nat) {e:Env} {h:aA} {a:JT→Prop} (H:a (J Q)) (hJ:J=bL prog C fn ann body:=by exact rfl) (hl:iW (places ann body) k=some (p,false):=by kernel_rfl) (he:∀ j,a j=atJ prog C fn.ntmps j false p ann body e h (oB prog fn Q):=by intro j; kernel_rfl):J Q k e h:=by
 subst hJ
 exact aER (g9 X) hd hl (he _ ▸ H)
theorem gH [XR] {ann:Ann} {body:Code} (J:(AV→aA→Prop)→JT) (fn:Func) (hd:aH (places ann body)=true) {Q:AV→aA→Prop} {k:Nat} (p:List Nat) {e:Env} {h:aA} {a:JT→Prop} (H:a (J Q)) (hJ:J=bL prog C fn ann body:=by exact rfl) (hl:iW (places ann body) k=some (p,true):=by kernel_rfl) (he:∀ j,a j=atJ prog C fn.ntmps j true p ann body e h (oB prog fn Q):=by intro j; kernel_rfl):J Q k e h:=by
 subst hJ
 exact aBC (g9 X) hd hl (he _ ▸ H)
theorem gC [XR] {f:FuncId} {fn:Func} {ann:Ann} {body:Code} (J:(AV→aA→Prop)→JT) (hf:prog.funcs[f]? = some fn) (hd:aH (places ann body)=true) {args:List AV} {h:aA} {K:AV→aA→Prop} {a:JT→Prop} (H:a (J (aK h K))) (hJ:J=bL prog C fn ann body:=by exact rfl) (hb:fn.body=some body:=by kernel_rfl) (hn:(fn.name == "runtime.NumGoroutine")=false:=by kernel_rfl) (ha:Nat.ble args.length fn.ntmps=true:=by kernel_rfl) (he:∀ j,a j=exJ prog C fn.ntmps j ann body (d9 0 args) h (oB prog fn (aK h K)):=by intro j; kernel_rfl):C f args h K:=by
 subst hJ
 exact aGP hf hb hn hd ha (he _ ▸ H)
abbrev Y18.id:FuncId:=6
abbrev Y21.id:FuncId:=9
abbrev Y46.id:FuncId:=10
abbrev Y17.id:FuncId:=12
abbrev Y34.id:FuncId:=14
abbrev Y42.id:FuncId:=16
abbrev Y0.id:FuncId:=17
abbrev Y25.id:FuncId:=18
abbrev Y40.id:FuncId:=25
abbrev Y26.id:FuncId:=27
abbrev Y24.id:FuncId:=28
abbrev Y62.id:FuncId:=29
abbrev Y10.id:FuncId:=30
abbrev Y9.id:FuncId:=31
abbrev Y11.id:FuncId:=32
abbrev Y7.id:FuncId:=33
abbrev Y43.id:FuncId:=41
abbrev Y32.id:FuncId:=42
abbrev Y1.id:FuncId:=43
abbrev Y13.id:FuncId:=44
abbrev Y12.id:FuncId:=45
abbrev Y8.id:FuncId:=50
abbrev Y19.id:FuncId:=51
abbrev Y28.id:FuncId:=62
abbrev Y3.id:FuncId:=63
abbrev Y15.id:FuncId:=64
abbrev Y33.id:FuncId:=65
abbrev Y37.id:FuncId:=66
abbrev Y29.id:FuncId:=67
abbrev Y30.id:FuncId:=68
abbrev Y27.id:FuncId:=70
abbrev Y50.id:FuncId:=71
abbrev Y60.id:FuncId:=72
abbrev Y59.id:FuncId:=73
abbrev Y57.id:FuncId:=74
abbrev Y14.id:FuncId:=75
abbrev Y4.id:FuncId:=79
abbrev Y6.id:FuncId:=80
abbrev Y31.id:FuncId:=85
abbrev Y69.id:FuncId:=86
abbrev Y67.id:FuncId:=87
abbrev Y54.id:FuncId:=88
abbrev Y66.id:FuncId:=89
abbrev Y47.id:FuncId:=90
abbrev Y55.id:FuncId:=91
abbrev Y44.id:FuncId:=92
abbrev Y45.id:FuncId:=93
abbrev Y63.id:FuncId:=94
abbrev Y58.id:FuncId:=95
abbrev Y61.id:FuncId:=96
abbrev Y41.id:FuncId:=97
abbrev Y65.id:FuncId:=104
abbrev Y22.id:FuncId:=105
abbrev Y56.id:FuncId:=106
abbrev Y16.id:FuncId:=107
abbrev Y5.id:FuncId:=108
abbrev Y36.id:FuncId:=109
abbrev Y38.id:FuncId:=110
abbrev Y52.id:FuncId:=111
abbrev Y68.id:FuncId:=112
abbrev Y35.id:FuncId:=113
abbrev Y48.id:FuncId:=114
abbrev Y53.id:FuncId:=115
abbrev Y64.id:FuncId:=116
abbrev Y51.id:FuncId:=117
abbrev Y20.id:FuncId:=118
abbrev Y39.id:FuncId:=119
abbrev Y49.id:FuncId:=120
abbrev Y23.id:FuncId:=121
variable [XR]
noncomputable def Y21.body:Code:=(Tryd.f9.body).getD .skip
def Y21.ann:Ann:=(sl [] (sl [1,2] (sl [1,2,4] (.seq 1 [0] lf lf))))
theorem Y21.dist:aH (places Y21.ann Y21.body)=true:=by kernel_rfl
noncomputable def Y21.J (Q:AV→aA→Prop):JT:=bL prog C Tryd.f9 Y21.ann Y21.body Q
def Y21.p0 (Q:AV→aA→Prop) (x0:Bool) (h:aA):Prop:=Y21.J Q 1 [(0,(AV.b x0))] h
def Y21.t0 (Q:AV→aA→Prop) (x0:Bool) (h:aA) (J:JT):Prop:=
Q (AV.b x0) h
theorem Y21.i0 {Q x0 h} (H:Y21.t0 Q x0 h (Y21.J Q)):Y21.p0 Q x0 h:=gR Y21.J Tryd.f9 Y21.dist [1,1,1,1] H
def Y21.t (Q:AV→aA→Prop) (h:aA) (J:JT):Prop:=
C Y40.id [] h fun v1 h2=>
C Y46.id [(AV.s [75,4,0]),v1] h2 fun v3 h4=>
aP 0 v3 fun v5=>
asS v5 fun l6=>
aP 1 v3 fun v7=>
asI .i64 v7 fun n8=>
C Y40.id [] h4 fun v10 h11=>
C Y46.id [(AV.s [75,4]),v10] h11 fun v12 h13=>
aP 0 v12 fun v14=>
asS v14 fun l15=>
aP 1 v12 fun v16=>
asI .i64 v16 fun n17=>
(bif (decide ((l6:List UInt8)=[97])) then
((bif (decide ((n8:Int)=0)) then
((bif (decide ((n17:Int)=1)) then
(C Y17.id [(AV.s [97])] h13 fun v19 h20=>
asS v19 fun l21=>
(bif (decide ((l21:List UInt8)=[1,1,0,254,255,97])) then
(C Y34.id [(AV.s [97])] h20 fun v22 h23=>
asS v22 fun l24=>
(bif (decide ((l24:List UInt8)=[75,4,0])) then
(C Y34.id [(AV.s [97,97,97,97,97,97])] h23 fun v25 h26=>
asS v25 fun l27=>
J 1 [(0,(AV.b (decide ((l27:List UInt8)=[75,4,3,0]))))] h26)
else
(J 1 [(0,(AV.b false))] h23)))
else
(J 1 [(0,(AV.b false))] h20)))
else
(J 1 [(0,(AV.b false))] h13)))
else
(J 1 [(0,(AV.b false))] h13)))
else
(J 1 [(0,(AV.b false))] h13))
theorem Y21.call {K h} (H:Y21.t (aK h K) h (Y21.J (aK h K))):C Y21.id [] h K:=
 gC Y21.J Tryd.func9 Y21.dist H
noncomputable def Y46.body:Code:=(Tryd.f10.body).getD .skip
def Y46.ann:Ann:=(sl [0,3] (sl [0,6] (sl [6,7,8] (sq [7] (.one (sl [6,7,8,17] (.br (sl [4,5] lf) (sl [6,7,21] (.br (sl [4,5] lf) (sl [7,27] (.br (sl [4,5] lf) lf))))))) (sl [4,5] lf)))))
theorem Y46.dist:aH (places Y46.ann Y46.body)=true:=by kernel_rfl
noncomputable def Y46.J (Q:AV→aA→Prop):JT:=bL prog C Tryd.f10 Y46.ann Y46.body Q
def Y46.t (Q:AV→aA→Prop) (x0:List UInt8) (x1:AV) (h:aA) (J:JT):Prop:=
dF (some 23) x1 h fun v0 h1=>
dW 2 v0 h1 fun v3=>
C Y42.id [v3] h1 fun v4 h5=>
C Y0.id [v4,(AV.s x0)] h5 fun v7 h8=>
aP 0 v7 fun v9=>
asS v9 fun l10=>
aP 1 v7 fun v11=>
asI .i64 v11 fun n12=>
(bif (!decide ((n12:Int)=0)) then
(Q (AV.tu [(AV.s []),(AV.i .i64 n12)]) h8)
else
(aZ v4 fun v16=>
aC 7 v16 fun v17=>
aB v17 h8 fun v18=>
asB v18 fun c19=>
(bif (!c19) then
(Q (AV.tu [(AV.s []),(AV.i .i64 1)]) h8)
else
(aZ v4 fun v22=>
aC 10 v22 fun v23=>
aB v23 h8 fun v24=>
asS v24 fun l25=>
(bif (!(decide ((l25:List UInt8)=[]))) then
(Q (AV.tu [(AV.s []),(AV.i .i64 2)]) h8)
else
(Q (AV.tu [(AV.s l10),(AV.i .i64 0)]) h8))))))
theorem Y46.call {K x0 x1 h} (H:Y46.t (aK h K) x0 x1 h (Y46.J (aK h K))):C Y46.id [(AV.s x0),x1] h K:=
 gC Y46.J Tryd.func10 Y46.dist H
noncomputable def Y17.body:Code:=(Tryd.f12.body).getD .skip
def Y17.ann:Ann:=(sl [0] (sl [0,3] (.one (.loop 1 [0,3] (.one (sl [0,3,4] (sl [0,3,4,5] (.seq 2 [0,3,4,5] (sl [0,3,4,5,12] bl) (sl [0,3,4,5] (sl [0,3,4,5] (sl [0,3,5] (sl [0,3,36] (.br (sl [2] lf) lf)))))))))))))
theorem Y17.dist:aH (places Y17.ann Y17.body)=true:=by kernel_rfl
noncomputable def Y17.J (Q:AV→aA→Prop):JT:=bL prog C Tryd.f12 Y17.ann Y17.body Q
def Y17.p1 (Q:AV→aA→Prop) (x0:List UInt8) (x3:AV) (x4 x5:Int) (h:aA):Prop:=Y17.J Q 2 [(0,(AV.s x0)),(3,x3),(4,(AV.i .i64 x4)),(5,(AV.i .u8 x5))] h
def Y17.p0 (Q:AV→aA→Prop) (x0:List UInt8) (x3:AV) (h:aA):Prop:=Y17.J Q 1 [(0,(AV.s x0)),(3,x3)] h
def Y17.t1 (Q:AV→aA→Prop) (x0:List UInt8) (x3:AV) (x4 x5:Int) (h:aA) (J:JT):Prop:=
lR .i64 x4 8 fun n10=>
aN (bQ .xor .u8 (IntKind.max .u8) (IntKind.wrap .u8 x4)) fun n11=>
lR .i64 x4 8 fun n12=>
aN (bQ .xor .u8 (IntKind.max .u8) (IntKind.wrap .u8 n12)) fun n13=>
bP 1 5 [(AV.i .u8 0),(AV.i .u8 0),(AV.i .u8 0),(AV.i .u8 0),(AV.i .u8 0)] [(0,1,(AV.i .u8 x5)),(1,1,(AV.i .u8 (IntKind.wrap .u8 x4))),(2,1,(AV.i .u8 (IntKind.wrap .u8 n10))),(3,1,(AV.i .u8 n11)),(4,1,(AV.i .u8 n13))] h fun v14 h15=>
C Y26.id [x3,v14] h15 fun v16 h17=>
b8 (AV.s x0) none (some (AV.i .i64 x4)) fun l19=>
C Y24.id [x3,(AV.s l19)] h17 fun v20 h21=>
b8 (AV.s x0) (some (AV.i .i64 x4)) none fun l23=>
(bif (decide ((x5:Int)=1)) then
(C Y62.id [x3] h21 fun v26 h27=>
asS v26 fun l28=>
Q (AV.s l28) h27)
else
(J 1 [(0,(AV.s l23)),(3,x3)] h21))
theorem Y17.i1 {Q x0 x3 x4 x5 h} (H:Y17.t1 Q x0 x3 x4 x5 h (Y17.J Q)):Y17.p1 Q x0 x3 x4 x5 h:=gR Y17.J Tryd.f12 Y17.dist [1,1,0,0,0,1,1,1] H
def Y17.t0 (Q:AV→aA→Prop) (x0:List UInt8) (x3:AV) (h:aA) (J:JT):Prop:=
aN (mmI false (x0.length:Int) 65535) fun n4=>
(bif (decide ((n4:Int)=(x0.length:Int))) then
(J 2 [(0,(AV.s x0)),(3,x3),(4,(AV.i .i64 n4)),(5,(AV.i .u8 1))] h)
else
(J 2 [(0,(AV.s x0)),(3,x3),(4,(AV.i .i64 n4)),(5,(AV.i .u8 0))] h))
theorem Y17.i0 {Q x0 x3 h} (H:Y17.t0 Q x0 x3 h (Y17.J Q)):Y17.p0 Q x0 x3 h:=gH Y17.J Tryd.f12 Y17.dist [1,1,0] H
def Y17.t (Q:AV→aA→Prop) (x0:List UInt8) (h:aA) (J:JT):Prop:=
cV (some 53) [(AV.sl none 0 none),(AV.i .i64 0),(AV.i .i8 0)] h fun v1 h2=>
J 1 [(0,(AV.s x0)),(3,v1)] h2
theorem Y17.call {K x0 h} (H:Y17.t (aK h K) x0 h (Y17.J (aK h K))):C Y17.id [(AV.s x0)] h K:=
 gC Y17.J Tryd.func12 Y17.dist H
noncomputable def Y34.body:Code:=(Tryd.f14.body).getD .skip
def Y34.ann:Ann:=(sl [0] (sl [0,3] (sl [0,3] (sl [0,3,4,5] (sl [3] (sl [2] lf))))))
theorem Y34.dist:aH (places Y34.ann Y34.body)=true:=by kernel_rfl
noncomputable def Y34.J (Q:AV→aA→Prop):JT:=bL prog C Tryd.f14 Y34.ann Y34.body Q
def Y34.t (Q:AV→aA→Prop) (x0:List UInt8) (h:aA) (J:JT):Prop:=
dF (some 62) (AV.ag [(AV.sl none 0 none),(AV.i .i64 0)]) h fun v1 h2=>
C Y10.id [v1,(AV.i .i64 3),(AV.i .i64 3)] h2 fun v4 h5=>
C Y9.id [] h5 fun v7 h8=>
aP 0 v7 fun v9=>
aP 1 v7 fun v10=>
C Y7.id [(AV.s x0)] h8 fun v12 h13=>
C Y11.id [v1,v12,v9,v10] h13 fun v14 h15=>
aZ v1 fun v17=>
aC 0 v17 fun v18=>
aB v18 h15 fun v19=>
cZ v19 h15 fun l20=>
Q (AV.s l20) h15
theorem Y34.call {K x0 h} (H:Y34.t (aK h K) x0 h (Y34.J (aK h K))):C Y34.id [(AV.s x0)] h K:=
 gC Y34.J Tryd.func14 Y34.dist H
noncomputable def Y42.body:Code:=(Tryd.f16.body).getD .skip
def Y42.ann:Ann:=(sl [1] (sq [3] (.ord (nn 0 2 (nn 3 2 (.eff 2 (.eff 5 (nn 6 2 (.eff 8 (.neu 9 .done) .stop)) .stop) .stop)))) (sl [3] (sl [2] lf))))
theorem Y42.dist:aH (places Y42.ann Y42.body)=true:=by kernel_rfl
noncomputable def Y42.J (Q:AV→aA→Prop):JT:=bL prog C Tryd.f16 Y42.ann Y42.body Q
def Y42.t (Q:AV→aA→Prop) (x0:AV) (h:aA) (J:JT):Prop:=
dF (some 23) x0 h fun v0 h1=>
aC 0 v0 fun v3=>
aB v3 h1 fun v4=>
asI .i64 v4 fun n5=>
aC 1 v0 fun v6=>
aB v6 h1 fun v7=>
asI .i64 v7 fun n8=>
C Y43.id [(AV.i .i64 n5),(AV.i .i64 0),(AV.i .i64 65536)] h1 fun v9 h10=>
asI .i64 v9 fun n11=>
aB v6 h10 fun v12=>
asI .i64 v12 fun n13=>
((AV.i .i64 n8)=(AV.i .i64 n13) ∧
(C Y43.id [(AV.i .i64 n8),(AV.i .i64 1),(AV.i .i64 1100)] h10 fun v14 h15=>
asI .i64 v14 fun n16=>
iG [(AV.i .i64 0),(AV.i .i64 0),(AV.sl none 0 none),(AV.i .i64 0),(AV.sl none 0 none),(AV.i .i64 0),(AV.b false),(AV.b false),(AV.b false),(AV.b false),(AV.s []),(AV.i .i64 0),(AV.i .i64 0),(AV.i .i64 0),(AV.p none),AV.nf] [(0,2,(AV.ag [(AV.i .i64 n11),(AV.i .i64 n16)]))] fun v17=>
dF (some 47) v17 h15 fun v18 h19=>
C Y32.id [v18] h19 fun v21 h22=>
asI .i64 v21 fun n23=>
Q v18 h22))
theorem Y42.call {K x0 h} (H:Y42.t (aK h K) x0 h (Y42.J (aK h K))):C Y42.id [x0] h K:=
 gC Y42.J Tryd.func16 Y42.dist H
noncomputable def Y0.body:Code:=(Tryd.f17.body).getD .skip
def Y0.ann:Ann:=(sl [0,1] (sq [0,1] (.one (sl [0,1,9] (.br (sl [4,5] lf) (.seq 1 [0,1,12] lf (.br (sl [4,5] lf) lf))))) (sl [0,1] (.seq 5 [0] (sl [0,1,27,28] (.one (.loop 2 [0,1,27,28] (sl [0,1,27,28,29] (sq [0,1,27,28] bl (sq [0,1,27,28] (.one (sl [0,1,6,27,28] (sl [0,1,6,27,28] (sl [0,1,6,27,28] (sq [0,1,6,27,28] (sl [0,1,6,7,27,28] (.one (.loop 3 [0,1,6,7,27,28] (sq [0,1,6,7,27,28] (.seq 4 [0,1,6,7,27,28,56] lf bl) (sq [0,1,6,7,27,28] (.one (sl [0,1,6,7,8,27,28] (sl [0,1,6,7,8,27,28,69] (.br (sl [0,8] (sl [4,5] lf)) lf)))) lf))))) (sl [0,1,6,27,28,82] (.br (sl [0] lf) lf))))))) lf)))))) (sl [4,5] lf)))))
theorem Y0.dist:aH (places Y0.ann Y0.body)=true:=by kernel_rfl
noncomputable def Y0.J (Q:AV→aA→Prop):JT:=bL prog C Tryd.f17 Y0.ann Y0.body Q
def Y0.p0 (Q:AV→aA→Prop) (x0:AV) (x1:List UInt8) (x12:Bool) (h:aA):Prop:=Y0.J Q 1 [(0,x0),(1,(AV.s x1)),(12,(AV.b x12))] h
def Y0.p3 (Q:AV→aA→Prop) (x0:AV) (x1:List UInt8) (x6 x7 x27 x28:Int) (x56:Bool) (h:aA):Prop:=Y0.J Q 4 [(0,x0),(1,(AV.s x1)),(6,(AV.i .i64 x6)),(7,(AV.i .i64 x7)),(27,(AV.i .i64 x27)),(28,(AV.i .i64 x28)),(56,(AV.b x56))] h
def Y0.p2 (Q:AV→aA→Prop) (x0:AV) (x1:List UInt8) (x6 x7 x27 x28:Int) (h:aA):Prop:=Y0.J Q 3 [(0,x0),(1,(AV.s x1)),(6,(AV.i .i64 x6)),(7,(AV.i .i64 x7)),(27,(AV.i .i64 x27)),(28,(AV.i .i64 x28))] h
def Y0.p1 (Q:AV→aA→Prop) (x0:AV) (x1:List UInt8) (x27 x28:Int) (h:aA):Prop:=Y0.J Q 2 [(0,x0),(1,(AV.s x1)),(27,(AV.i .i64 x27)),(28,(AV.i .i64 x28))] h
def Y0.p4 (Q:AV→aA→Prop) (x0:AV) (h:aA):Prop:=Y0.J Q 5 [(0,x0)] h
def Y0.t0 (Q:AV→aA→Prop) (x0:AV) (x1:List UInt8) (x12:Bool) (h:aA) (J:JT):Prop:=
(bif x12 then
(Q (AV.tu [(AV.s []),(AV.i .i64 10)]) h)
else
(aZ x0 fun v17=>
aC 4 v17 fun v18=>
aU 1 v18 (AV.sl none 0 none) h fun h19=>
J 2 [(0,x0),(1,(AV.s x1)),(27,(AV.i .i64 (x1.length:Int))),(28,(AV.i .i64 0))] h19))
theorem Y0.i0 {Q x0 x1 x12 h} (H:Y0.t0 Q x0 x1 x12 h (Y0.J Q)):Y0.p0 Q x0 x1 x12 h:=gR Y0.J Tryd.f17 Y0.dist [1,0,0,1,1,1] H
def Y0.t3 (Q:AV→aA→Prop) (x0:AV) (x1:List UInt8) (x6 x7 x27 x28:Int) (x56:Bool) (h:aA) (J:JT):Prop:=
(bif x56 then
(eZ (AV.s x1) (AV.i .i64 x6) fun n53=>
lR .i64 (IntKind.wrap .i64 n53) x7 fun n54=>
C Y1.id [x0,(AV.i .i64 (bQ .and .i64 n54 1))] h fun v55 h56=>
asI .i64 v55 fun n57=>
(bif (!decide ((n57:Int)=0)) then
(aZ x0 fun v60=>
aC 8 v60 fun v61=>
aU 1 v61 (AV.b true) h56 fun h62=>
aZ x0 fun v64=>
aC 4 v64 fun v65=>
aB v65 h62 fun v66=>
cZ v66 h62 fun l67=>
Q (AV.tu [(AV.s l67),(AV.i .i64 n57)]) h62)
else
(aN (IntKind.wrap .i64 (x7+1)) fun n70=>
J 3 [(0,x0),(1,(AV.s x1)),(6,(AV.i .i64 x6)),(7,(AV.i .i64 n70)),(27,(AV.i .i64 x27)),(28,(AV.i .i64 x28))] h56)))
else
(aZ x0 fun v72=>
aC 7 v72 fun v73=>
aB v73 h fun v74=>
asB v74 fun c75=>
(bif c75 then
(aN (IntKind.wrap .i64 (x6+1)) fun n77=>
b8 (AV.s x1) (some (AV.i .i64 n77)) none fun l78=>
aZ x0 fun v79=>
aC 10 v79 fun v80=>
aU 1 v80 (AV.s l78) h fun h81=>
J 5 [(0,x0)] h81)
else
(aN (IntKind.wrap .i64 (x28+1)) fun n85=>
J 2 [(0,x0),(1,(AV.s x1)),(27,(AV.i .i64 x27)),(28,(AV.i .i64 n85))] h))))
theorem Y0.i3 {Q x0 x1 x6 x7 x27 x28 x56 h} (H:Y0.t3 Q x0 x1 x6 x7 x27 x28 x56 h (Y0.J Q)):Y0.p3 Q x0 x1 x6 x7 x27 x28 x56 h:=gR Y0.J Tryd.f17 Y0.dist [1,1,1,0,1,0,0,1,1,0,0,1,1,1,0,1,0,0,0,1] H
def Y0.t2 (Q:AV→aA→Prop) (x0:AV) (x1:List UInt8) (x6 x7 x27 x28:Int) (h:aA) (J:JT):Prop:=
(bif (decide ((x7:Int)<8)) then
(aZ x0 fun v40=>
aC 9 v40 fun v41=>
aB v41 h fun v42=>
asB v42 fun c43=>
(bif (!c43) then
(aZ x0 fun v44=>
aC 7 v44 fun v45=>
aB v45 h fun v46=>
asB v46 fun c47=>
J 4 [(0,x0),(1,(AV.s x1)),(6,(AV.i .i64 x6)),(7,(AV.i .i64 x7)),(27,(AV.i .i64 x27)),(28,(AV.i .i64 x28)),(56,(AV.b (!c47)))] h)
else
(J 4 [(0,x0),(1,(AV.s x1)),(6,(AV.i .i64 x6)),(7,(AV.i .i64 x7)),(27,(AV.i .i64 x27)),(28,(AV.i .i64 x28)),(56,(AV.b false))] h)))
else
(J 4 [(0,x0),(1,(AV.s x1)),(6,(AV.i .i64 x6)),(7,(AV.i .i64 x7)),(27,(AV.i .i64 x27)),(28,(AV.i .i64 x28)),(56,(AV.b false))] h))
theorem Y0.i2 {Q x0 x1 x6 x7 x27 x28 h} (H:Y0.t2 Q x0 x1 x6 x7 x27 x28 h (Y0.J Q)):Y0.p2 Q x0 x1 x6 x7 x27 x28 h:=gH Y0.J Tryd.f17 Y0.dist [1,1,1,0,1,0,0,1,1,0,0,1,1,1,0,1,0] H
def Y0.t1 (Q:AV→aA→Prop) (x0:AV) (x1:List UInt8) (x27 x28:Int) (h:aA) (J:JT):Prop:=
(bif (decide ((x28:Int)<x27)) then
(aZ x0 fun v26=>
aC 5 v26 fun v27=>
aB v27 h fun v28=>
asI .i64 v28 fun n29=>
aN (IntKind.wrap .i64 (n29+1)) fun n30=>
aZ x0 fun v31=>
aC 5 v31 fun v32=>
aU 1 v32 (AV.i .i64 n30) h fun h33=>
aZ x0 fun v35=>
aC 9 v35 fun v36=>
aU 1 v36 (AV.b false) h33 fun h37=>
J 3 [(0,x0),(1,(AV.s x1)),(6,(AV.i .i64 x28)),(7,(AV.i .i64 0)),(27,(AV.i .i64 x27)),(28,(AV.i .i64 x28))] h37)
else
(J 5 [(0,x0)] h))
theorem Y0.i1 {Q x0 x1 x27 x28 h} (H:Y0.t1 Q x0 x1 x27 x28 h (Y0.J Q)):Y0.p1 Q x0 x1 x27 x28 h:=gH Y0.J Tryd.f17 Y0.dist [1,1,1,0,1,0] H
def Y0.t4 (Q:AV→aA→Prop) (x0:AV) (h:aA) (J:JT):Prop:=
aZ x0 fun v87=>
aC 4 v87 fun v88=>
aB v88 h fun v89=>
cZ v89 h fun l90=>
Q (AV.tu [(AV.s l90),(AV.i .i64 0)]) h
theorem Y0.i4 {Q x0 h} (H:Y0.t4 Q x0 h (Y0.J Q)):Y0.p4 Q x0 h:=gR Y0.J Tryd.f17 Y0.dist [1,1,1,1] H
def Y0.t (Q:AV→aA→Prop) (x0:AV) (x1:List UInt8) (h:aA) (J:JT):Prop:=
dT prog .eql 32 x0 (AV.p none) fun v1=>
asB v1 fun c2=>
(bif c2 then
(Q (AV.tu [(AV.s []),(AV.i .i64 6)]) h)
else
(aZ x0 fun v5=>
aC 8 v5 fun v6=>
aB v6 h fun v7=>
asB v7 fun c8=>
(bif c8 then
(J 1 [(0,x0),(1,(AV.s x1)),(12,(AV.b true))] h)
else
(aZ x0 fun v10=>
aC 7 v10 fun v11=>
aB v11 h fun v12=>
asB v12 fun c13=>
J 1 [(0,x0),(1,(AV.s x1)),(12,(AV.b c13))] h))))
theorem Y0.call {K x0 x1 h} (H:Y0.t (aK h K) x0 x1 h (Y0.J (aK h K))):C Y0.id [x0,(AV.s x1)] h K:=
 gC Y0.J Tryd.func17 Y0.dist H
noncomputable def Y25.body:Code:=(Tryd.f18.body).getD .skip
def Y25.ann:Ann:=(sl [0] (.seq 1 [2] lf lf))
theorem Y25.dist:aH (places Y25.ann Y25.body)=true:=by kernel_rfl
noncomputable def Y25.J (Q:AV→aA→Prop):JT:=bL prog C Tryd.f18 Y25.ann Y25.body Q
def Y25.p0 (Q:AV→aA→Prop) (x2:Bool) (h:aA):Prop:=Y25.J Q 1 [(2,(AV.b x2))] h
def Y25.t0 (Q:AV→aA→Prop) (x2:Bool) (h:aA) (J:JT):Prop:=
Q (AV.b x2) h
theorem Y25.i0 {Q x2 h} (H:Y25.t0 Q x2 h (Y25.J Q)):Y25.p0 Q x2 h:=gR Y25.J Tryd.f18 Y25.dist [1,1] H
def Y25.t (Q:AV→aA→Prop) (x0:AV) (h:aA) (J:JT):Prop:=
dT prog .neq 32 x0 (AV.p none) fun v1=>
asB v1 fun c2=>
(bif c2 then
(aZ x0 fun v3=>
aC 7 v3 fun v4=>
aB v4 h fun v5=>
asB v5 fun c6=>
J 1 [(2,(AV.b c6))] h)
else
(J 1 [(2,(AV.b false))] h))
theorem Y25.call {K x0 h} (H:Y25.t (aK h K) x0 h (Y25.J (aK h K))):C Y25.id [x0] h K:=
 gC Y25.J Tryd.func18 Y25.dist H
noncomputable def Y40.body:Code:=(Tryd.f25.body).getD .skip
def Y40.ann:Ann:=(sl [0] (sl [0] lf))
theorem Y40.dist:aH (places Y40.ann Y40.body)=true:=by kernel_rfl
noncomputable def Y40.J (Q:AV→aA→Prop):JT:=bL prog C Tryd.f25 Y40.ann Y40.body Q
def Y40.t (Q:AV→aA→Prop) (h:aA) (J:JT):Prop:=
cV (some 23) [(AV.i .i64 0),(AV.i .i64 0)] h fun v0 h1=>
aU 2 v0 (AV.ag [(AV.i .i64 65536),(AV.i .i64 1100)]) h1 fun h3=>
dW 2 v0 h3 fun v5=>
Q v5 h3
theorem Y40.call {K h} (H:Y40.t (aK h K) h (Y40.J (aK h K))):C Y40.id [] h K:=
 gC Y40.J Tryd.func25 Y40.dist H
noncomputable def Y26.body:Code:=(Tryd.f27.body).getD .skip
def Y26.ann:Ann:=(sl [0,1] (sl [0,1] (sl [0,1,6,7] (.seq 1 [0,1,6] (sl [0,1,6,19] bl) (sl [4,5] lf)))))
theorem Y26.dist:aH (places Y26.ann Y26.body)=true:=by kernel_rfl
noncomputable def Y26.J (Q:AV→aA→Prop):JT:=bL prog C Tryd.f27 Y26.ann Y26.body Q
def Y26.p0 (Q:AV→aA→Prop) (x0 x1:AV) (x6:Int) (h:aA):Prop:=Y26.J Q 1 [(0,x0),(1,x1),(6,(AV.i .i64 x6))] h
def Y26.t0 (Q:AV→aA→Prop) (x0 x1:AV) (x6:Int) (h:aA) (J:JT):Prop:=
aZ x0 fun v20=>
aC 0 v20 fun v21=>
aB v21 h fun v22=>
bJ 1 v22 (some (AV.i .i64 x6)) none none h fun v23=>
kA 1 v23 x1 h fun v24 h25=>
asI .i64 v24 fun n26=>
Q (AV.tu [(AV.i .i64 n26),AV.ni]) h25
theorem Y26.i0 {Q x0 x1 x6 h} (H:Y26.t0 Q x0 x1 x6 h (Y26.J Q)):Y26.p0 Q x0 x1 x6 h:=gR Y26.J Tryd.f27 Y26.dist [1,1,1,1] H
def Y26.t (Q:AV→aA→Prop) (x0 x1:AV) (h:aA) (J:JT):Prop:=
aZ x0 fun v1=>
aC 2 v1 fun v2=>
aU 1 v2 (AV.i .i8 0) h fun h3=>
bV x1 fun n5=>
C Y28.id [x0,(AV.i .i64 n5)] h3 fun v6 h7=>
aP 0 v6 fun v8=>
asI .i64 v8 fun n9=>
aP 1 v6 fun v10=>
asB v10 fun c11=>
(bif (!c11) then
(bV x1 fun n14=>
C Y3.id [x0,(AV.i .i64 n14)] h7 fun v15 h16=>
asI .i64 v15 fun n17=>
J 1 [(0,x0),(1,x1),(6,(AV.i .i64 n17))] h16)
else
(J 1 [(0,x0),(1,x1),(6,(AV.i .i64 n9))] h7))
theorem Y26.call {K x0 x1 h} (H:Y26.t (aK h K) x0 x1 h (Y26.J (aK h K))):C Y26.id [x0,x1] h K:=
 gC Y26.J Tryd.func27 Y26.dist H
noncomputable def Y24.body:Code:=(Tryd.f28.body).getD .skip
def Y24.ann:Ann:=(sl [0,1] (sl [0,1] (sl [0,1,6,7] (.seq 1 [0,1,6] (sl [0,1,6,19] bl) (sl [4,5] lf)))))
theorem Y24.dist:aH (places Y24.ann Y24.body)=true:=by kernel_rfl
noncomputable def Y24.J (Q:AV→aA→Prop):JT:=bL prog C Tryd.f28 Y24.ann Y24.body Q
def Y24.p0 (Q:AV→aA→Prop) (x0:AV) (x1:List UInt8) (x6:Int) (h:aA):Prop:=Y24.J Q 1 [(0,x0),(1,(AV.s x1)),(6,(AV.i .i64 x6))] h
def Y24.t0 (Q:AV→aA→Prop) (x0:AV) (x1:List UInt8) (x6:Int) (h:aA) (J:JT):Prop:=
aZ x0 fun v18=>
aC 0 v18 fun v19=>
aB v19 h fun v20=>
bJ 1 v20 (some (AV.i .i64 x6)) none none h fun v21=>
kA 1 v21 (AV.s x1) h fun v22 h23=>
asI .i64 v22 fun n24=>
Q (AV.tu [(AV.i .i64 n24),AV.ni]) h23
theorem Y24.i0 {Q x0 x1 x6 h} (H:Y24.t0 Q x0 x1 x6 h (Y24.J Q)):Y24.p0 Q x0 x1 x6 h:=gR Y24.J Tryd.f28 Y24.dist [1,1,1,1] H
def Y24.t (Q:AV→aA→Prop) (x0:AV) (x1:List UInt8) (h:aA) (J:JT):Prop:=
aZ x0 fun v1=>
aC 2 v1 fun v2=>
aU 1 v2 (AV.i .i8 0) h fun h3=>
C Y28.id [x0,(AV.i .i64 (x1.length:Int))] h3 fun v5 h6=>
aP 0 v5 fun v7=>
asI .i64 v7 fun n8=>
aP 1 v5 fun v9=>
asB v9 fun c10=>
(bif (!c10) then
(C Y3.id [x0,(AV.i .i64 (x1.length:Int))] h6 fun v13 h14=>
asI .i64 v13 fun n15=>
J 1 [(0,x0),(1,(AV.s x1)),(6,(AV.i .i64 n15))] h14)
else
(J 1 [(0,x0),(1,(AV.s x1)),(6,(AV.i .i64 n8))] h6))
theorem Y24.call {K x0 x1 h} (H:Y24.t (aK h K) x0 x1 h (Y24.J (aK h K))):C Y24.id [x0,(AV.s x1)] h K:=
 gC Y24.J Tryd.func28 Y24.dist H
noncomputable def Y62.body:Code:=(Tryd.f29.body).getD .skip
def Y62.ann:Ann:=(sl [0] (sq [0] (sl [0,4] (.br (sl [2] lf) lf)) (sq [2] (.ord (nn 0 11 .done)) lf)))
theorem Y62.dist:aH (places Y62.ann Y62.body)=true:=by kernel_rfl
noncomputable def Y62.J (Q:AV→aA→Prop):JT:=bL prog C Tryd.f29 Y62.ann Y62.body Q
def Y62.t (Q:AV→aA→Prop) (x0:AV) (h:aA) (J:JT):Prop:=
dT prog .eql 100 x0 (AV.p none) fun v1=>
asB v1 fun c2=>
(bif c2 then
(Q (AV.s [60,110,105,108,62]) h)
else
(aZ x0 fun v6=>
aC 0 v6 fun v7=>
aB v7 h fun v8=>
aZ x0 fun v9=>
aC 1 v9 fun v10=>
aB v10 h fun v11=>
asI .i64 v11 fun n12=>
bJ 1 v8 (some (AV.i .i64 n12)) none none h fun v13=>
cZ v13 h fun l14=>
Q (AV.s l14) h))
theorem Y62.call {K x0 h} (H:Y62.t (aK h K) x0 h (Y62.J (aK h K))):C Y62.id [x0] h K:=
 gC Y62.J Tryd.func29 Y62.dist H
noncomputable def Y10.body:Code:=(Tryd.f30.body).getD .skip
def Y10.ann:Ann:=(sl [0,1,7,8] (.one (.loop 1 [0,1,7,8] (sl [0,1,7,8,9] (sq [0,1,7,8] bl (sq [0,1,7,8] (.one (sl [0,1,6,7,8] (.seq 2 [0,1,6,7,8] (sl [0,1,6,7,8,15] (.br (sl [0,1,6,7,8] lf) lf)) (sq [0,1,7,8] (.ord (nn 0 25 (.eff 25 .done .stop))) lf)))) lf))))))
theorem Y10.dist:aH (places Y10.ann Y10.body)=true:=by kernel_rfl
noncomputable def Y10.J (Q:AV→aA→Prop):JT:=bL prog C Tryd.f30 Y10.ann Y10.body Q
def Y10.p1 (Q:AV→aA→Prop) (x0:AV) (x1 x6 x7 x8:Int) (h:aA):Prop:=Y10.J Q 2 [(0,x0),(1,(AV.i .i64 x1)),(6,(AV.i .i64 x6)),(7,(AV.i .i64 x7)),(8,(AV.i .i64 x8))] h
def Y10.p0 (Q:AV→aA→Prop) (x0:AV) (x1 x7 x8:Int) (h:aA):Prop:=Y10.J Q 1 [(0,x0),(1,(AV.i .i64 x1)),(7,(AV.i .i64 x7)),(8,(AV.i .i64 x8))] h
def Y10.t1 (Q:AV→aA→Prop) (x0:AV) (x1 x6 x7 x8:Int) (h:aA) (J:JT):Prop:=
aZ x0 fun v25=>
aC 0 v25 fun v26=>
aB v26 h fun v27=>
aZ x0 fun v28=>
aC 0 v28 fun v29=>
aB v29 h fun v30=>
bV v30 fun n31=>
aN (IntKind.wrap .i64 (n31 - 1)) fun n32=>
aW 1 v27 (AV.i .i64 n32) h fun v33=>
aB v33 h fun v34=>
asI .u8 v34 fun n35=>
lR .i64 x1 x6 fun n36=>
aN (IntKind.wrap .u8 (bQ .and .i64 n36 1)) fun n37=>
aZ x0 fun v38=>
aC 1 v38 fun v39=>
aB v39 h fun v40=>
asI .i64 v40 fun n41=>
aN (IntKind.wrap .i64 (8 - n41)) fun n42=>
nY .u8 n37 n42 fun n43=>
aW 1 v27 (AV.i .i64 n32) h fun v44=>
aU 1 v44 (AV.i .u8 (bQ .or .u8 n35 n43)) h fun h45=>
aZ x0 fun v47=>
aC 1 v47 fun v48=>
aB v48 h45 fun v49=>
asI .i64 v49 fun n50=>
aN (IntKind.wrap .i64 (n50 - 1)) fun n51=>
aZ x0 fun v52=>
aC 1 v52 fun v53=>
aU 1 v53 (AV.i .i64 n51) h45 fun h54=>
aN (IntKind.wrap .i64 (x8+1)) fun n56=>
J 1 [(0,x0),(1,(AV.i .i64 x1)),(7,(AV.i .i64 x7)),(8,(AV.i .i64 n56))] h54
theorem Y10.i1 {Q x0 x1 x6 x7 x8 h} (H:Y10.t1 Q x0 x1 x6 x7 x8 h (Y10.J Q)):Y10.p1 Q x0 x1 x6 x7 x8 h:=gR Y10.J Tryd.f30 Y10.dist [1,0,0,1,1,0,0,1,1] H
def Y10.t0 (Q:AV→aA→Prop) (x0:AV) (x1 x7 x8:Int) (h:aA) (J:JT):Prop:=
(bif (decide ((x8:Int)<x7)) then
(aZ x0 fun v4=>
aC 1 v4 fun v5=>
aB v5 h fun v6=>
asI .i64 v6 fun n7=>
(bif (decide ((n7:Int)=0)) then
(aZ x0 fun v9=>
aC 0 v9 fun v10=>
aB v10 h fun v11=>
bP 1 1 [(AV.i .u8 0)] [(0,1,(AV.i .u8 0))] h fun v12 h13=>
bT (some 5) 1 1 v11 v12 h13 fun v14 h15=>
aZ x0 fun v16=>
aC 0 v16 fun v17=>
aU 1 v17 v14 h15 fun h18=>
aZ x0 fun v20=>
aC 1 v20 fun v21=>
aU 1 v21 (AV.i .i64 8) h18 fun h22=>
J 2 [(0,x0),(1,(AV.i .i64 x1)),(6,(AV.i .i64 x8)),(7,(AV.i .i64 x7)),(8,(AV.i .i64 x8))] h22)
else
(J 2 [(0,x0),(1,(AV.i .i64 x1)),(6,(AV.i .i64 x8)),(7,(AV.i .i64 x7)),(8,(AV.i .i64 x8))] h)))
else
(Q (AV.tu []) h))
theorem Y10.i0 {Q x0 x1 x7 x8 h} (H:Y10.t0 Q x0 x1 x7 x8 h (Y10.J Q)):Y10.p0 Q x0 x1 x7 x8 h:=gH Y10.J Tryd.f30 Y10.dist [1,0] H
def Y10.t (Q:AV→aA→Prop) (x0:AV) (x1 x2:Int) (h:aA) (J:JT):Prop:=
J 1 [(0,x0),(1,(AV.i .i64 x1)),(7,(AV.i .i64 x2)),(8,(AV.i .i64 0))] h
theorem Y10.call {K x0 x1 x2 h} (H:Y10.t (aK h K) x0 x1 x2 h (Y10.J (aK h K))):C Y10.id [x0,(AV.i .i64 x1),(AV.i .i64 x2)] h K:=
 gC Y10.J Tryd.func30 Y10.dist H
noncomputable def Y9.body:Code:=(Tryd.f31.body).getD .skip
def Y9.ann:Ann:=(sl [0] (sq [0] (sl [0,3] (.one (.loop 1 [0,3] (sl [0,3,4] (sq [0,3] bl (.seq 3 [0,3] (.one (sl [0,2,3] (.one (.seq 2 [0,2,3,9] lf (.br lf (sl [0,3,19] bl)))))) lf)))))) (sl [0,1] lf)))
theorem Y9.dist:aH (places Y9.ann Y9.body)=true:=by kernel_rfl
noncomputable def Y9.J (Q:AV→aA→Prop):JT:=bL prog C Tryd.f31 Y9.ann Y9.body Q
def Y9.p1 (Q:AV→aA→Prop) (x0:AV) (x2 x3:Int) (x9:Bool) (h:aA):Prop:=Y9.J Q 2 [(0,x0),(2,(AV.i .i64 x2)),(3,(AV.i .i64 x3)),(9,(AV.b x9))] h
def Y9.p2 (Q:AV→aA→Prop) (x0:AV) (x3:Int) (h:aA):Prop:=Y9.J Q 3 [(0,x0),(3,(AV.i .i64 x3))] h
def Y9.p0 (Q:AV→aA→Prop) (x0:AV) (x3:Int) (h:aA):Prop:=Y9.J Q 1 [(0,x0),(3,(AV.i .i64 x3))] h
def Y9.t1 (Q:AV→aA→Prop) (x0:AV) (x2 x3:Int) (x9:Bool) (h:aA) (J:JT):Prop:=
(bif x9 then
(bP 1 1 [(AV.i .i64 0)] [(0,1,(AV.i .i64 8))] h fun v8 h9=>
bT none 1 8 x0 v8 h9 fun v10 h11=>
J 3 [(0,v10),(3,(AV.i .i64 x3))] h11)
else
((bif (decide ((x2:Int)<256)) then
(bP 1 1 [(AV.i .i64 0)] [(0,1,(AV.i .i64 9))] h fun v14 h15=>
bT none 1 8 x0 v14 h15 fun v16 h17=>
J 3 [(0,v16),(3,(AV.i .i64 x3))] h17)
else
(bP 1 1 [(AV.i .i64 0)] [(0,1,(AV.i .i64 7))] h fun v19 h20=>
bT none 1 8 x0 v19 h20 fun v21 h22=>
J 3 [(0,v21),(3,(AV.i .i64 x3))] h22))))
theorem Y9.i1 {Q x0 x2 x3 x9 h} (H:Y9.t1 Q x0 x2 x3 x9 h (Y9.J Q)):Y9.p1 Q x0 x2 x3 x9 h:=gR Y9.J Tryd.f31 Y9.dist [1,0,1,0,0,1,1,0,0,1,0,1] H
def Y9.t2 (Q:AV→aA→Prop) (x0:AV) (x3:Int) (h:aA) (J:JT):Prop:=
aN (IntKind.wrap .i64 (x3+1)) fun n24=>
J 1 [(0,x0),(3,(AV.i .i64 n24))] h
theorem Y9.i2 {Q x0 x3 h} (H:Y9.t2 Q x0 x3 h (Y9.J Q)):Y9.p2 Q x0 x3 h:=gR Y9.J Tryd.f31 Y9.dist [1,0,1,0,0,1,1,1] H
def Y9.t0 (Q:AV→aA→Prop) (x0:AV) (x3:Int) (h:aA) (J:JT):Prop:=
(bif (decide ((x3:Int)<288)) then
((bif (decide ((x3:Int)<144)) then
(J 2 [(0,x0),(2,(AV.i .i64 x3)),(3,(AV.i .i64 x3)),(9,(AV.b true))] h)
else
(J 2 [(0,x0),(2,(AV.i .i64 x3)),(3,(AV.i .i64 x3)),(9,(AV.b (decide ((280:Int)≤x3))))] h)))
else
(bP 1 1 [(AV.i .i64 0)] [(0,1,(AV.i .i64 5))] h fun v26 h27=>
C Y15.id [v26,(AV.i .i64 32)] h27 fun v28 h29=>
Q (AV.tu [x0,v28]) h29))
theorem Y9.i0 {Q x0 x3 h} (H:Y9.t0 Q x0 x3 h (Y9.J Q)):Y9.p0 Q x0 x3 h:=gH Y9.J Tryd.f31 Y9.dist [1,0,1,0] H
def Y9.t (Q:AV→aA→Prop) (h:aA) (J:JT):Prop:=
J 1 [(0,(AV.sl none 0 none)),(3,(AV.i .i64 0))] h
theorem Y9.call {K h} (H:Y9.t (aK h K) h (Y9.J (aK h K))):C Y9.id [] h K:=
 gC Y9.J Tryd.func31 Y9.dist H
noncomputable def Y11.body:Code:=(Tryd.f32.body).getD .skip
def Y11.ann:Ann:=(sl [0,1,2,3,8,9] (sq [0,2,8] (sl [0,2,3,8,9,19,20,21] (.one (.loop 1 [0,2,3,8,9,19,20,21] (sl [0,2,3,8,9,19,20,21,22] (sq [0,2,3,8,9,19,20,21] bl (.seq 2 [0,2,3,8,9,19,20,21] (.one (sl [0,2,3,8,9,11,19,20,21] (sq [0,2,3,8,9,11,19,20,21] (sl [0,2,3,8,9,11,19,20,21,27] (.br (sl [0,2,3,8,9,19,20,21] lf) lf)) (sl [0,2,3,8,9,11,12,19,20,21] (sl [0,2,3,8,9,11,12,13,14,19,20,21] (sl [0,2,3,8,9,11,13,14,19,20,21] (sl [0,2,3,8,9,11,19,20,21] (sl [0,2,3,8,9,11,12,19,20,21] (sl [0,2,3,8,9,11,12,13,14,19,20,21] (sl [0,2,3,8,9,11,13,14,19,20,21] lf)))))))))) lf)))))) lf))
theorem Y11.dist:aH (places Y11.ann Y11.body)=true:=by kernel_rfl
noncomputable def Y11.J (Q:AV→aA→Prop):JT:=bL prog C Tryd.f32 Y11.ann Y11.body Q
def Y11.p1 (Q:AV→aA→Prop) (x0 x2 x3 x8 x9 x19:AV) (x20 x21:Int) (h:aA):Prop:=Y11.J Q 2 [(0,x0),(2,x2),(3,x3),(8,x8),(9,x9),(19,x19),(20,(AV.i .i64 x20)),(21,(AV.i .i64 x21))] h
def Y11.p0 (Q:AV→aA→Prop) (x0 x2 x3 x8 x9 x19:AV) (x20 x21:Int) (h:aA):Prop:=Y11.J Q 1 [(0,x0),(2,x2),(3,x3),(8,x8),(9,x9),(19,x19),(20,(AV.i .i64 x20)),(21,(AV.i .i64 x21))] h
def Y11.t1 (Q:AV→aA→Prop) (x0 x2 x3 x8 x9 x19:AV) (x20 x21:Int) (h:aA) (J:JT):Prop:=
aN (IntKind.wrap .i64 (x21+1)) fun n76=>
J 1 [(0,x0),(2,x2),(3,x3),(8,x8),(9,x9),(19,x19),(20,(AV.i .i64 x20)),(21,(AV.i .i64 n76))] h
theorem Y11.i1 {Q x0 x2 x3 x8 x9 x19 x20 x21 h} (H:Y11.t1 Q x0 x2 x3 x8 x9 x19 x20 x21 h (Y11.J Q)):Y11.p1 Q x0 x2 x3 x8 x9 x19 x20 x21 h:=gR Y11.J Tryd.f32 Y11.dist [1,0,1,0,0,1,1,1] H
def Y11.t0 (Q:AV→aA→Prop) (x0 x2 x3 x8 x9 x19:AV) (x20 x21:Int) (h:aA) (J:JT):Prop:=
(bif (decide ((x21:Int)<x20)) then
(aW 3 x19 (AV.i .i64 x21) h fun v10=>
dW 3 v10 h fun v11=>
cV (some 82) [(AV.i .u8 0),(AV.i .i64 0),(AV.i .i64 0)] h fun v12 h13=>
aU 3 v12 v11 h13 fun h14=>
aC 1 v12 fun v16=>
aB v16 h14 fun v17=>
asI .i64 v17 fun n18=>
(bif (decide ((n18:Int)=0)) then
(aC 0 v12 fun v20=>
aB v20 h14 fun v21=>
asI .u8 v21 fun n22=>
C Y19.id [x0,x8,x2,(AV.i .i64 (IntKind.wrap .i64 n22))] h14 fun v23 h24=>
J 2 [(0,x0),(2,x2),(3,x3),(8,x8),(9,x9),(19,x19),(20,(AV.i .i64 x20)),(21,(AV.i .i64 x21))] h24)
else
(aC 1 v12 fun v28=>
aB v28 h14 fun v29=>
asI .i64 v29 fun n30=>
C Y13.id [(AV.i .i64 n30)] h14 fun v31 h32=>
asI .i64 v31 fun n33=>
C Y33.id [(AV.i .i64 n33)] h32 fun v35 h36=>
aP 0 v35 fun v37=>
asI .i64 v37 fun n38=>
aP 1 v35 fun v39=>
asI .i64 v39 fun n40=>
C Y19.id [x0,x8,x2,(AV.i .i64 n33)] h36 fun v42 h43=>
aC 1 v12 fun v45=>
aB v45 h43 fun v46=>
asI .i64 v46 fun n47=>
aN (IntKind.wrap .i64 (n47 - n38)) fun n48=>
C Y10.id [x0,(AV.i .i64 n48),(AV.i .i64 n40)] h43 fun v49 h50=>
aC 2 v12 fun v52=>
aB v52 h50 fun v53=>
asI .i64 v53 fun n54=>
C Y12.id [(AV.i .i64 n54)] h50 fun v55 h56=>
asI .i64 v55 fun n57=>
C Y37.id [(AV.i .i64 n57)] h56 fun v59 h60=>
aP 0 v59 fun v61=>
asI .i64 v61 fun n62=>
aP 1 v59 fun v63=>
asI .i64 v63 fun n64=>
C Y19.id [x0,x9,x3,(AV.i .i64 n57)] h60 fun v66 h67=>
aC 2 v12 fun v69=>
aB v69 h67 fun v70=>
asI .i64 v70 fun n71=>
aN (IntKind.wrap .i64 (n71 - n62)) fun n72=>
C Y10.id [x0,(AV.i .i64 n72),(AV.i .i64 n64)] h67 fun v73 h74=>
J 2 [(0,x0),(2,x2),(3,x3),(8,x8),(9,x9),(19,x19),(20,(AV.i .i64 x20)),(21,(AV.i .i64 x21))] h74)))
else
(C Y19.id [x0,x8,x2,(AV.i .i64 256)] h fun v78 h79=>
Q (AV.tu []) h79))
theorem Y11.i0 {Q x0 x2 x3 x8 x9 x19 x20 x21 h} (H:Y11.t0 Q x0 x2 x3 x8 x9 x19 x20 x21 h (Y11.J Q)):Y11.p0 Q x0 x2 x3 x8 x9 x19 x20 x21 h:=gH Y11.J Tryd.f32 Y11.dist [1,0,1,0] H
def Y11.t (Q:AV→aA→Prop) (x0 x1 x2 x3:AV) (h:aA) (J:JT):Prop:=
C Y8.id [x2] h fun v0 h1=>
C Y8.id [x3] h1 fun v2 h3=>
bV x1 fun n5=>
J 1 [(0,x0),(2,x2),(3,x3),(8,v0),(9,v2),(19,x1),(20,(AV.i .i64 n5)),(21,(AV.i .i64 0))] h3
theorem Y11.call {K x0 x1 x2 x3 h} (H:Y11.t (aK h K) x0 x1 x2 x3 h (Y11.J (aK h K))):C Y11.id [x0,x1,x2,x3] h K:=
 gC Y11.J Tryd.func32 Y11.dist H
noncomputable def Y7.body:Code:=(Tryd.f33.body).getD .skip
def Y7.ann:Ann:=(sl [1] (sl [1,3] (sl [1,3,4] (sl [1,3,4,5] (sq [3] (sl [1,3,4,5,6] (.one (.loop 1 [1,3,4,5,6] (sq [1,3,4,5,6] (sl [1,3,4,5,6,13] bl) (.one (sl [1,3,4,5,6,7] (.seq 2 [1,3,4,5,6,7] (sl [1,3,4,5,6,7,22] (.br (.ord (nn 0 9 (.eff 9 (nn 10 4 (.eff 14 (.neu 15 (.eff 16 .done .stop)) .stop)) .stop))) lf)) (sl [1,3,4,5,6,7] (sl [1,3,4,5,6,44,45] (.one (.loop 3 [1,3,4,5,6,44,45] (sl [1,3,4,5,6,44,45,46] (sq [1,3,4,5,6,44,45] bl (sq [1,3,4,5,6,44,45] (.one (sl [1,3,4,5,6,44,45] lf)) lf)))))))))))))) (sl [2] lf))))))
theorem Y7.dist:aH (places Y7.ann Y7.body)=true:=by kernel_rfl
noncomputable def Y7.J (Q:AV→aA→Prop):JT:=bL prog C Tryd.f33 Y7.ann Y7.body Q
def Y7.p2 (Q:AV→aA→Prop) (x1 x3 x4 x5:AV) (x6 x44 x45:Int) (h:aA):Prop:=Y7.J Q 3 [(1,x1),(3,x3),(4,x4),(5,x5),(6,(AV.i .i64 x6)),(44,(AV.i .i64 x44)),(45,(AV.i .i64 x45))] h
def Y7.p1 (Q:AV→aA→Prop) (x1 x3 x4 x5:AV) (x6:Int) (x7:AV) (h:aA):Prop:=Y7.J Q 2 [(1,x1),(3,x3),(4,x4),(5,x5),(6,(AV.i .i64 x6)),(7,x7)] h
def Y7.p0 (Q:AV→aA→Prop) (x1 x3 x4 x5:AV) (x6:Int) (h:aA):Prop:=Y7.J Q 1 [(1,x1),(3,x3),(4,x4),(5,x5),(6,(AV.i .i64 x6))] h
def Y7.t2 (Q:AV→aA→Prop) (x1 x3 x4 x5:AV) (x6 x44 x45:Int) (h:aA) (J:JT):Prop:=
(bif (decide ((x45:Int)<x44)) then
(bU C x5 [(AV.i .i64 x6)] h fun v61 h62=>
aN (IntKind.wrap .i64 (x6+1)) fun n64=>
aN (IntKind.wrap .i64 (x45+1)) fun n66=>
J 3 [(1,x1),(3,x3),(4,x4),(5,x5),(6,(AV.i .i64 n64)),(44,(AV.i .i64 x44)),(45,(AV.i .i64 n66))] h62)
else
(J 1 [(1,x1),(3,x3),(4,x4),(5,x5),(6,(AV.i .i64 x6))] h))
theorem Y7.i2 {Q x1 x3 x4 x5 x6 x44 x45 h} (H:Y7.t2 Q x1 x3 x4 x5 x6 x44 x45 h (Y7.J Q)):Y7.p2 Q x1 x3 x4 x5 x6 x44 x45 h:=gH Y7.J Tryd.f33 Y7.dist [1,1,1,1,0,1,0,0,1,0,1,1,1,1,0] H
def Y7.t1 (Q:AV→aA→Prop) (x1 x3 x4 x5:AV) (x6:Int) (x7:AV) (h:aA) (J:JT):Prop:=
dW 3 x7 h fun v48=>
bP 3 1 [(AV.i .u8 0),(AV.i .i64 0),(AV.i .i64 0)] [(0,3,v48)] h fun v49 h50=>
bT none 3 24 x3 v49 h50 fun v51 h52=>
aC 1 x7 fun v54=>
aB v54 h52 fun v55=>
asI .i64 v55 fun n56=>
J 3 [(1,x1),(3,v51),(4,x4),(5,x5),(6,(AV.i .i64 x6)),(44,(AV.i .i64 (mmI true n56 1))),(45,(AV.i .i64 0))] h52
theorem Y7.i1 {Q x1 x3 x4 x5 x6 x7 h} (H:Y7.t1 Q x1 x3 x4 x5 x6 x7 h (Y7.J Q)):Y7.p1 Q x1 x3 x4 x5 x6 x7 h:=gR Y7.J Tryd.f33 Y7.dist [1,1,1,1,0,1,0,0,1,0,1,1] H
def Y7.t0 (Q:AV→aA→Prop) (x1 x3 x4 x5:AV) (x6:Int) (h:aA) (J:JT):Prop:=
aB x1 h fun v12=>
asS v12 fun l13=>
(bif (decide ((x6:Int)<(l13.length:Int))) then
(aB x1 h fun v17=>
asS v17 fun l18=>
eZ (AV.s l18) (AV.i .i64 x6) fun n19=>
cV (some 82) [(AV.i .u8 0),(AV.i .i64 0),(AV.i .i64 0)] h fun v20 h21=>
aU 3 v20 (AV.ag [(AV.i .u8 n19),(AV.i .i64 0),(AV.i .i64 0)]) h21 fun h22=>
aN (IntKind.wrap .i64 (x6+3)) fun n24=>
aB x1 h22 fun v25=>
asS v25 fun l26=>
(bif (decide ((n24:Int)≤(l26.length:Int))) then
(aB x1 h22 fun v28=>
asS v28 fun l29=>
aB x4 h22 fun v30=>
aB x1 h22 fun v31=>
asS v31 fun l32=>
aN (IntKind.wrap .i64 (x6+3)) fun n33=>
b8 (AV.s l32) (some (AV.i .i64 x6)) (some (AV.i .i64 n33)) fun l34=>
eL prog 9 64 false v30 (AV.s l34) h22 fun v35=>
C Y30.id [(AV.s l29),(AV.i .i64 x6),v35] h22 fun v36 h37=>
aP 0 v36 fun v38=>
asI .i64 v38 fun n39=>
aP 1 v36 fun v40=>
asI .i64 v40 fun n41=>
aC 1 v20 fun v42=>
aU 1 v42 (AV.i .i64 n39) h37 fun h43=>
aC 2 v20 fun v44=>
aU 1 v44 (AV.i .i64 n41) h43 fun h45=>
J 2 [(1,x1),(3,x3),(4,x4),(5,x5),(6,(AV.i .i64 x6)),(7,v20)] h45)
else
(J 2 [(1,x1),(3,x3),(4,x4),(5,x5),(6,(AV.i .i64 x6)),(7,v20)] h22)))
else
(Q x3 h))
theorem Y7.i0 {Q x1 x3 x4 x5 x6 h} (H:Y7.t0 Q x1 x3 x4 x5 x6 h (Y7.J Q)):Y7.p0 Q x1 x3 x4 x5 x6 h:=gH Y7.J Tryd.f33 Y7.dist [1,1,1,1,0,1,0] H
def Y7.t (Q:AV→aA→Prop) (x0:List UInt8) (h:aA) (J:JT):Prop:=
dF none (AV.s x0) h fun v0 h1=>
lB h1 fun v4 h5=>
cV none [(AV.mp none)] h5 fun v6 h7=>
aU 1 v6 v4 h7 fun h8=>
J 1 [(1,v0),(3,(AV.sl none 0 none)),(4,v6),(5,(AV.fn (.func Y29.id) [] [v0,v6])),(6,(AV.i .i64 0))] h8
theorem Y7.call {K x0 h} (H:Y7.t (aK h K) x0 h (Y7.J (aK h K))):C Y7.id [(AV.s x0)] h K:=
 gC Y7.J Tryd.func33 Y7.dist H
noncomputable def Y43.body:Code:=(Tryd.f41.body).getD .skip
def Y43.ann:Ann:=(sl [0,1,2] (sl [6] lf))
theorem Y43.dist:aH (places Y43.ann Y43.body)=true:=by kernel_rfl
noncomputable def Y43.J (Q:AV→aA→Prop):JT:=bL prog C Tryd.f41 Y43.ann Y43.body Q
def Y43.t (Q:AV→aA→Prop) (x0 x1 x2:Int) (h:aA) (J:JT):Prop:=
aN (mmI false (mmI true x0 x1) x2) fun n1=>
Q (AV.i .i64 n1) h
theorem Y43.call {K x0 x1 x2 h} (H:Y43.t (aK h K) x0 x1 x2 h (Y43.J (aK h K))):C Y43.id [(AV.i .i64 x0),(AV.i .i64 x1),(AV.i .i64 x2)] h K:=
 gC Y43.J Tryd.func41 Y43.dist H
noncomputable def Y32.body:Code:=(Tryd.f42.body).getD .skip
def Y32.ann:Ann:=(sl [1] (sq [1] (sl [1,6] (.br (sl [] (sl [2] lf)) lf)) (sl [2] lf)))
theorem Y32.dist:aH (places Y32.ann Y32.body)=true:=by kernel_rfl
noncomputable def Y32.J (Q:AV→aA→Prop):JT:=bL prog C Tryd.f42 Y32.ann Y32.body Q
def Y32.t (Q:AV→aA→Prop) (x0:AV) (h:aA) (J:JT):Prop:=
dF none x0 h fun v0 h1=>
aB v0 h1 fun v3=>
aZ v3 fun v4=>
aC 6 v4 fun v5=>
aB v5 h1 fun v6=>
asB v6 fun c7=>
(bif c7 then
(aB v0 h1 fun v9=>
aZ v9 fun v10=>
aC 7 v10 fun v11=>
aU 1 v11 (AV.b true) h1 fun h12=>
Q (AV.i .i64 0) h12)
else
(aB v0 h1 fun v16=>
C Y27.id [v16,(AV.i .i64 3),(AV.fn (.func Y50.id) [] [v0])] h1 fun v17 h18=>
asI .i64 v17 fun n19=>
Q (AV.i .i64 n19) h18))
theorem Y32.call {K x0 h} (H:Y32.t (aK h K) x0 h (Y32.J (aK h K))):C Y32.id [x0] h K:=
 gC Y32.J Tryd.func42 Y32.dist H
noncomputable def Y1.body:Code:=(Tryd.f43.body).getD .skip
def Y1.ann:Ann:=(sl [0,1] (.one (sl [0,1] (.seq 2 [0,5] (sl [0,1,14] (.br (sl [0,6,7,8] (sq [0,6,7] (sl [0,6,7,26] (.br (sl [4] lf) lf)) (sq [0,6] (sl [0,6,28] (.br (sl [4] lf) lf)) lf))) (sq [0] (.ord (nn 0 13 (.eff 13 .done .stop))) (sl [0] (sq [0] (sq [0,58] (.ord (nn 0 9 .done)) (.br (sl [4] lf) lf)) lf))))) (.seq 1 [0,5] lf (sq [0] (sl [0,9] (.seq 3 [0,9,76] lf (.br (sl [4] lf) lf))) (sq [] (.seq 4 [0,89] lf (.br (sl [0,5] lf) lf)) (sl [4] lf))))))))
theorem Y1.dist:aH (places Y1.ann Y1.body)=true:=by kernel_rfl
noncomputable def Y1.J (Q:AV→aA→Prop):JT:=bL prog C Tryd.f43 Y1.ann Y1.body Q
def Y1.p2 (Q:AV→aA→Prop) (x0:AV) (x9:Int) (x76:Bool) (h:aA):Prop:=Y1.J Q 3 [(0,x0),(9,(AV.i .i64 x9)),(76,(AV.b x76))] h
def Y1.p3 (Q:AV→aA→Prop) (x0:AV) (x89:Bool) (h:aA):Prop:=Y1.J Q 4 [(0,x0),(89,(AV.b x89))] h
def Y1.p0 (Q:AV→aA→Prop) (x0:AV) (x5:Int) (h:aA):Prop:=Y1.J Q 1 [(0,x0),(5,(AV.i .i64 x5))] h
def Y1.p1 (Q:AV→aA→Prop) (x0:AV) (x5:Int) (h:aA):Prop:=Y1.J Q 2 [(0,x0),(5,(AV.i .i64 x5))] h
def Y1.t2 (Q:AV→aA→Prop) (x0:AV) (x9:Int) (x76:Bool) (h:aA) (J:JT):Prop:=
(bif x76 then
(Q (AV.i .i64 x9) h)
else
(aZ x0 fun v82=>
aC 14 v82 fun v83=>
aB v83 h fun v84=>
dT prog .eql 44 v84 (AV.p none) fun v85=>
asB v85 fun c86=>
(bif c86 then
(aZ x0 fun v87=>
aC 13 v87 fun v88=>
aB v88 h fun v89=>
asI .i64 v89 fun n90=>
J 4 [(0,x0),(89,(AV.b (decide ((n90:Int)=0))))] h)
else
(J 4 [(0,x0),(89,(AV.b false))] h))))
theorem Y1.i2 {Q x0 x9 x76 h} (H:Y1.t2 Q x0 x9 x76 h (Y1.J Q)):Y1.p2 Q x0 x9 x76 h:=gR Y1.J Tryd.f43 Y1.dist [1,0,1,1,1,0,1,1] H
def Y1.t3 (Q:AV→aA→Prop) (x0:AV) (x89:Bool) (h:aA) (J:JT):Prop:=
(bif x89 then
(J 1 [(0,x0),(5,(AV.i .i64 0))] h)
else
(Q (AV.i .i64 0) h))
theorem Y1.i3 {Q x0 x89 h} (H:Y1.t3 Q x0 x89 h (Y1.J Q)):Y1.p3 Q x0 x89 h:=gR Y1.J Tryd.f43 Y1.dist [1,0,1,1,1,1,0,1] H
def Y1.t0 (Q:AV→aA→Prop) (x0:AV) (x5:Int) (h:aA) (J:JT):Prop:=
aZ x0 fun v67=>
aC 15 v67 fun v68=>
aB v68 h fun v69=>
bU C v69 [(AV.i .i64 x5)] h fun v70 h71=>
asI .i64 v70 fun n72=>
(bif (!decide ((n72:Int)=0)) then
(J 3 [(0,x0),(9,(AV.i .i64 n72)),(76,(AV.b true))] h71)
else
(aZ x0 fun v75=>
aC 7 v75 fun v76=>
aB v76 h71 fun v77=>
asB v77 fun c78=>
J 3 [(0,x0),(9,(AV.i .i64 n72)),(76,(AV.b c78))] h71))
theorem Y1.i0 {Q x0 x5 h} (H:Y1.t0 Q x0 x5 h (Y1.J Q)):Y1.p0 Q x0 x5 h:=gR Y1.J Tryd.f43 Y1.dist [1,0,1,1,1] H
def Y1.t1 (Q:AV→aA→Prop) (x0:AV) (x5:Int) (h:aA) (J:JT):Prop:=
J 1 [(0,x0),(5,(AV.i .i64 x5))] h
theorem Y1.i1 {Q x0 x5 h} (H:Y1.t1 Q x0 x5 h (Y1.J Q)):Y1.p1 Q x0 x5 h:=gR Y1.J Tryd.f43 Y1.dist [1,0,1,1] H
def Y1.t (Q:AV→aA→Prop) (x0:AV) (x1:Int) (h:aA) (J:JT):Prop:=
aZ x0 fun v2=>
aC 14 v2 fun v3=>
aB v3 h fun v4=>
dT prog .neq 44 v4 (AV.p none) fun v5=>
asB v5 fun c6=>
(bif c6 then
(aZ x0 fun v8=>
aC 14 v8 fun v9=>
aB v9 h fun v10=>
C Y14.id [v10,(AV.i .i64 x1)] h fun v11 h12=>
aP 0 v11 fun v13=>
asI .i64 v13 fun n14=>
aP 1 v11 fun v15=>
asB v15 fun c16=>
aP 2 v11 fun v17=>
asI .i64 v17 fun n18=>
(bif (!decide ((n18:Int)=0)) then
(Q (AV.i .i64 2) h12)
else
((bif (!c16) then
(Q (AV.i .i64 0) h12)
else
(J 2 [(0,x0),(5,(AV.i .i64 n14))] h12)))))
else
(aZ x0 fun v27=>
aC 11 v27 fun v28=>
aB v28 h fun v29=>
asI .i64 v29 fun n30=>
aZ x0 fun v31=>
aC 12 v31 fun v32=>
aB v32 h fun v33=>
asI .i64 v33 fun n34=>
nY .i64 x1 n34 fun n35=>
aN (bQ .or .i64 n30 n35) fun n36=>
aZ x0 fun v37=>
aC 11 v37 fun v38=>
aU 1 v38 (AV.i .i64 n36) h fun h39=>
aZ x0 fun v41=>
aC 12 v41 fun v42=>
aB v42 h39 fun v43=>
asI .i64 v43 fun n44=>
aN (IntKind.wrap .i64 (n44+1)) fun n45=>
aZ x0 fun v46=>
aC 12 v46 fun v47=>
aU 1 v47 (AV.i .i64 n45) h39 fun h48=>
aZ x0 fun v50=>
aC 12 v50 fun v51=>
aB v51 h48 fun v52=>
asI .i64 v52 fun n53=>
aZ x0 fun v54=>
aC 13 v54 fun v55=>
aB v55 h48 fun v56=>
asI .i64 v56 fun n57=>
(bif (decide ((n53:Int)<n57)) then
(Q (AV.i .i64 0) h48)
else
(aZ x0 fun v61=>
aC 11 v61 fun v62=>
aB v62 h48 fun v63=>
asI .i64 v63 fun n64=>
J 2 [(0,x0),(5,(AV.i .i64 n64))] h48))))
theorem Y1.call {K x0 x1 h} (H:Y1.t (aK h K) x0 x1 h (Y1.J (aK h K))):C Y1.id [x0,(AV.i .i64 x1)] h K:=
 gC Y1.J Tryd.func43 Y1.dist H
noncomputable def Y13.body:Code:=(Tryd.f44.body).getD .skip
def Y13.ann:Ann:=(sl [0] (sq [0] (sl [0,8] (.br (sl [2] lf) lf)) (sl [0,3] (sq [3] (sl [0,3,4] (.one (.loop 1 [0,3,4] (sq [0,3,4] (sl [0,3,4,10] bl) (.seq 2 [0,3,4] (.one (sl [0,3,4,5] (sl [0,3,4,20] bl))) lf))))) (sl [2] lf)))))
theorem Y13.dist:aH (places Y13.ann Y13.body)=true:=by kernel_rfl
noncomputable def Y13.J (Q:AV→aA→Prop):JT:=bL prog C Tryd.f44 Y13.ann Y13.body Q
def Y13.p1 (Q:AV→aA→Prop) (x0 x3 x4:Int) (h:aA):Prop:=Y13.J Q 2 [(0,(AV.i .i64 x0)),(3,(AV.i .i64 x3)),(4,(AV.i .i64 x4))] h
def Y13.p0 (Q:AV→aA→Prop) (x0 x3 x4:Int) (h:aA):Prop:=Y13.J Q 1 [(0,(AV.i .i64 x0)),(3,(AV.i .i64 x3)),(4,(AV.i .i64 x4))] h
def Y13.t1 (Q:AV→aA→Prop) (x0 x3 x4:Int) (h:aA) (J:JT):Prop:=
aN (IntKind.wrap .i64 (x4+1)) fun n19=>
J 1 [(0,(AV.i .i64 x0)),(3,(AV.i .i64 x3)),(4,(AV.i .i64 n19))] h
theorem Y13.i1 {Q x0 x3 x4 h} (H:Y13.t1 Q x0 x3 x4 h (Y13.J Q)):Y13.p1 Q x0 x3 x4 h:=gR Y13.J Tryd.f44 Y13.dist [1,1,1,0,1,0,0,1,1] H
def Y13.t0 (Q:AV→aA→Prop) (x0 x3 x4:Int) (h:aA) (J:JT):Prop:=
(bif (decide ((x4:Int)<285)) then
(C Y33.id [(AV.i .i64 x4)] h fun v9 h10=>
aP 0 v9 fun v11=>
asI .i64 v11 fun n12=>
aP 1 v9 fun v13=>
asI .i64 v13 fun n14=>
(bif (decide ((n12:Int)≤x0)) then
(J 2 [(0,(AV.i .i64 x0)),(3,(AV.i .i64 x4)),(4,(AV.i .i64 x4))] h10)
else
(J 2 [(0,(AV.i .i64 x0)),(3,(AV.i .i64 x3)),(4,(AV.i .i64 x4))] h10)))
else
(Q (AV.i .i64 x3) h))
theorem Y13.i0 {Q x0 x3 x4 h} (H:Y13.t0 Q x0 x3 x4 h (Y13.J Q)):Y13.p0 Q x0 x3 x4 h:=gH Y13.J Tryd.f44 Y13.dist [1,1,1,0,1,0] H
def Y13.t (Q:AV→aA→Prop) (x0:Int) (h:aA) (J:JT):Prop:=
(bif (decide ((x0:Int)=258)) then
(Q (AV.i .i64 285) h)
else
(J 1 [(0,(AV.i .i64 x0)),(3,(AV.i .i64 257)),(4,(AV.i .i64 257))] h))
theorem Y13.call {K x0 h} (H:Y13.t (aK h K) x0 h (Y13.J (aK h K))):C Y13.id [(AV.i .i64 x0)] h K:=
 gC Y13.J Tryd.func44 Y13.dist H
noncomputable def Y12.body:Code:=(Tryd.f45.body).getD .skip
def Y12.ann:Ann:=(sl [0] (sl [0,3] (sq [3] (sl [0,3,7] (.one (.loop 1 [0,3,7] (sl [0,3,7,8] (sq [0,3,7] bl (.seq 2 [0,3,7] (.one (sl [0,3,4,7] (sl [0,3,4,5,7] (sl [0,3,4,7,17] bl)))) lf)))))) (sl [2] lf))))
theorem Y12.dist:aH (places Y12.ann Y12.body)=true:=by kernel_rfl
noncomputable def Y12.J (Q:AV→aA→Prop):JT:=bL prog C Tryd.f45 Y12.ann Y12.body Q
def Y12.p1 (Q:AV→aA→Prop) (x0 x3 x7:Int) (h:aA):Prop:=Y12.J Q 2 [(0,(AV.i .i64 x0)),(3,(AV.i .i64 x3)),(7,(AV.i .i64 x7))] h
def Y12.p0 (Q:AV→aA→Prop) (x0 x3 x7:Int) (h:aA):Prop:=Y12.J Q 1 [(0,(AV.i .i64 x0)),(3,(AV.i .i64 x3)),(7,(AV.i .i64 x7))] h
def Y12.t1 (Q:AV→aA→Prop) (x0 x3 x7:Int) (h:aA) (J:JT):Prop:=
aN (IntKind.wrap .i64 (x7+1)) fun n17=>
J 1 [(0,(AV.i .i64 x0)),(3,(AV.i .i64 x3)),(7,(AV.i .i64 n17))] h
theorem Y12.i1 {Q x0 x3 x7 h} (H:Y12.t1 Q x0 x3 x7 h (Y12.J Q)):Y12.p1 Q x0 x3 x7 h:=gR Y12.J Tryd.f45 Y12.dist [1,1,0,1,0,0,1,1,1] H
def Y12.t0 (Q:AV→aA→Prop) (x0 x3 x7:Int) (h:aA) (J:JT):Prop:=
(bif (decide ((x7:Int)<30)) then
(C Y37.id [(AV.i .i64 x7)] h fun v7 h8=>
aP 0 v7 fun v9=>
asI .i64 v9 fun n10=>
aP 1 v7 fun v11=>
asI .i64 v11 fun n12=>
(bif (decide ((n10:Int)≤x0)) then
(J 2 [(0,(AV.i .i64 x0)),(3,(AV.i .i64 x7)),(7,(AV.i .i64 x7))] h8)
else
(J 2 [(0,(AV.i .i64 x0)),(3,(AV.i .i64 x3)),(7,(AV.i .i64 x7))] h8)))
else
(Q (AV.i .i64 x3) h))
theorem Y12.i0 {Q x0 x3 x7 h} (H:Y12.t0 Q x0 x3 x7 h (Y12.J Q)):Y12.p0 Q x0 x3 x7 h:=gH Y12.J Tryd.f45 Y12.dist [1,1,0,1,0] H
def Y12.t (Q:AV→aA→Prop) (x0:Int) (h:aA) (J:JT):Prop:=
J 1 [(0,(AV.i .i64 x0)),(3,(AV.i .i64 0)),(7,(AV.i .i64 0))] h
theorem Y12.call {K x0 h} (H:Y12.t (aK h K) x0 h (Y12.J (aK h K))):C Y12.id [(AV.i .i64 x0)] h K:=
 gC Y12.J Tryd.func45 Y12.dist H
end Go.Proofs.YtpaphfeihpgamaaDoor
namespace Go.Proofs.YtpaphfeihpgamaaDoor
open Go.GAM
variable [XR]
noncomputable def Y8.body:Code:=(Tryd.f50.body).getD .skip
def Y8.ann:Ann:=(sl [0] (sq [0] (sl [0,3] (.seq 1 [0,15] lf (.br (sl [2] lf) lf))) (sl [0,4] (sl [0,4,5] (sq [5] (sl [4,5,22,23,24] (.one (.loop 2 [4,5,22,23,24] (sl [4,5,22,23,24,25] (sq [4,5,22,23,24] bl (.seq 3 [4,5,22,23,24] (.one (sl [4,5,6,7,22,23,24] (sl [4,5,6,7,22,23,24,30] (.br (sl [4,5,7,22,23,24] lf) lf)))) lf)))))) (sl [2] lf))))))
theorem Y8.dist:aH (places Y8.ann Y8.body)=true:=by kernel_rfl
noncomputable def Y8.J (Q:AV→aA→Prop):JT:=bL prog C Tryd.f50 Y8.ann Y8.body Q
def Y8.p0 (Q:AV→aA→Prop) (x0:AV) (x15:Bool) (h:aA):Prop:=Y8.J Q 1 [(0,x0),(15,(AV.b x15))] h
def Y8.p2 (Q:AV→aA→Prop) (x4 x5 x22:AV) (x23 x24:Int) (h:aA):Prop:=Y8.J Q 3 [(4,x4),(5,x5),(22,x22),(23,(AV.i .i64 x23)),(24,(AV.i .i64 x24))] h
def Y8.p1 (Q:AV→aA→Prop) (x4 x5 x22:AV) (x23 x24:Int) (h:aA):Prop:=Y8.J Q 2 [(4,x4),(5,x5),(22,x22),(23,(AV.i .i64 x23)),(24,(AV.i .i64 x24))] h
def Y8.t0 (Q:AV→aA→Prop) (x0:AV) (x15:Bool) (h:aA) (J:JT):Prop:=
(bif x15 then
(Q (AV.sl none 0 none) h)
else
(C Y6.id [x0] h fun v9 h10=>
jZ 16 16 v9 fun v11=>
cV none [(AV.i .i64 0),(AV.i .i64 0),(AV.i .i64 0),(AV.i .i64 0),(AV.i .i64 0),(AV.i .i64 0),(AV.i .i64 0),(AV.i .i64 0),(AV.i .i64 0),(AV.i .i64 0),(AV.i .i64 0),(AV.i .i64 0),(AV.i .i64 0),(AV.i .i64 0),(AV.i .i64 0),(AV.i .i64 0)] h10 fun v12 h13=>
aU 16 v12 v11 h13 fun h14=>
bV x0 fun n16=>
nM 1 8 [(AV.i .i64 0)] (AV.i .i64 n16) (AV.i .i64 n16) h14 fun v17 h18=>
bV x0 fun n20=>
J 2 [(4,v12),(5,v17),(22,x0),(23,(AV.i .i64 n20)),(24,(AV.i .i64 0))] h18))
theorem Y8.i0 {Q x0 x15 h} (H:Y8.t0 Q x0 x15 h (Y8.J Q)):Y8.p0 Q x0 x15 h:=gR Y8.J Tryd.f50 Y8.dist [1,0,1,1] H
def Y8.t2 (Q:AV→aA→Prop) (x4 x5 x22:AV) (x23 x24:Int) (h:aA) (J:JT):Prop:=
aN (IntKind.wrap .i64 (x24+1)) fun n44=>
J 2 [(4,x4),(5,x5),(22,x22),(23,(AV.i .i64 x23)),(24,(AV.i .i64 n44))] h
theorem Y8.i2 {Q x4 x5 x22 x23 x24 h} (H:Y8.t2 Q x4 x5 x22 x23 x24 h (Y8.J Q)):Y8.p2 Q x4 x5 x22 x23 x24 h:=gR Y8.J Tryd.f50 Y8.dist [1,1,1,1,0,1,0,0,1,1,1] H
def Y8.t1 (Q:AV→aA→Prop) (x4 x5 x22:AV) (x23 x24:Int) (h:aA) (J:JT):Prop:=
(bif (decide ((x24:Int)<x23)) then
(aW 1 x22 (AV.i .i64 x24) h fun v25=>
aB v25 h fun v26=>
asI .i64 v26 fun n27=>
(bif (decide ((0:Int)<n27)) then
(bG 16 1 x4 (AV.i .i64 n27) fun v30=>
aB v30 h fun v31=>
asI .i64 v31 fun n32=>
aW 1 x5 (AV.i .i64 x24) h fun v33=>
aU 1 v33 (AV.i .i64 n32) h fun h34=>
bG 16 1 x4 (AV.i .i64 n27) fun v36=>
aB v36 h34 fun v37=>
asI .i64 v37 fun n38=>
aN (IntKind.wrap .i64 (n38+1)) fun n39=>
bG 16 1 x4 (AV.i .i64 n27) fun v40=>
aU 1 v40 (AV.i .i64 n39) h34 fun h41=>
J 3 [(4,x4),(5,x5),(22,x22),(23,(AV.i .i64 x23)),(24,(AV.i .i64 x24))] h41)
else
(J 3 [(4,x4),(5,x5),(22,x22),(23,(AV.i .i64 x23)),(24,(AV.i .i64 x24))] h)))
else
(Q x5 h))
theorem Y8.i1 {Q x4 x5 x22 x23 x24 h} (H:Y8.t1 Q x4 x5 x22 x23 x24 h (Y8.J Q)):Y8.p1 Q x4 x5 x22 x23 x24 h:=gH Y8.J Tryd.f50 Y8.dist [1,1,1,1,0,1,0] H
def Y8.t (Q:AV→aA→Prop) (x0:AV) (h:aA) (J:JT):Prop:=
C Y4.id [x0] h fun v1 h2=>
asI .i64 v1 fun n3=>
(bif (!decide ((n3:Int)=0)) then
(J 1 [(0,x0),(15,(AV.b (!decide ((n3:Int)=1))))] h2)
else
(J 1 [(0,x0),(15,(AV.b false))] h2))
theorem Y8.call {K x0 h} (H:Y8.t (aK h K) x0 h (Y8.J (aK h K))):C Y8.id [x0] h K:=
 gC Y8.J Tryd.func50 Y8.dist H
noncomputable def Y19.body:Code:=(Tryd.f51.body).getD .skip
def Y19.ann:Ann:=(sl [0,1,3,8] (.one (.loop 1 [0,1,3,8] (sq [0,1,3,8] (sl [0,1,3,8,15] bl) (sq [0,1,3,8] (.one lf) lf)))))
theorem Y19.dist:aH (places Y19.ann Y19.body)=true:=by kernel_rfl
noncomputable def Y19.J (Q:AV→aA→Prop):JT:=bL prog C Tryd.f51 Y19.ann Y19.body Q
def Y19.p0 (Q:AV→aA→Prop) (x0 x1:AV) (x3 x8:Int) (h:aA):Prop:=Y19.J Q 1 [(0,x0),(1,x1),(3,(AV.i .i64 x3)),(8,(AV.i .i64 x8))] h
def Y19.t0 (Q:AV→aA→Prop) (x0 x1:AV) (x3 x8:Int) (h:aA) (J:JT):Prop:=
(bif (decide ((0:Int)≤x8)) then
(aW 1 x1 (AV.i .i64 x3) h fun v7=>
aB v7 h fun v8=>
asI .i64 v8 fun n9=>
lR .i64 n9 x8 fun n10=>
C Y10.id [x0,(AV.i .i64 (bQ .and .i64 n10 1)),(AV.i .i64 1)] h fun v11 h12=>
aN (IntKind.wrap .i64 (x8 - 1)) fun n14=>
J 1 [(0,x0),(1,x1),(3,(AV.i .i64 x3)),(8,(AV.i .i64 n14))] h12)
else
(Q (AV.tu []) h))
theorem Y19.i0 {Q x0 x1 x3 x8 h} (H:Y19.t0 Q x0 x1 x3 x8 h (Y19.J Q)):Y19.p0 Q x0 x1 x3 x8 h:=gH Y19.J Tryd.f51 Y19.dist [1,0] H
def Y19.t (Q:AV→aA→Prop) (x0 x1 x2:AV) (x3:Int) (h:aA) (J:JT):Prop:=
aW 1 x2 (AV.i .i64 x3) h fun v0=>
aB v0 h fun v1=>
asI .i64 v1 fun n2=>
aN (IntKind.wrap .i64 (n2 - 1)) fun n3=>
J 1 [(0,x0),(1,x1),(3,(AV.i .i64 x3)),(8,(AV.i .i64 n3))] h
theorem Y19.call {K x0 x1 x2 x3 h} (H:Y19.t (aK h K) x0 x1 x2 x3 h (Y19.J (aK h K))):C Y19.id [x0,x1,x2,(AV.i .i64 x3)] h K:=
 gC Y19.J Tryd.func51 Y19.dist H
noncomputable def Y28.body:Code:=(Tryd.f62.body).getD .skip
def Y28.ann:Ann:=(sl [0,1] (sq [] (sl [0,1,6] (sl [0,1,6,20] (.br (sl [6] (sl [4,5] lf)) lf))) (sl [4,5] lf)))
theorem Y28.dist:aH (places Y28.ann Y28.body)=true:=by kernel_rfl
noncomputable def Y28.J (Q:AV→aA→Prop):JT:=bL prog C Tryd.f62 Y28.ann Y28.body Q
def Y28.t (Q:AV→aA→Prop) (x0:AV) (x1:Int) (h:aA) (J:JT):Prop:=
aZ x0 fun v1=>
aC 0 v1 fun v2=>
aB v2 h fun v3=>
bV v3 fun n4=>
aZ x0 fun v6=>
aC 0 v6 fun v7=>
aB v7 h fun v8=>
wF 1 v8 h fun v9 h10=>
asI .i64 v9 fun n11=>
aN (IntKind.wrap .i64 (n11 - n4)) fun n12=>
(bif (decide ((x1:Int)≤n12)) then
(aZ x0 fun v14=>
aC 0 v14 fun v15=>
aB v15 h10 fun v16=>
aN (IntKind.wrap .i64 (n4+x1)) fun n17=>
bJ 1 v16 none (some (AV.i .i64 n17)) none h10 fun v18=>
aZ x0 fun v19=>
aC 0 v19 fun v20=>
aU 1 v20 v18 h10 fun h21=>
Q (AV.tu [(AV.i .i64 n4),(AV.b true)]) h21)
else
(Q (AV.tu [(AV.i .i64 0),(AV.b false)]) h10))
theorem Y28.call {K x0 x1 h} (H:Y28.t (aK h K) x0 x1 h (Y28.J (aK h K))):C Y28.id [x0,(AV.i .i64 x1)] h K:=
 gC Y28.J Tryd.func62 Y28.dist H
noncomputable def Y3.body:Code:=(Tryd.f63.body).getD .skip
def Y3.ann:Ann:=(sl [0,1] (sl [0,1,5] (.seq 2 [0,1,5] (.seq 1 [0,1,5,19] lf bl) (sq [0,1,5] (sl [0,1,5,6,7] (sl [0,1,5,6,28] (.br (sl [4] lf) lf))) (sq [0,1,5] (.seq 3 [0,1,5,38] lf (.br (sl [] (sl [4] lf)) lf)) (sl [0,1,5,8] (.seq 4 [0,1,5] (sl [0,1,5,8,54] (.br (.ord (nn 0 13 (.eff 13 .done .stop))) (sl [0,1,5,74] (.br lf (.ord (nn 0 16 (.eff 16 (nn 17 2 (.eff 19 .done .stop)) .stop))))))) (sl [0,1,5] (sl [5] (sl [4] lf))))))))))
theorem Y3.dist:aH (places Y3.ann Y3.body)=true:=by kernel_rfl
noncomputable def Y3.J (Q:AV→aA→Prop):JT:=bL prog C Tryd.f63 Y3.ann Y3.body Q
def Y3.p0 (Q:AV→aA→Prop) (x0:AV) (x1 x5:Int) (x19:Bool) (h:aA):Prop:=Y3.J Q 1 [(0,x0),(1,(AV.i .i64 x1)),(5,(AV.i .i64 x5)),(19,(AV.b x19))] h
def Y3.p2 (Q:AV→aA→Prop) (x0:AV) (x1 x5:Int) (x38:Bool) (h:aA):Prop:=Y3.J Q 3 [(0,x0),(1,(AV.i .i64 x1)),(5,(AV.i .i64 x5)),(38,(AV.b x38))] h
def Y3.p3 (Q:AV→aA→Prop) (x0:AV) (x1 x5:Int) (h:aA):Prop:=Y3.J Q 4 [(0,x0),(1,(AV.i .i64 x1)),(5,(AV.i .i64 x5))] h
def Y3.p1 (Q:AV→aA→Prop) (x0:AV) (x1 x5:Int) (h:aA):Prop:=Y3.J Q 2 [(0,x0),(1,(AV.i .i64 x1)),(5,(AV.i .i64 x5))] h
def Y3.t0 (Q:AV→aA→Prop) (x0:AV) (x1 x5:Int) (x19:Bool) (h:aA) (J:JT):Prop:=
(bif x19 then
(C Y69.id [x0] h fun v11 h12=>
J 2 [(0,x0),(1,(AV.i .i64 x1)),(5,(AV.i .i64 x5))] h12)
else
(J 2 [(0,x0),(1,(AV.i .i64 x1)),(5,(AV.i .i64 x5))] h))
theorem Y3.i0 {Q x0 x1 x5 x19 h} (H:Y3.t0 Q x0 x1 x5 x19 h (Y3.J Q)):Y3.p0 Q x0 x1 x5 x19 h:=gR Y3.J Tryd.f63 Y3.dist [1,1,0,1] H
def Y3.t2 (Q:AV→aA→Prop) (x0:AV) (x1 x5:Int) (x38:Bool) (h:aA) (J:JT):Prop:=
(bif x38 then
(nM 1 1 [(AV.i .u8 0)] (AV.i .i64 x1) (AV.i .i64 64) h fun v32 h33=>
aZ x0 fun v34=>
aC 0 v34 fun v35=>
aU 1 v35 v32 h33 fun h36=>
Q (AV.i .i64 0) h36)
else
(aZ x0 fun v40=>
aC 0 v40 fun v41=>
aB v41 h fun v42=>
wF 1 v42 h fun v43 h44=>
asI .i64 v43 fun n45=>
aBW .i64 n45 2 fun n47=>
aN (IntKind.wrap .i64 (n47 - x5)) fun n48=>
(bif (decide ((x1:Int)≤n48)) then
(aZ x0 fun v50=>
aC 0 v50 fun v51=>
aB v51 h44 fun v52=>
aZ x0 fun v53=>
aC 0 v53 fun v54=>
aB v54 h44 fun v55=>
aZ x0 fun v56=>
aC 1 v56 fun v57=>
aB v57 h44 fun v58=>
asI .i64 v58 fun n59=>
bJ 1 v55 (some (AV.i .i64 n59)) none none h44 fun v60=>
kA 1 v52 v60 h44 fun v61 h62=>
asI .i64 v61 fun n63=>
J 4 [(0,x0),(1,(AV.i .i64 x1)),(5,(AV.i .i64 x5))] h62)
else
(aN (IntKind.wrap .i64 (9223372036854775807 - n45)) fun n65=>
aN (IntKind.wrap .i64 (n65 - x1)) fun n66=>
(bif (decide ((n66:Int)<n45)) then
(aB (aAO h44 1) h44 fun v68=>
False)
else
(aZ x0 fun v69=>
aC 0 v69 fun v70=>
aB v70 h44 fun v71=>
aZ x0 fun v72=>
aC 1 v72 fun v73=>
aB v73 h44 fun v74=>
asI .i64 v74 fun n75=>
bJ 1 v71 (some (AV.i .i64 n75)) none none h44 fun v76=>
aZ x0 fun v77=>
aC 1 v77 fun v78=>
aB v78 h44 fun v79=>
asI .i64 v79 fun n80=>
aN (IntKind.wrap .i64 (n80+x1)) fun n81=>
C Y67.id [v76,(AV.i .i64 n81)] h44 fun v82 h83=>
aZ x0 fun v84=>
aC 0 v84 fun v85=>
aU 1 v85 v82 h83 fun h86=>
J 4 [(0,x0),(1,(AV.i .i64 x1)),(5,(AV.i .i64 x5))] h86))))))
theorem Y3.i2 {Q x0 x1 x5 x38 h} (H:Y3.t2 Q x0 x1 x5 x38 h (Y3.J Q)):Y3.p2 Q x0 x1 x5 x38 h:=gR Y3.J Tryd.f63 Y3.dist [1,1,1,1,0,1] H
def Y3.t3 (Q:AV→aA→Prop) (x0:AV) (x1 x5:Int) (h:aA) (J:JT):Prop:=
aZ x0 fun v88=>
aC 1 v88 fun v89=>
aU 1 v89 (AV.i .i64 0) h fun h90=>
aZ x0 fun v92=>
aC 0 v92 fun v93=>
aB v93 h90 fun v94=>
aN (IntKind.wrap .i64 (x5+x1)) fun n95=>
bJ 1 v94 none (some (AV.i .i64 n95)) none h90 fun v96=>
aZ x0 fun v97=>
aC 0 v97 fun v98=>
aU 1 v98 v96 h90 fun h99=>
Q (AV.i .i64 x5) h99
theorem Y3.i3 {Q x0 x1 x5 h} (H:Y3.t3 Q x0 x1 x5 h (Y3.J Q)):Y3.p3 Q x0 x1 x5 h:=gR Y3.J Tryd.f63 Y3.dist [1,1,1,1,1,1,1] H
def Y3.t1 (Q:AV→aA→Prop) (x0:AV) (x1 x5:Int) (h:aA) (J:JT):Prop:=
C Y28.id [x0,(AV.i .i64 x1)] h fun v15 h16=>
aP 0 v15 fun v17=>
asI .i64 v17 fun n18=>
aP 1 v15 fun v19=>
asB v19 fun c20=>
(bif c20 then
(Q (AV.i .i64 n18) h16)
else
(aZ x0 fun v25=>
aC 0 v25 fun v26=>
aB v26 h16 fun v27=>
dT prog .eql 43 v27 (AV.sl none 0 none) fun v28=>
asB v28 fun c29=>
(bif c29 then
(J 3 [(0,x0),(1,(AV.i .i64 x1)),(5,(AV.i .i64 x5)),(38,(AV.b (decide ((x1:Int)≤64))))] h16)
else
(J 3 [(0,x0),(1,(AV.i .i64 x1)),(5,(AV.i .i64 x5)),(38,(AV.b false))] h16))))
theorem Y3.i1 {Q x0 x1 x5 h} (H:Y3.t1 Q x0 x1 x5 h (Y3.J Q)):Y3.p1 Q x0 x1 x5 h:=gR Y3.J Tryd.f63 Y3.dist [1,1,1] H
def Y3.t (Q:AV→aA→Prop) (x0:AV) (x1:Int) (h:aA) (J:JT):Prop:=
C Y31.id [x0] h fun v1 h2=>
asI .i64 v1 fun n3=>
(bif (decide ((n3:Int)=0)) then
(aZ x0 fun v5=>
aC 1 v5 fun v6=>
aB v6 h2 fun v7=>
asI .i64 v7 fun n8=>
J 1 [(0,x0),(1,(AV.i .i64 x1)),(5,(AV.i .i64 n3)),(19,(AV.b (!decide ((n8:Int)=0))))] h2)
else
(J 1 [(0,x0),(1,(AV.i .i64 x1)),(5,(AV.i .i64 n3)),(19,(AV.b false))] h2))
theorem Y3.call {K x0 x1 h} (H:Y3.t (aK h K) x0 x1 h (Y3.J (aK h K))):C Y3.id [x0,(AV.i .i64 x1)] h K:=
 gC Y3.J Tryd.func63 Y3.dist H
noncomputable def Y15.body:Code:=(Tryd.f64.body).getD .skip
def Y15.ann:Ann:=(sl [0,1] (sq [0,1] (sl [0,1,10] bl) (sl [0,5,6] (sq [0,6] (.seq 1 [0,6,26] lf bl) (sl [0,7] (sl [7,8] (sq [7] (.one (.loop 2 [7,8] (sq [7,8] (sl [7,8,37] bl) (.one (.ord (nn 0 7 (.eff 7 (.neu 8 (.eff 9 .done .stop)) .stop))))))) (sl [4] lf))))))))
theorem Y15.dist:aH (places Y15.ann Y15.body)=true:=by kernel_rfl
noncomputable def Y15.J (Q:AV→aA→Prop):JT:=bL prog C Tryd.f64 Y15.ann Y15.body Q
def Y15.p0 (Q:AV→aA→Prop) (x0:AV) (x6:Int) (x26:Bool) (h:aA):Prop:=Y15.J Q 1 [(0,x0),(6,(AV.i .u64 x6)),(26,(AV.b x26))] h
def Y15.p1 (Q:AV→aA→Prop) (x7:AV) (x8:Int) (h:aA):Prop:=Y15.J Q 2 [(7,x7),(8,(AV.i .i64 x8))] h
def Y15.t0 (Q:AV→aA→Prop) (x0:AV) (x6:Int) (x26:Bool) (h:aA) (J:JT):Prop:=
(bif x26 then
(False)
else
(nM 1 8 [(AV.i .i64 0)] (AV.i .i64 (IntKind.wrap .i64 x6)) (AV.i .i64 (IntKind.wrap .i64 x6)) h fun v14 h15=>
kA 1 v14 x0 h15 fun v17 h18=>
asI .i64 v17 fun n19=>
J 2 [(7,v14),(8,(AV.i .i64 n19))] h18))
theorem Y15.i0 {Q x0 x6 x26 h} (H:Y15.t0 Q x0 x6 x26 h (Y15.J Q)):Y15.p0 Q x0 x6 x26 h:=gR Y15.J Tryd.f64 Y15.dist [1,1,1,0,1] H
def Y15.t1 (Q:AV→aA→Prop) (x7:AV) (x8:Int) (h:aA) (J:JT):Prop:=
bV x7 fun n21=>
(bif (decide ((x8:Int)<n21)) then
(bJ 1 x7 (some (AV.i .i64 x8)) none none h fun v25=>
bJ 1 x7 none (some (AV.i .i64 x8)) none h fun v26=>
kA 1 v25 v26 h fun v27 h28=>
asI .i64 v27 fun n29=>
aN (IntKind.wrap .i64 (x8+n29)) fun n30=>
J 2 [(7,x7),(8,(AV.i .i64 n30))] h28)
else
(Q x7 h))
theorem Y15.i1 {Q x7 x8 h} (H:Y15.t1 Q x7 x8 h (Y15.J Q)):Y15.p1 Q x7 x8 h:=gH Y15.J Tryd.f64 Y15.dist [1,1,1,1,1,1,0,0] H
def Y15.t (Q:AV→aA→Prop) (x0:AV) (x1:Int) (h:aA) (J:JT):Prop:=
(bif (decide ((x1:Int)<0)) then
(False)
else
(bV x0 fun n3=>
C Y54.id [(AV.i .u64 (IntKind.wrap .u64 n3)),(AV.i .u64 (IntKind.wrap .u64 x1))] h fun v4 h5=>
aP 0 v4 fun v6=>
asI .u64 v6 fun n7=>
aP 1 v4 fun v8=>
asI .u64 v8 fun n9=>
(bif (decide ((0:Int)<n7)) then
(J 1 [(0,x0),(6,(AV.i .u64 n9)),(26,(AV.b true))] h5)
else
(J 1 [(0,x0),(6,(AV.i .u64 n9)),(26,(AV.b (decide ((9223372036854775807:Int)<n9))))] h5))))
theorem Y15.call {K x0 x1 h} (H:Y15.t (aK h K) x0 x1 h (Y15.J (aK h K))):C Y15.id [x0,(AV.i .i64 x1)] h K:=
 gC Y15.J Tryd.func64 Y15.dist H
noncomputable def Y33.body:Code:=(Tryd.f65.body).getD .skip
def Y33.ann:Ann:=(sl [0] (sq [0] (.one (sl [0,5] (.br (sl [2,3] lf) (sl [0,10] (.br (sl [2,3] lf) lf))))) (sl [0,4] (sl [2,3] lf))))
theorem Y33.dist:aH (places Y33.ann Y33.body)=true:=by kernel_rfl
noncomputable def Y33.J (Q:AV→aA→Prop):JT:=bL prog C Tryd.f65 Y33.ann Y33.body Q
def Y33.t (Q:AV→aA→Prop) (x0:Int) (h:aA) (J:JT):Prop:=
(bif (decide ((x0:Int)≤264)) then
(aN (IntKind.wrap .i64 (x0 - 254)) fun n2=>
Q (AV.tu [(AV.i .i64 n2),(AV.i .i64 0)]) h)
else
((bif (decide ((x0:Int)=285)) then
(Q (AV.tu [(AV.i .i64 258),(AV.i .i64 0)]) h)
else
(aN (IntKind.wrap .i64 (x0 - 261)) fun n7=>
aBW .i64 n7 4 fun n8=>
aN (IntKind.wrap .i64 (x0 - 265)) fun n10=>
aEA n10 4 fun n11=>
aN (IntKind.wrap .i64 (4+n11)) fun n12=>
nY .i64 n12 n8 fun n13=>
aN (IntKind.wrap .i64 (n13+3)) fun n14=>
Q (AV.tu [(AV.i .i64 n14),(AV.i .i64 n8)]) h))))
theorem Y33.call {K x0 h} (H:Y33.t (aK h K) x0 h (Y33.J (aK h K))):C Y33.id [(AV.i .i64 x0)] h K:=
 gC Y33.J Tryd.func65 Y33.dist H
noncomputable def Y37.body:Code:=(Tryd.f66.body).getD .skip
def Y37.ann:Ann:=(sl [0] (sq [0] (sl [0,6] (.br (sl [2,3] lf) lf)) (sl [0,4] (sl [2,3] lf))))
theorem Y37.dist:aH (places Y37.ann Y37.body)=true:=by kernel_rfl
noncomputable def Y37.J (Q:AV→aA→Prop):JT:=bL prog C Tryd.f66 Y37.ann Y37.body Q
def Y37.t (Q:AV→aA→Prop) (x0:Int) (h:aA) (J:JT):Prop:=
(bif (decide ((x0:Int)<4)) then
(aN (IntKind.wrap .i64 (x0+1)) fun n2=>
Q (AV.tu [(AV.i .i64 n2),(AV.i .i64 0)]) h)
else
(aBW .i64 x0 2 fun n5=>
aN (IntKind.wrap .i64 (n5 - 1)) fun n6=>
aEA x0 2 fun n8=>
aN (IntKind.wrap .i64 (2+n8)) fun n9=>
nY .i64 n9 n6 fun n10=>
aN (IntKind.wrap .i64 (n10+1)) fun n11=>
Q (AV.tu [(AV.i .i64 n11),(AV.i .i64 n6)]) h))
theorem Y37.call {K x0 h} (H:Y37.t (aK h K) x0 h (Y37.J (aK h K))):C Y37.id [(AV.i .i64 x0)] h K:=
 gC Y37.J Tryd.func66 Y37.dist H
noncomputable def Y29.body:Code:=(Tryd.f67.body).getD .skip
def Y29.ann:Ann:=(sl [0,1,2,8] (.br (.ord (nn 0 14 (.eff 14 (.eff 15 (.eff 16 .done .stop) .stop) .stop))) lf))
theorem Y29.dist:aH (places Y29.ann Y29.body)=true:=by kernel_rfl
noncomputable def Y29.J (Q:AV→aA→Prop):JT:=bL prog C Tryd.f67 Y29.ann Y29.body Q
def Y29.t (Q:AV→aA→Prop) (x0:Int) (x1 x2:AV) (h:aA) (J:JT):Prop:=
aN (IntKind.wrap .i64 (x0+3)) fun n0=>
aB x1 h fun v1=>
asS v1 fun l2=>
(bif (decide ((n0:Int)≤(l2.length:Int))) then
(aB x2 h fun v4=>
aB x1 h fun v5=>
asS v5 fun l6=>
aN (IntKind.wrap .i64 (x0+3)) fun n7=>
b8 (AV.s l6) (some (AV.i .i64 x0)) (some (AV.i .i64 n7)) fun l8=>
aB x2 h fun v9=>
aB x1 h fun v10=>
asS v10 fun l11=>
aN (IntKind.wrap .i64 (x0+3)) fun n12=>
b8 (AV.s l11) (some (AV.i .i64 x0)) (some (AV.i .i64 n12)) fun l13=>
eL prog 9 64 false v9 (AV.s l13) h fun v14=>
bP 1 1 [(AV.i .i64 0)] [(0,1,(AV.i .i64 x0))] h fun v15 h16=>
eL prog 9 64 false v9 (AV.s l13) h16 fun v17=>
(v14=v17 ∧
(aB x1 h16 fun v18=>
asS v18 fun l19=>
((AV.s l11)=(AV.s l19) ∧
(aB x2 h16 fun v20=>
(v9=v20 ∧
(aB x1 h16 fun v21=>
asS v21 fun l22=>
((AV.s l6)=(AV.s l22) ∧
(aB x2 h16 fun v23=>
(v4=v23 ∧
(bT none 1 8 v14 v15 h16 fun v24 h25=>
aB x1 h25 fun v26=>
asS v26 fun l27=>
((AV.s l6)=(AV.s l27) ∧
(aB x2 h25 fun v28=>
(v4=v28 ∧
(fV prog 9 v4 (AV.s l8) v24 h25 fun h29=>
Q (AV.tu []) h29)))))))))))))))
else
(Q (AV.tu []) h))
theorem Y29.call {K x0 x1 x2 h} (H:Y29.t (aK h K) x0 x1 x2 h (Y29.J (aK h K))):C Y29.id [(AV.i .i64 x0),x1,x2] h K:=
 gC Y29.J Tryd.func67 Y29.dist H
noncomputable def Y30.body:Code:=(Tryd.f68.body).getD .skip
def Y30.ann:Ann:=(sl [2,3,4,6,7] (sl [2,3,4,6,7,8] (sq [6,7] (sl [3,4,6,7,8,18] (.one (.br lf (.one (sq [3,4,6,7,8,10] (.seq 1 [3,4,6,7,8,10,29] lf bl) (sl [3,4,6,7,8,10,11] (sq [4,6,7,10,11] (.one (.loop 2 [3,4,6,7,8,10,11] (sq [3,4,6,7,8,10,11] (.seq 3 [3,4,6,7,8,10,11,45] (.ord (nn 0 16 .done)) bl) (.one lf)))) (sl [4,6,7,10,11,50] (.br (.ord (nn 0 4 (.eff 4 (.eff 5 .done .stop) .stop))) lf))))))))) (sq [6,7] (.ord (nn 0 2 (.eff 2 (.eff 3 .done .stop) .stop))) lf))))
theorem Y30.body_eq:Tryd.f68.body=some Y30.body:=by kernel_rfl
noncomputable def Y2.body:Code:=codeAt [1,1,0,1,0,1] Y30.body
def Y2.ann:Ann:=(.one (sq [3,4,6,7,8,10] (.seq 1 [3,4,6,7,8,10,29] lf bl) (sl [3,4,6,7,8,10,11] (sq [4,6,7,10,11] (.one (.loop 2 [3,4,6,7,8,10,11] (sq [3,4,6,7,8,10,11] (.seq 3 [3,4,6,7,8,10,11,45] (.ord (nn 0 16 .done)) bl) (.one lf)))) (sl [4,6,7,10,11,50] (.br (.ord (nn 0 4 (.eff 4 (.eff 5 .done .stop) .stop))) lf))))))
theorem Y2.dist:aH (places Y2.ann Y2.body)=true:=by kernel_rfl
noncomputable def Y2.J (X:Exit→aA→Prop):JT:=lU prog C 57 Y2.ann Y2.body (xK X)
theorem Y2.goR {X:Exit→aA→Prop} {k:Nat} {p:List Nat} (hl:iW (places Y2.ann Y2.body) k=some (p,false)) {e:Env} {h:aA} (hk:atJ prog C 57 (Y2.J X) false p Y2.ann Y2.body e h (xK X)):Y2.J X k e h:=aDM (P:=prog) (nt:=57) (ann:=Y2.ann) (body:=Y2.body) (K:=xK X) (k:=k) (p:=p) (e:=e) (h:=h) (g9 _) Y2.dist hl hk
theorem Y2.goH {X:Exit→aA→Prop} {k:Nat} {p:List Nat} (hl:iW (places Y2.ann Y2.body) k=some (p,true)) {e:Env} {h:aA} (hk:atJ prog C 57 (Y2.J X) true p Y2.ann Y2.body e h (xK X)):Y2.J X k e h:=aBU (P:=prog) (nt:=57) (ann:=Y2.ann) (body:=Y2.body) (K:=xK X) (k:=k) (p:=p) (e:=e) (h:=h) (g9 _) Y2.dist hl hk
def Y2.p0 (X:Exit→aA→Prop) (x3 x4 x6 x7 x8:AV) (x10:Int) (x29:Bool) (h:aA):Prop:=Y2.J X 1 [(3,x3),(4,x4),(6,x6),(7,x7),(8,x8),(10,(AV.i .i64 x10)),(29,(AV.b x29))] h
def Y2.p2 (X:Exit→aA→Prop) (x3 x4 x6 x7 x8:AV) (x10 x11:Int) (x45:Bool) (h:aA):Prop:=Y2.J X 3 [(3,x3),(4,x4),(6,x6),(7,x7),(8,x8),(10,(AV.i .i64 x10)),(11,(AV.i .i64 x11)),(45,(AV.b x45))] h
def Y2.p1 (X:Exit→aA→Prop) (x3 x4 x6 x7 x8:AV) (x10 x11:Int) (h:aA):Prop:=Y2.J X 2 [(3,x3),(4,x4),(6,x6),(7,x7),(8,x8),(10,(AV.i .i64 x10)),(11,(AV.i .i64 x11))] h
def Y2.t0 (J:JT) (X:Exit→aA→Prop) (x3 x4 x6 x7 x8:AV) (x10:Int) (x29:Bool) (h:aA):Prop:=
(bif x29 then
(X (Exit.exit 0) h)
else
(J 2 [(3,x3),(4,x4),(6,x6),(7,x7),(8,x8),(10,(AV.i .i64 x10)),(11,(AV.i .i64 0))] h))
theorem Y2.t0_eq (J:JT) (X:Exit→aA→Prop) (x3:AV) (x4:AV) (x6:AV) (x7:AV) (x8:AV) (x10:Int) (x29:Bool) (h:aA):Y2.t0 J X x3 x4 x6 x7 x8 x10 x29 h=atJ prog C 57 J false [0,0,1] Y2.ann Y2.body [(3,x3),(4,x4),(6,x6),(7,x7),(8,x8),(10,(AV.i .i64 x10)),(29,(AV.b x29))] h (xK X):=by kernel_rfl
theorem Y2.i0 {X x3 x4 x6 x7 x8 x10 x29 h} (H:Y2.t0 (Y2.J X) X x3 x4 x6 x7 x8 x10 x29 h):Y2.p0 X x3 x4 x6 x7 x8 x10 x29 h:=Y2.goR (k:=1) (p:=[0,0,1]) (by kernel_rfl) ((Y2.t0_eq (Y2.J X) X x3 x4 x6 x7 x8 x10 x29 h).mp H)
def Y2.t2 (J:JT) (X:Exit→aA→Prop) (x3 x4 x6 x7 x8:AV) (x10 x11:Int) (x45:Bool) (h:aA):Prop:=
(bif x45 then
(aN (IntKind.wrap .i64 (x11+1)) fun n54=>
J 2 [(3,x3),(4,x4),(6,x6),(7,x7),(8,x8),(10,(AV.i .i64 x10)),(11,(AV.i .i64 n54))] h)
else
(aB x6 h fun v56=>
asI .i64 v56 fun n57=>
(bif (decide ((n57:Int)<x11)) then
(aB x4 h fun v59=>
asI .i64 v59 fun n60=>
aN (IntKind.wrap .i64 (n60 - x10)) fun n61=>
aU 1 x6 (AV.i .i64 x11) h fun h62=>
aB x4 h62 fun v63=>
asI .i64 v63 fun n64=>
((AV.i .i64 n60)=(AV.i .i64 n64) ∧
(aU 1 x7 (AV.i .i64 n61) h62 fun h65=>
X Exit.normal h65)))
else
(X Exit.normal h))))
theorem Y2.t2_eq (J:JT) (X:Exit→aA→Prop) (x3:AV) (x4:AV) (x6:AV) (x7:AV) (x8:AV) (x10:Int) (x11:Int) (x45:Bool) (h:aA):Y2.t2 J X x3 x4 x6 x7 x8 x10 x11 x45 h=atJ prog C 57 J false [0,1,1,0,0,0,0,1] Y2.ann Y2.body [(3,x3),(4,x4),(6,x6),(7,x7),(8,x8),(10,(AV.i .i64 x10)),(11,(AV.i .i64 x11)),(45,(AV.b x45))] h (xK X):=by kernel_rfl
theorem Y2.i2 {X x3 x4 x6 x7 x8 x10 x11 x45 h} (H:Y2.t2 (Y2.J X) X x3 x4 x6 x7 x8 x10 x11 x45 h):Y2.p2 X x3 x4 x6 x7 x8 x10 x11 x45 h:=Y2.goR (k:=3) (p:=[0,1,1,0,0,0,0,1]) (by kernel_rfl) ((Y2.t2_eq (Y2.J X) X x3 x4 x6 x7 x8 x10 x11 x45 h).mp H)
def Y2.t1 (J:JT) (X:Exit→aA→Prop) (x3 x4 x6 x7 x8:AV) (x10 x11:Int) (h:aA):Prop:=
aB x8 h fun v38=>
asI .i64 v38 fun n39=>
(bif (decide ((x11:Int)<n39)) then
(aB x3 h fun v40=>
asS v40 fun l41=>
aN (IntKind.wrap .i64 (x10+x11)) fun n42=>
eZ (AV.s l41) (AV.i .i64 n42) fun n43=>
aB x3 h fun v44=>
asS v44 fun l45=>
aB x4 h fun v46=>
asI .i64 v46 fun n47=>
aN (IntKind.wrap .i64 (n47+x11)) fun n48=>
eZ (AV.s l45) (AV.i .i64 n48) fun n49=>
J 3 [(3,x3),(4,x4),(6,x6),(7,x7),(8,x8),(10,(AV.i .i64 x10)),(11,(AV.i .i64 x11)),(45,(AV.b (decide ((n43:Int)=n49))))] h)
else
(J 3 [(3,x3),(4,x4),(6,x6),(7,x7),(8,x8),(10,(AV.i .i64 x10)),(11,(AV.i .i64 x11)),(45,(AV.b false))] h))
theorem Y2.t1_eq (J:JT) (X:Exit→aA→Prop) (x3:AV) (x4:AV) (x6:AV) (x7:AV) (x8:AV) (x10:Int) (x11:Int) (h:aA):Y2.t1 J X x3 x4 x6 x7 x8 x10 x11 h=atJ prog C 57 J true [0,1,1,0,0] Y2.ann Y2.body [(3,x3),(4,x4),(6,x6),(7,x7),(8,x8),(10,(AV.i .i64 x10)),(11,(AV.i .i64 x11))] h (xK X):=by kernel_rfl
theorem Y2.i1 {X x3 x4 x6 x7 x8 x10 x11 h} (H:Y2.t1 (Y2.J X) X x3 x4 x6 x7 x8 x10 x11 h):Y2.p1 X x3 x4 x6 x7 x8 x10 x11 h:=Y2.goH (k:=2) (p:=[0,1,1,0,0]) (by kernel_rfl) ((Y2.t1_eq (Y2.J X) X x3 x4 x6 x7 x8 x10 x11 h).mp H)
def Y30.tX (Q:AV→aA→Prop) (x0:List UInt8) (x1:Int) (x2:AV) (h:aA):Prop:=
dF none (AV.s x0) h fun v0 h1=>
dF none (AV.i .i64 x1) h1 fun v2 h3=>
cV none [(AV.i .i64 0)] h3 fun v4 h5=>
cV none [(AV.i .i64 0)] h5 fun v6 h7=>
aB v0 h7 fun v9=>
asS v9 fun l10=>
aB v2 h7 fun v11=>
asI .i64 v11 fun n12=>
aN (IntKind.wrap .i64 ((l10.length:Int) - n12)) fun n13=>
cV none [(AV.i .i64 0)] h7 fun v14 h15=>
aU 1 v14 (AV.i .i64 (mmI false 258 n13)) h15 fun h16=>
C Y66.id [x2] h16 fun v18 h19=>
aDR prog C (dO prog) v18 (fun g21 r22 y23 h24 K25=>
h24[g21]? = some (dG r22 .ready none) ∧
aD9 y23 fun y23_0 y23_1=>
asI .i64 y23_1 fun n26=>
h24[g21]? = some (dG r22 .ready none) ∧
aBK (aF2 g21 r22 K25) fun X=>
aB1 (Y2.J X) fun J=>
aB v2 (h24.set g21 (dG r22 .busy none)) fun v27=>
asI .i64 v27 fun n28=>
aN (IntKind.wrap .i64 (n28 - n26)) fun n29=>
(bif (decide ((32768:Int)<n29)) then
(J 1 [(3,v0),(4,v2),(6,v4),(7,v6),(8,v14),(10,(AV.i .i64 n26)),(29,(AV.b true))] (h24.set g21 (dG r22 .busy none)))
else
(aB v4 (h24.set g21 (dG r22 .busy none)) fun v31=>
asI .i64 v31 fun n32=>
aB v14 (h24.set g21 (dG r22 .busy none)) fun v33=>
asI .i64 v33 fun n34=>
J 1 [(3,v0),(4,v2),(6,v4),(7,v6),(8,v14),(10,(AV.i .i64 n26)),(29,(AV.b (decide ((n32:Int)=n34))))] (h24.set g21 (dG r22 .busy none))))) h19 fun r68 h66=>
(h66[h19.length]? = some (dG r68 .ready none)∧aB v4 (h66.set h19.length cH) fun v73=>
asI .i64 v73 fun n74=>
aB v6 (h66.set h19.length cH) fun v75=>
asI .i64 v75 fun n76=>
aU 1 v4 (AV.i .i64 n74) (h66.set h19.length cH) fun h77=>
aB v6 h77 fun v78=>
asI .i64 v78 fun n79=>
((AV.i .i64 n76)=(AV.i .i64 n79) ∧
(aU 1 v6 (AV.i .i64 n76) h77 fun h80=>
aB v4 h80 fun v82=>
aB v6 h80 fun v83=>
Q (AV.tu [v82,v83]) h80))) ∨
(h66[h19.length]? = some (dG r68 .done (some (.exit 0)))∧aB v4 (h66.set h19.length cH) fun v84=>
asI .i64 v84 fun n85=>
aB v6 (h66.set h19.length cH) fun v86=>
asI .i64 v86 fun n87=>
aU 1 v4 (AV.i .i64 n85) (h66.set h19.length cH) fun h88=>
aB v6 h88 fun v89=>
asI .i64 v89 fun n90=>
((AV.i .i64 n87)=(AV.i .i64 n90) ∧
(aU 1 v6 (AV.i .i64 n87) h88 fun h91=>
aB v4 h91 fun v93=>
aB v6 h91 fun v94=>
Q (AV.tu [v93,v94]) h91))) ∨
(h66[h19.length]? = some (dG r68 .done (some .ret))∧aB v4 (h66.set h19.length cH) fun v71=>
aB v6 (h66.set h19.length cH) fun v72=>
Q (AV.tu [v71,v72]) (h66.set h19.length cH))
theorem Y30.tX_eq (Q:AV→aA→Prop) (x0:List UInt8) (x1:Int) (x2:AV) (h:aA):Y30.tX Q x0 x1 x2 h=d7 prog C (dO prog) 57 Y30.ann Y30.body (d9 0 [(AV.s x0),(AV.i .i64 x1),x2]) h (oB prog Tryd.f68 Q):=by kernel_rfl
theorem Y30.callX {K:AV→aA→Prop} {x0:List UInt8} {x1:Int} {x2:AV} {h:aA} (H:Y30.tX (aK h K) x0 x1 x2 h):aFX prog C (dO prog) Y30.id [(AV.s x0),(AV.i .i64 x1),x2] h K:=
 ⟨Tryd.f68,Y30.body,Y30.ann,Tryd.func68,Y30.body_eq,by kernel_rfl,Nat.le_of_ble_eq_true (by kernel_rfl),(Y30.tX_eq (aK h K) x0 x1 x2 h).mp H⟩
noncomputable def Y27.body:Code:=(Tryd.f70.body).getD .skip
def Y27.ann:Ann:=(sl [0,1,2] (sl [] (sl [6] lf)))
theorem Y27.dist:aH (places Y27.ann Y27.body)=true:=by kernel_rfl
noncomputable def Y27.J (Q:AV→aA→Prop):JT:=bL prog C Tryd.f70 Y27.ann Y27.body Q
def Y27.t (Q:AV→aA→Prop) (x0:AV) (x1:Int) (x2:AV) (h:aA) (J:JT):Prop:=
aZ x0 fun v1=>
aC 11 v1 fun v2=>
aU 1 v2 (AV.i .i64 0) h fun h3=>
aZ x0 fun v4=>
aC 12 v4 fun v5=>
aU 1 v5 (AV.i .i64 0) h3 fun h6=>
aZ x0 fun v7=>
aC 13 v7 fun v8=>
aU 1 v8 (AV.i .i64 x1) h6 fun h9=>
aZ x0 fun v10=>
aC 14 v10 fun v11=>
aU 1 v11 (AV.p none) h9 fun h12=>
aZ x0 fun v13=>
aC 15 v13 fun v14=>
aU 1 v14 x2 h12 fun h15=>
Q (AV.i .i64 0) h15
theorem Y27.call {K x0 x1 x2 h} (H:Y27.t (aK h K) x0 x1 x2 h (Y27.J (aK h K))):C Y27.id [x0,(AV.i .i64 x1),x2] h K:=
 gC Y27.J Tryd.func70 Y27.dist H
noncomputable def Y50.body:Code:=(Tryd.f71.body).getD .skip
def Y50.ann:Ann:=(sl [0,1] (sl [0,1] (sq [] (sl [1,11] (.one (sl [1,11,12] (.br (sl [1] (sl [3] lf)) (sl [1,11,19] (.br (sl [3] lf) (sl [1,23] (.br (sl [3] lf) lf)))))))) (sl [3] lf))))
theorem Y50.dist:aH (places Y50.ann Y50.body)=true:=by kernel_rfl
noncomputable def Y50.J (Q:AV→aA→Prop):JT:=bL prog C Tryd.f71 Y50.ann Y50.body Q
def Y50.t (Q:AV→aA→Prop) (x0:Int) (x1:AV) (h:aA) (J:JT):Prop:=
aB x1 h fun v1=>
aZ v1 fun v2=>
aC 6 v2 fun v3=>
aU 1 v3 (AV.b (decide (((bQ .and .i64 x0 1):Int)=1))) h fun h4=>
lR .i64 x0 1 fun n6=>
(bif (decide ((n6:Int)=0)) then
(aB x1 h4 fun v9=>
aZ v9 fun v10=>
aC 9 v10 fun v11=>
aU 1 v11 (AV.b true) h4 fun h12=>
aB x1 h12 fun v14=>
C Y60.id [v14] h12 fun v15 h16=>
asI .i64 v15 fun n17=>
Q (AV.i .i64 n17) h16)
else
((bif (decide ((n6:Int)=1)) then
(aB x1 h4 fun v20=>
C Y59.id [v20] h4 fun v21 h22=>
asI .i64 v21 fun n23=>
Q (AV.i .i64 n23) h22)
else
((bif (decide ((n6:Int)=2)) then
(aB x1 h4 fun v26=>
C Y57.id [v26] h4 fun v27 h28=>
asI .i64 v27 fun n29=>
Q (AV.i .i64 n29) h28)
else
(Q (AV.i .i64 2) h4))))))
theorem Y50.call {K x0 x1 h} (H:Y50.t (aK h K) x0 x1 h (Y50.J (aK h K))):C Y50.id [(AV.i .i64 x0),x1] h K:=
 gC Y50.J Tryd.func71 Y50.dist H
noncomputable def Y60.body:Code:=(Tryd.f72.body).getD .skip
def Y60.ann:Ann:=(sl [1] (sl [2] lf))
theorem Y60.dist:aH (places Y60.ann Y60.body)=true:=by kernel_rfl
noncomputable def Y60.J (Q:AV→aA→Prop):JT:=bL prog C Tryd.f72 Y60.ann Y60.body Q
def Y60.t (Q:AV→aA→Prop) (x0:AV) (h:aA) (J:JT):Prop:=
dF none x0 h fun v0 h1=>
aB v0 h1 fun v3=>
C Y27.id [v3,(AV.i .i64 16),(AV.fn (.func Y47.id) [] [v0])] h1 fun v4 h5=>
asI .i64 v4 fun n6=>
Q (AV.i .i64 n6) h5
theorem Y60.call {K x0 h} (H:Y60.t (aK h K) x0 h (Y60.J (aK h K))):C Y60.id [x0] h K:=
 gC Y60.J Tryd.func72 Y60.dist H
noncomputable def Y59.body:Code:=(Tryd.f73.body).getD .skip
def Y59.ann:Ann:=(sl [0] (sl [0,3,4] (sl [2] lf)))
theorem Y59.dist:aH (places Y59.ann Y59.body)=true:=by kernel_rfl
noncomputable def Y59.J (Q:AV→aA→Prop):JT:=bL prog C Tryd.f73 Y59.ann Y59.body Q
def Y59.t (Q:AV→aA→Prop) (x0:AV) (h:aA) (J:JT):Prop:=
C Y9.id [] h fun v1 h2=>
aP 0 v1 fun v3=>
aP 1 v1 fun v4=>
C Y45.id [x0,v3,v4] h2 fun v6 h7=>
asI .i64 v6 fun n8=>
Q (AV.i .i64 n8) h7
theorem Y59.call {K x0 h} (H:Y59.t (aK h K) x0 h (Y59.J (aK h K))):C Y59.id [x0] h K:=
 gC Y59.J Tryd.func73 Y59.dist H
noncomputable def Y57.body:Code:=(Tryd.f74.body).getD .skip
def Y57.ann:Ann:=(sl [1] (sl [2] lf))
theorem Y57.dist:aH (places Y57.ann Y57.body)=true:=by kernel_rfl
noncomputable def Y57.J (Q:AV→aA→Prop):JT:=bL prog C Tryd.f74 Y57.ann Y57.body Q
def Y57.t (Q:AV→aA→Prop) (x0:AV) (h:aA) (J:JT):Prop:=
dF none x0 h fun v0 h1=>
aB v0 h1 fun v3=>
C Y27.id [v3,(AV.i .i64 5),(AV.fn (.func Y63.id) [] [v0])] h1 fun v4 h5=>
asI .i64 v4 fun n6=>
Q (AV.i .i64 n6) h5
theorem Y57.call {K x0 h} (H:Y57.t (aK h K) x0 h (Y57.J (aK h K))):C Y57.id [x0] h K:=
 gC Y57.J Tryd.func74 Y57.dist H
noncomputable def Y14.body:Code:=(Tryd.f75.body).getD .skip
def Y14.ann:Ann:=(sl [0,1,4,5,6] (sq [0,1,4,5,6] (sl [0,1,4,5,6,9] (.br (sl [4,5,6] lf) lf)) (sq [0,4,5,6] (.ord (nn 0 17 (.eff 17 (nn 18 2 (.eff 20 .done .stop)) .stop))) (.seq 2 [0,4,5,6] (sl [0,4,5,6,7] (.seq 1 [0,4,5,6,7,74] (.ord (nn 0 42 .done)) (.br (.ord (nn 0 27 .done)) (sl [0,4,5,105] (.br (sl [4,5,6] lf) lf))))) (sl [4,5,6] (sl [4,5,6] lf))))))
theorem Y14.dist:aH (places Y14.ann Y14.body)=true:=by kernel_rfl
noncomputable def Y14.J (Q:AV→aA→Prop):JT:=bL prog C Tryd.f75 Y14.ann Y14.body Q
def Y14.p0 (Q:AV→aA→Prop) (x0:AV) (x4:Int) (x5:Bool) (x6 x7:Int) (x74:Bool) (h:aA):Prop:=Y14.J Q 1 [(0,x0),(4,(AV.i .i64 x4)),(5,(AV.b x5)),(6,(AV.i .i64 x6)),(7,(AV.i .i64 x7)),(74,(AV.b x74))] h
def Y14.p1 (Q:AV→aA→Prop) (x0:AV) (x4:Int) (x5:Bool) (x6:Int) (h:aA):Prop:=Y14.J Q 2 [(0,x0),(4,(AV.i .i64 x4)),(5,(AV.b x5)),(6,(AV.i .i64 x6))] h
def Y14.t0 (Q:AV→aA→Prop) (x0:AV) (x4:Int) (x5:Bool) (x6 x7:Int) (x74:Bool) (h:aA) (J:JT):Prop:=
(bif x74 then
(aZ x0 fun v63=>
aC 32 v63 fun v64=>
aB v64 h fun v65=>
aZ x0 fun v66=>
aC 33 v66 fun v67=>
bG 16 1 v67 (AV.i .i64 x7) fun v68=>
aB v68 h fun v69=>
asI .i64 v69 fun n70=>
aZ x0 fun v71=>
aC 50 v71 fun v72=>
aB v72 h fun v73=>
asI .i64 v73 fun n74=>
aN (IntKind.wrap .i64 (n70+n74)) fun n75=>
aZ x0 fun v76=>
aC 0 v76 fun v77=>
aC 16 v77 fun v78=>
bG 16 1 v78 (AV.i .i64 x7) fun v79=>
aB v79 h fun v80=>
asI .i64 v80 fun n81=>
aN (IntKind.wrap .i64 (n75 - n81)) fun n82=>
aW 1 v65 (AV.i .i64 n82) h fun v83=>
aB v83 h fun v84=>
asI .i64 v84 fun n85=>
J 2 [(0,x0),(4,(AV.i .i64 n85)),(5,(AV.b true)),(6,(AV.i .i64 x6))] h)
else
(aZ x0 fun v87=>
aC 49 v87 fun v88=>
aB v88 h fun v89=>
asI .i64 v89 fun n90=>
(bif (decide ((x7:Int)<n90)) then
(Q (AV.tu [(AV.i .i64 0),(AV.b false),(AV.i .i64 0)]) h)
else
(J 2 [(0,x0),(4,(AV.i .i64 x4)),(5,(AV.b x5)),(6,(AV.i .i64 2))] h))))
theorem Y14.i0 {Q x0 x4 x5 x6 x7 x74 h} (H:Y14.t0 Q x0 x4 x5 x6 x7 x74 h (Y14.J Q)):Y14.p0 Q x0 x4 x5 x6 x7 x74 h:=gR Y14.J Tryd.f75 Y14.dist [1,1,1,0,1,1] H
def Y14.t1 (Q:AV→aA→Prop) (x0:AV) (x4:Int) (x5:Bool) (x6:Int) (h:aA) (J:JT):Prop:=
aZ x0 fun v94=>
aC 50 v94 fun v95=>
aU 1 v95 (AV.i .i64 0) h fun h96=>
aZ x0 fun v97=>
aC 51 v97 fun v98=>
aU 1 v98 (AV.i .i64 0) h96 fun h99=>
Q (AV.tu [(AV.i .i64 x4),(AV.b x5),(AV.i .i64 x6)]) h99
theorem Y14.i1 {Q x0 x4 x5 x6 h} (H:Y14.t1 Q x0 x4 x5 x6 h (Y14.J Q)):Y14.p1 Q x0 x4 x5 x6 h:=gR Y14.J Tryd.f75 Y14.dist [1,1,1,1] H
def Y14.t (Q:AV→aA→Prop) (x0:AV) (x1:Int) (h:aA) (J:JT):Prop:=
dT prog .eql 44 x0 (AV.p none) fun v1=>
asB v1 fun c2=>
(bif c2 then
(Q (AV.tu [(AV.i .i64 0),(AV.b false),(AV.i .i64 6)]) h)
else
(aZ x0 fun v6=>
aC 50 v6 fun v7=>
aB v7 h fun v8=>
asI .i64 v8 fun n9=>
nY .i64 n9 1 fun n10=>
aN (bQ .or .i64 n10 (bQ .and .i64 x1 1)) fun n11=>
aZ x0 fun v12=>
aC 51 v12 fun v13=>
aB v13 h fun v14=>
asI .i64 v14 fun n15=>
aN (IntKind.wrap .i64 (n15+1)) fun n16=>
aZ x0 fun v17=>
aC 50 v17 fun v18=>
aU 1 v18 (AV.i .i64 n11) h fun h19=>
aZ x0 fun v20=>
aC 51 v20 fun v21=>
aU 1 v21 (AV.i .i64 n16) h19 fun h22=>
aZ x0 fun v24=>
aC 51 v24 fun v25=>
aB v25 h22 fun v26=>
asI .i64 v26 fun n27=>
aZ x0 fun v29=>
aC 49 v29 fun v30=>
aB v30 h22 fun v31=>
asI .i64 v31 fun n32=>
(bif (decide ((n27:Int)≤n32)) then
(aZ x0 fun v33=>
aC 50 v33 fun v34=>
aB v34 h22 fun v35=>
asI .i64 v35 fun n36=>
aZ x0 fun v37=>
aC 0 v37 fun v38=>
aC 16 v38 fun v39=>
bG 16 1 v39 (AV.i .i64 n27) fun v40=>
aB v40 h22 fun v41=>
asI .i64 v41 fun n42=>
aN (IntKind.wrap .i64 (n36 - n42)) fun n43=>
aZ x0 fun v44=>
aC 0 v44 fun v45=>
aC 0 v45 fun v46=>
bG 16 1 v46 (AV.i .i64 n27) fun v47=>
aB v47 h22 fun v48=>
asI .i64 v48 fun n49=>
(bif (decide ((n43:Int)<n49)) then
(aZ x0 fun v50=>
aC 50 v50 fun v51=>
aB v51 h22 fun v52=>
asI .i64 v52 fun n53=>
aZ x0 fun v54=>
aC 0 v54 fun v55=>
aC 16 v55 fun v56=>
bG 16 1 v56 (AV.i .i64 n27) fun v57=>
aB v57 h22 fun v58=>
asI .i64 v58 fun n59=>
J 1 [(0,x0),(4,(AV.i .i64 0)),(5,(AV.b false)),(6,(AV.i .i64 0)),(7,(AV.i .i64 n27)),(74,(AV.b (decide ((n59:Int)≤n53))))] h22)
else
(J 1 [(0,x0),(4,(AV.i .i64 0)),(5,(AV.b false)),(6,(AV.i .i64 0)),(7,(AV.i .i64 n27)),(74,(AV.b false))] h22)))
else
(J 1 [(0,x0),(4,(AV.i .i64 0)),(5,(AV.b false)),(6,(AV.i .i64 0)),(7,(AV.i .i64 n27)),(74,(AV.b false))] h22))))
theorem Y14.call {K x0 x1 h} (H:Y14.t (aK h K) x0 x1 h (Y14.J (aK h K))):C Y14.id [x0,(AV.i .i64 x1)] h K:=
 gC Y14.J Tryd.func75 Y14.dist H
end Go.Proofs.YtpaphfeihpgamaaDoor
