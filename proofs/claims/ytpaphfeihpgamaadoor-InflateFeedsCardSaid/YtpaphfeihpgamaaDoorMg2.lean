/- Lemmas (several texts in one). -/
import Derived.Test.YtpaphfeihpgamaaDoorProg
import Derived.KernelRfl
import Derived.Test.YtpaphfeihpgamaaDoorMg1
set_option linter.unusedVariables false
set_option linter.unusedSectionVars false
set_option maxRecDepth 100000
namespace Go.Proofs.YtpaphfeihpgamaaDoor
open Go.GAM
noncomputable abbrev prog:Program:=Tryd.prog
class XR where
 X:aZ
abbrev X [XR]:aZ:=XR.X
abbrev C [XR]:aZ:=dW prog X
abbrev lf:Ann:=.leaf
def nn:Nat→Nat→Go.GAM.Ord→Go.GAM.Ord
 | _,0,o=>o
 | i,k+1,o=>.neu i (nn (i+1) k o)
abbrev bl:Ann:=.br .leaf .leaf
abbrev sl (l:List Nat) (x:Ann):Ann:=.seq 0 l .leaf x
abbrev sq (l:List Nat) (x y:Ann):Ann:=.seq 0 l x y
theorem gR [XR] {ann:Ann} {body:Code} (J:(AV→aA→Prop)→JT) (fn:Func) (hd:aI (places ann body)=true) {Q:AV→aA→Prop} {k:Nat} (p:List Nat) {e:Env} {h:aA} {a:JT→Prop} (H:a (J Q)) (hJ:J=bH prog C fn ann body:=by exact rfl) (hl:jJ (places ann body) k=some (p,false):=by kernel_rfl) (he:∀ j,a j=atJ prog C fn.ntmps j false p ann body e h (pE prog fn Q):=by intro j; kernel_rfl):J Q k e h:=by
 subst hJ
 exact aFQ (hH X) hd hl (he _ ▸ H)
theorem gH [XR] {ann:Ann} {body:Code} (J:(AV→aA→Prop)→JT) (fn:Func) (hd:aI (places ann body)=true) {Q:AV→aA→Prop} {k:Nat} (p:List Nat) {e:Env} {h:aA} {a:JT→Prop} (H:a (J Q)) (hJ:J=bH prog C fn ann body:=by exact rfl) (hl:jJ (places ann body) k=some (p,true):=by kernel_rfl) (he:∀ j,a j=atJ prog C fn.ntmps j true p ann body e h (pE prog fn Q):=by intro j; kernel_rfl):J Q k e h:=by
 subst hJ
 exact aC8 (hH X) hd hl (he _ ▸ H)
theorem gC [XR] {f:FuncId} {fn:Func} {ann:Ann} {body:Code} (J:(AV→aA→Prop)→JT) (hf:prog.funcs[f]? = some fn) (hd:aI (places ann body)=true) {args:List AV} {h:aA} {K:AV→aA→Prop} {a:JT→Prop} (H:a (J (aH h K))) (hJ:J=bH prog C fn ann body:=by exact rfl) (hb:fn.body=some body:=by kernel_rfl) (hn:(fn.name == "runtime.NumGoroutine")=false:=by kernel_rfl) (ha:Nat.ble args.length fn.ntmps=true:=by kernel_rfl) (he:∀ j,a j=exJ prog C fn.ntmps j ann body (eL 0 args) h (pE prog fn (aH h K)):=by intro j; kernel_rfl):C f args h K:=by
 subst hJ
 exact aID hf hb hn hd ha (he _ ▸ H)
abbrev Y21.id:FuncId:=7
abbrev Y36.id:FuncId:=9
abbrev Y61.id:FuncId:=10
abbrev Y29.id:FuncId:=12
abbrev Y59.id:FuncId:=14
abbrev Y56.id:FuncId:=16
abbrev Y1.id:FuncId:=17
abbrev Y37.id:FuncId:=18
abbrev Y80.id:FuncId:=19
abbrev Y32.id:FuncId:=20
abbrev Y63.id:FuncId:=21
abbrev Y62.id:FuncId:=22
abbrev Y57.id:FuncId:=23
abbrev Y67.id:FuncId:=25
abbrev Y9.id:FuncId:=26
abbrev Y42.id:FuncId:=27
abbrev Y40.id:FuncId:=28
abbrev Y77.id:FuncId:=29
abbrev Y19.id:FuncId:=30
abbrev Y17.id:FuncId:=31
abbrev Y20.id:FuncId:=32
abbrev Y15.id:FuncId:=33
abbrev Y72.id:FuncId:=37
abbrev Y70.id:FuncId:=38
abbrev Y65.id:FuncId:=41
abbrev Y50.id:FuncId:=42
abbrev Y3.id:FuncId:=43
abbrev Y22.id:FuncId:=44
abbrev Y23.id:FuncId:=45
abbrev Y16.id:FuncId:=50
abbrev Y33.id:FuncId:=51
abbrev Y55.id:FuncId:=52
abbrev Y24.id:FuncId:=53
abbrev Y26.id:FuncId:=54
abbrev Y12.id:FuncId:=55
abbrev Y4.id:FuncId:=56
abbrev Y2.id:FuncId:=57
abbrev Y79.id:FuncId:=58
abbrev Y31.id:FuncId:=59
abbrev Y0.id:FuncId:=60
abbrev Y39.id:FuncId:=61
abbrev Y44.id:FuncId:=62
abbrev Y6.id:FuncId:=63
abbrev Y27.id:FuncId:=64
abbrev Y52.id:FuncId:=65
abbrev Y49.id:FuncId:=66
abbrev Y45.id:FuncId:=67
abbrev Y47.id:FuncId:=68
abbrev Y8.id:FuncId:=69
abbrev Y43.id:FuncId:=70
abbrev Y86.id:FuncId:=71
abbrev Y68.id:FuncId:=72
abbrev Y69.id:FuncId:=73
abbrev Y88.id:FuncId:=74
abbrev Y25.id:FuncId:=75
abbrev Y10.id:FuncId:=79
abbrev Y14.id:FuncId:=80
abbrev Y34.id:FuncId:=81
abbrev Y48.id:FuncId:=82
abbrev Y30.id:FuncId:=83
abbrev Y7.id:FuncId:=84
abbrev Y46.id:FuncId:=85
abbrev Y94.id:FuncId:=86
abbrev Y93.id:FuncId:=87
abbrev Y71.id:FuncId:=88
abbrev Y90.id:FuncId:=89
abbrev Y76.id:FuncId:=90
abbrev Y81.id:FuncId:=91
abbrev Y60.id:FuncId:=92
abbrev Y64.id:FuncId:=93
abbrev Y85.id:FuncId:=94
abbrev Y83.id:FuncId:=95
abbrev Y73.id:FuncId:=96
abbrev Y66.id:FuncId:=97
abbrev Y11.id:FuncId:=100
abbrev Y18.id:FuncId:=101
abbrev Y91.id:FuncId:=104
abbrev Y41.id:FuncId:=105
abbrev Y74.id:FuncId:=106
abbrev Y28.id:FuncId:=107
abbrev Y13.id:FuncId:=108
abbrev Y51.id:FuncId:=109
abbrev Y54.id:FuncId:=110
abbrev Y82.id:FuncId:=111
abbrev Y92.id:FuncId:=112
abbrev Y53.id:FuncId:=113
abbrev Y75.id:FuncId:=114
abbrev Y78.id:FuncId:=115
abbrev Y89.id:FuncId:=116
abbrev Y84.id:FuncId:=117
abbrev Y35.id:FuncId:=118
abbrev Y58.id:FuncId:=119
abbrev Y87.id:FuncId:=120
abbrev Y38.id:FuncId:=121
variable [XR]
noncomputable def Y36.body:Code:=(Tryd.f9.body).getD .skip
def Y36.ann:Ann:=(sl [] (sl [1,2] (sl [1,2,4] (.seq 1 [0] lf lf))))
theorem Y36.dist:aI (places Y36.ann Y36.body)=true:=by kernel_rfl
noncomputable def Y36.J (Q:AV→aA→Prop):JT:=bH prog C Tryd.f9 Y36.ann Y36.body Q
def Y36.p0 (Q:AV→aA→Prop) (x0:Bool) (h:aA):Prop:=Y36.J Q 1 [(0,(AV.b x0))] h
def Y36.t0 (Q:AV→aA→Prop) (x0:Bool) (h:aA) (J:JT):Prop:=
Q (AV.b x0) h
theorem Y36.i0 {Q x0 h} (H:Y36.t0 Q x0 h (Y36.J Q)):Y36.p0 Q x0 h:=gR Y36.J Tryd.f9 Y36.dist [1,1,1,1] H
def Y36.t (Q:AV→aA→Prop) (h:aA) (J:JT):Prop:=
C Y67.id [] h fun v1 h2=>
C Y61.id [(AV.s [75,4,0]),v1] h2 fun v3 h4=>
aO 0 v3 fun v5=>
asS v5 fun l6=>
aO 1 v3 fun v7=>
asI .i64 v7 fun n8=>
C Y67.id [] h4 fun v10 h11=>
C Y61.id [(AV.s [75,4]),v10] h11 fun v12 h13=>
aO 0 v12 fun v14=>
asS v14 fun l15=>
aO 1 v12 fun v16=>
asI .i64 v16 fun n17=>
(bif (decide ((l6:List UInt8)=[97])) then
((bif (decide ((n8:Int)=0)) then
((bif (decide ((n17:Int)=1)) then
(C Y29.id [(AV.s [97])] h13 fun v19 h20=>
asS v19 fun l21=>
(bif (decide ((l21:List UInt8)=[1,1,0,254,255,97])) then
(C Y59.id [(AV.s [97])] h20 fun v22 h23=>
asS v22 fun l24=>
(bif (decide ((l24:List UInt8)=[75,4,0])) then
(C Y59.id [(AV.s [97,97,97,97,97,97])] h23 fun v25 h26=>
asS v25 fun l27=>
J 1 [(0,(AV.b (decide ((l27:List UInt8)=[75,4,3,0]))))] h26)
else
(J 1 [(0,(AV.b false))] h23)))
else
(J 1 [(0,(AV.b false))] h20)))
else
(J 1 [(0,(AV.b false))] h13)))
else
(J 1 [(0,(AV.b false))] h13)))
else
(J 1 [(0,(AV.b false))] h13))
theorem Y36.call {K h} (H:Y36.t (aH h K) h (Y36.J (aH h K))):C Y36.id [] h K:=
 gC Y36.J Tryd.func9 Y36.dist H
noncomputable def Y61.body:Code:=(Tryd.f10.body).getD .skip
def Y61.ann:Ann:=(sl [0,3] (sl [0,6] (sl [6,7,8] (sq [7] (.one (sl [6,7,8,17] (.br (sl [4,5] lf) (sl [6,7,21] (.br (sl [4,5] lf) (sl [7,27] (.br (sl [4,5] lf) lf))))))) (sl [4,5] lf)))))
theorem Y61.dist:aI (places Y61.ann Y61.body)=true:=by kernel_rfl
noncomputable def Y61.J (Q:AV→aA→Prop):JT:=bH prog C Tryd.f10 Y61.ann Y61.body Q
def Y61.t (Q:AV→aA→Prop) (x0:List UInt8) (x1:AV) (h:aA) (J:JT):Prop:=
dC (some 23) x1 h fun v0 h1=>
dA 2 v0 h1 fun v3=>
C Y56.id [v3] h1 fun v4 h5=>
C Y1.id [v4,(AV.s x0)] h5 fun v7 h8=>
aO 0 v7 fun v9=>
asS v9 fun l10=>
aO 1 v7 fun v11=>
asI .i64 v11 fun n12=>
(bif (!decide ((n12:Int)=0)) then
(Q (AV.tu [(AV.s []),(AV.i .i64 n12)]) h8)
else
(aS v4 fun v16=>
aB 7 v16 fun v17=>
aD v17 h8 fun v18=>
asB v18 fun c19=>
(bif (!c19) then
(Q (AV.tu [(AV.s []),(AV.i .i64 1)]) h8)
else
(aS v4 fun v22=>
aB 10 v22 fun v23=>
aD v23 h8 fun v24=>
asS v24 fun l25=>
(bif (!(decide ((l25:List UInt8)=[]))) then
(Q (AV.tu [(AV.s []),(AV.i .i64 2)]) h8)
else
(Q (AV.tu [(AV.s l10),(AV.i .i64 0)]) h8))))))
theorem Y61.call {K x0 x1 h} (H:Y61.t (aH h K) x0 x1 h (Y61.J (aH h K))):C Y61.id [(AV.s x0),x1] h K:=
 gC Y61.J Tryd.func10 Y61.dist H
noncomputable def Y29.body:Code:=(Tryd.f12.body).getD .skip
def Y29.ann:Ann:=(sl [0] (sl [0,3] (.one (.loop 1 [0,3] (.one (sl [0,3,4] (sl [0,3,4,5] (.seq 2 [0,3,4,5] (sl [0,3,4,5,12] bl) (sl [0,3,4,5] (sl [0,3,4,5] (sl [0,3,5] (sl [0,3,36] (.br (sl [2] lf) lf)))))))))))))
theorem Y29.dist:aI (places Y29.ann Y29.body)=true:=by kernel_rfl
noncomputable def Y29.J (Q:AV→aA→Prop):JT:=bH prog C Tryd.f12 Y29.ann Y29.body Q
def Y29.p1 (Q:AV→aA→Prop) (x0:List UInt8) (x3:AV) (x4 x5:Int) (h:aA):Prop:=Y29.J Q 2 [(0,(AV.s x0)),(3,x3),(4,(AV.i .i64 x4)),(5,(AV.i .u8 x5))] h
def Y29.p0 (Q:AV→aA→Prop) (x0:List UInt8) (x3:AV) (h:aA):Prop:=Y29.J Q 1 [(0,(AV.s x0)),(3,x3)] h
def Y29.t1 (Q:AV→aA→Prop) (x0:List UInt8) (x3:AV) (x4 x5:Int) (h:aA) (J:JT):Prop:=
kZ .i64 x4 8 fun n10=>
aJ (bO .xor .u8 (IntKind.max .u8) (IntKind.wrap .u8 x4)) fun n11=>
kZ .i64 x4 8 fun n12=>
aJ (bO .xor .u8 (IntKind.max .u8) (IntKind.wrap .u8 n12)) fun n13=>
bN 1 5 [(AV.i .u8 0),(AV.i .u8 0),(AV.i .u8 0),(AV.i .u8 0),(AV.i .u8 0)] [(0,1,(AV.i .u8 x5)),(1,1,(AV.i .u8 (IntKind.wrap .u8 x4))),(2,1,(AV.i .u8 (IntKind.wrap .u8 n10))),(3,1,(AV.i .u8 n11)),(4,1,(AV.i .u8 n13))] h fun v14 h15=>
C Y42.id [x3,v14] h15 fun v16 h17=>
b7 (AV.s x0) none (some (AV.i .i64 x4)) fun l19=>
C Y40.id [x3,(AV.s l19)] h17 fun v20 h21=>
b7 (AV.s x0) (some (AV.i .i64 x4)) none fun l23=>
(bif (decide ((x5:Int)=1)) then
(C Y77.id [x3] h21 fun v26 h27=>
asS v26 fun l28=>
Q (AV.s l28) h27)
else
(J 1 [(0,(AV.s l23)),(3,x3)] h21))
theorem Y29.i1 {Q x0 x3 x4 x5 h} (H:Y29.t1 Q x0 x3 x4 x5 h (Y29.J Q)):Y29.p1 Q x0 x3 x4 x5 h:=gR Y29.J Tryd.f12 Y29.dist [1,1,0,0,0,1,1,1] H
def Y29.t0 (Q:AV→aA→Prop) (x0:List UInt8) (x3:AV) (h:aA) (J:JT):Prop:=
aJ (mmI false (x0.length:Int) 65535) fun n4=>
(bif (decide ((n4:Int)=(x0.length:Int))) then
(J 2 [(0,(AV.s x0)),(3,x3),(4,(AV.i .i64 n4)),(5,(AV.i .u8 1))] h)
else
(J 2 [(0,(AV.s x0)),(3,x3),(4,(AV.i .i64 n4)),(5,(AV.i .u8 0))] h))
theorem Y29.i0 {Q x0 x3 h} (H:Y29.t0 Q x0 x3 h (Y29.J Q)):Y29.p0 Q x0 x3 h:=gH Y29.J Tryd.f12 Y29.dist [1,1,0] H
def Y29.t (Q:AV→aA→Prop) (x0:List UInt8) (h:aA) (J:JT):Prop:=
dF (some 53) [(AV.sl none 0 none),(AV.i .i64 0),(AV.i .i8 0)] h fun v1 h2=>
J 1 [(0,(AV.s x0)),(3,v1)] h2
theorem Y29.call {K x0 h} (H:Y29.t (aH h K) x0 h (Y29.J (aH h K))):C Y29.id [(AV.s x0)] h K:=
 gC Y29.J Tryd.func12 Y29.dist H
noncomputable def Y59.body:Code:=(Tryd.f14.body).getD .skip
def Y59.ann:Ann:=(sl [0] (sl [0,3] (sl [0,3] (sl [0,3,4,5] (sl [3] (sl [2] lf))))))
theorem Y59.dist:aI (places Y59.ann Y59.body)=true:=by kernel_rfl
noncomputable def Y59.J (Q:AV→aA→Prop):JT:=bH prog C Tryd.f14 Y59.ann Y59.body Q
def Y59.t (Q:AV→aA→Prop) (x0:List UInt8) (h:aA) (J:JT):Prop:=
dC (some 62) (AV.ag [(AV.sl none 0 none),(AV.i .i64 0)]) h fun v1 h2=>
C Y19.id [v1,(AV.i .i64 3),(AV.i .i64 3)] h2 fun v4 h5=>
C Y17.id [] h5 fun v7 h8=>
aO 0 v7 fun v9=>
aO 1 v7 fun v10=>
C Y15.id [(AV.s x0)] h8 fun v12 h13=>
C Y20.id [v1,v12,v9,v10] h13 fun v14 h15=>
aS v1 fun v17=>
aB 0 v17 fun v18=>
aD v18 h15 fun v19=>
cJ v19 h15 fun l20=>
Q (AV.s l20) h15
theorem Y59.call {K x0 h} (H:Y59.t (aH h K) x0 h (Y59.J (aH h K))):C Y59.id [(AV.s x0)] h K:=
 gC Y59.J Tryd.func14 Y59.dist H
noncomputable def Y56.body:Code:=(Tryd.f16.body).getD .skip
def Y56.ann:Ann:=(sl [1] (sq [3] (.ord (nn 0 2 (nn 3 2 (.eff 2 (.eff 5 (nn 6 2 (.eff 8 (.neu 9 .done) .stop)) .stop) .stop)))) (sl [3] (sl [2] lf))))
theorem Y56.dist:aI (places Y56.ann Y56.body)=true:=by kernel_rfl
noncomputable def Y56.J (Q:AV→aA→Prop):JT:=bH prog C Tryd.f16 Y56.ann Y56.body Q
def Y56.t (Q:AV→aA→Prop) (x0:AV) (h:aA) (J:JT):Prop:=
dC (some 23) x0 h fun v0 h1=>
aB 0 v0 fun v3=>
aD v3 h1 fun v4=>
asI .i64 v4 fun n5=>
aB 1 v0 fun v6=>
aD v6 h1 fun v7=>
asI .i64 v7 fun n8=>
C Y65.id [(AV.i .i64 n5),(AV.i .i64 0),(AV.i .i64 65536)] h1 fun v9 h10=>
asI .i64 v9 fun n11=>
aD v6 h10 fun v12=>
asI .i64 v12 fun n13=>
((AV.i .i64 n8)=(AV.i .i64 n13) ∧
(C Y65.id [(AV.i .i64 n8),(AV.i .i64 1),(AV.i .i64 1100)] h10 fun v14 h15=>
asI .i64 v14 fun n16=>
fY [(AV.i .i64 0),(AV.i .i64 0),(AV.sl none 0 none),(AV.i .i64 0),(AV.sl none 0 none),(AV.i .i64 0),(AV.b false),(AV.b false),(AV.b false),(AV.b false),(AV.s []),(AV.i .i64 0),(AV.i .i64 0),(AV.i .i64 0),(AV.p none),AV.nf] [(0,2,(AV.ag [(AV.i .i64 n11),(AV.i .i64 n16)]))] fun v17=>
dC (some 47) v17 h15 fun v18 h19=>
C Y50.id [v18] h19 fun v21 h22=>
asI .i64 v21 fun n23=>
Q v18 h22))
theorem Y56.call {K x0 h} (H:Y56.t (aH h K) x0 h (Y56.J (aH h K))):C Y56.id [x0] h K:=
 gC Y56.J Tryd.func16 Y56.dist H
noncomputable def Y1.body:Code:=(Tryd.f17.body).getD .skip
def Y1.ann:Ann:=(sl [0,1] (sq [0,1] (.one (sl [0,1,9] (.br (sl [4,5] lf) (.seq 1 [0,1,12] lf (.br (sl [4,5] lf) lf))))) (sl [0,1] (.seq 5 [0] (sl [0,1,27,28] (.one (.loop 2 [0,1,27,28] (sl [0,1,27,28,29] (sq [0,1,27,28] bl (sq [0,1,27,28] (.one (sl [0,1,6,27,28] (sl [0,1,6,27,28] (sl [0,1,6,27,28] (sq [0,1,6,27,28] (sl [0,1,6,7,27,28] (.one (.loop 3 [0,1,6,7,27,28] (sq [0,1,6,7,27,28] (.seq 4 [0,1,6,7,27,28,56] lf bl) (sq [0,1,6,7,27,28] (.one (sl [0,1,6,7,8,27,28] (sl [0,1,6,7,8,27,28,69] (.br (sl [0,8] (sl [4,5] lf)) lf)))) lf))))) (sl [0,1,6,27,28,82] (.br (sl [0] lf) lf))))))) lf)))))) (sl [4,5] lf)))))
theorem Y1.dist:aI (places Y1.ann Y1.body)=true:=by kernel_rfl
noncomputable def Y1.J (Q:AV→aA→Prop):JT:=bH prog C Tryd.f17 Y1.ann Y1.body Q
def Y1.p0 (Q:AV→aA→Prop) (x0:AV) (x1:List UInt8) (x12:Bool) (h:aA):Prop:=Y1.J Q 1 [(0,x0),(1,(AV.s x1)),(12,(AV.b x12))] h
def Y1.p3 (Q:AV→aA→Prop) (x0:AV) (x1:List UInt8) (x6 x7 x27 x28:Int) (x56:Bool) (h:aA):Prop:=Y1.J Q 4 [(0,x0),(1,(AV.s x1)),(6,(AV.i .i64 x6)),(7,(AV.i .i64 x7)),(27,(AV.i .i64 x27)),(28,(AV.i .i64 x28)),(56,(AV.b x56))] h
def Y1.p2 (Q:AV→aA→Prop) (x0:AV) (x1:List UInt8) (x6 x7 x27 x28:Int) (h:aA):Prop:=Y1.J Q 3 [(0,x0),(1,(AV.s x1)),(6,(AV.i .i64 x6)),(7,(AV.i .i64 x7)),(27,(AV.i .i64 x27)),(28,(AV.i .i64 x28))] h
def Y1.p1 (Q:AV→aA→Prop) (x0:AV) (x1:List UInt8) (x27 x28:Int) (h:aA):Prop:=Y1.J Q 2 [(0,x0),(1,(AV.s x1)),(27,(AV.i .i64 x27)),(28,(AV.i .i64 x28))] h
def Y1.p4 (Q:AV→aA→Prop) (x0:AV) (h:aA):Prop:=Y1.J Q 5 [(0,x0)] h
def Y1.t0 (Q:AV→aA→Prop) (x0:AV) (x1:List UInt8) (x12:Bool) (h:aA) (J:JT):Prop:=
(bif x12 then
(Q (AV.tu [(AV.s []),(AV.i .i64 10)]) h)
else
(aS x0 fun v17=>
aB 4 v17 fun v18=>
aT 1 v18 (AV.sl none 0 none) h fun h19=>
J 2 [(0,x0),(1,(AV.s x1)),(27,(AV.i .i64 (x1.length:Int))),(28,(AV.i .i64 0))] h19))
theorem Y1.i0 {Q x0 x1 x12 h} (H:Y1.t0 Q x0 x1 x12 h (Y1.J Q)):Y1.p0 Q x0 x1 x12 h:=gR Y1.J Tryd.f17 Y1.dist [1,0,0,1,1,1] H
def Y1.t3 (Q:AV→aA→Prop) (x0:AV) (x1:List UInt8) (x6 x7 x27 x28:Int) (x56:Bool) (h:aA) (J:JT):Prop:=
(bif x56 then
(e6 (AV.s x1) (AV.i .i64 x6) fun n53=>
kZ .i64 (IntKind.wrap .i64 n53) x7 fun n54=>
C Y3.id [x0,(AV.i .i64 (bO .and .i64 n54 1))] h fun v55 h56=>
asI .i64 v55 fun n57=>
(bif (!decide ((n57:Int)=0)) then
(aS x0 fun v60=>
aB 8 v60 fun v61=>
aT 1 v61 (AV.b true) h56 fun h62=>
aS x0 fun v64=>
aB 4 v64 fun v65=>
aD v65 h62 fun v66=>
cJ v66 h62 fun l67=>
Q (AV.tu [(AV.s l67),(AV.i .i64 n57)]) h62)
else
(aJ (IntKind.wrap .i64 (x7+1)) fun n70=>
J 3 [(0,x0),(1,(AV.s x1)),(6,(AV.i .i64 x6)),(7,(AV.i .i64 n70)),(27,(AV.i .i64 x27)),(28,(AV.i .i64 x28))] h56)))
else
(aS x0 fun v72=>
aB 7 v72 fun v73=>
aD v73 h fun v74=>
asB v74 fun c75=>
(bif c75 then
(aJ (IntKind.wrap .i64 (x6+1)) fun n77=>
b7 (AV.s x1) (some (AV.i .i64 n77)) none fun l78=>
aS x0 fun v79=>
aB 10 v79 fun v80=>
aT 1 v80 (AV.s l78) h fun h81=>
J 5 [(0,x0)] h81)
else
(aJ (IntKind.wrap .i64 (x28+1)) fun n85=>
J 2 [(0,x0),(1,(AV.s x1)),(27,(AV.i .i64 x27)),(28,(AV.i .i64 n85))] h))))
theorem Y1.i3 {Q x0 x1 x6 x7 x27 x28 x56 h} (H:Y1.t3 Q x0 x1 x6 x7 x27 x28 x56 h (Y1.J Q)):Y1.p3 Q x0 x1 x6 x7 x27 x28 x56 h:=gR Y1.J Tryd.f17 Y1.dist [1,1,1,0,1,0,0,1,1,0,0,1,1,1,0,1,0,0,0,1] H
def Y1.t2 (Q:AV→aA→Prop) (x0:AV) (x1:List UInt8) (x6 x7 x27 x28:Int) (h:aA) (J:JT):Prop:=
(bif (decide ((x7:Int)<8)) then
(aS x0 fun v40=>
aB 9 v40 fun v41=>
aD v41 h fun v42=>
asB v42 fun c43=>
(bif (!c43) then
(aS x0 fun v44=>
aB 7 v44 fun v45=>
aD v45 h fun v46=>
asB v46 fun c47=>
J 4 [(0,x0),(1,(AV.s x1)),(6,(AV.i .i64 x6)),(7,(AV.i .i64 x7)),(27,(AV.i .i64 x27)),(28,(AV.i .i64 x28)),(56,(AV.b (!c47)))] h)
else
(J 4 [(0,x0),(1,(AV.s x1)),(6,(AV.i .i64 x6)),(7,(AV.i .i64 x7)),(27,(AV.i .i64 x27)),(28,(AV.i .i64 x28)),(56,(AV.b false))] h)))
else
(J 4 [(0,x0),(1,(AV.s x1)),(6,(AV.i .i64 x6)),(7,(AV.i .i64 x7)),(27,(AV.i .i64 x27)),(28,(AV.i .i64 x28)),(56,(AV.b false))] h))
theorem Y1.i2 {Q x0 x1 x6 x7 x27 x28 h} (H:Y1.t2 Q x0 x1 x6 x7 x27 x28 h (Y1.J Q)):Y1.p2 Q x0 x1 x6 x7 x27 x28 h:=gH Y1.J Tryd.f17 Y1.dist [1,1,1,0,1,0,0,1,1,0,0,1,1,1,0,1,0] H
def Y1.t1 (Q:AV→aA→Prop) (x0:AV) (x1:List UInt8) (x27 x28:Int) (h:aA) (J:JT):Prop:=
(bif (decide ((x28:Int)<x27)) then
(aS x0 fun v26=>
aB 5 v26 fun v27=>
aD v27 h fun v28=>
asI .i64 v28 fun n29=>
aJ (IntKind.wrap .i64 (n29+1)) fun n30=>
aS x0 fun v31=>
aB 5 v31 fun v32=>
aT 1 v32 (AV.i .i64 n30) h fun h33=>
aS x0 fun v35=>
aB 9 v35 fun v36=>
aT 1 v36 (AV.b false) h33 fun h37=>
J 3 [(0,x0),(1,(AV.s x1)),(6,(AV.i .i64 x28)),(7,(AV.i .i64 0)),(27,(AV.i .i64 x27)),(28,(AV.i .i64 x28))] h37)
else
(J 5 [(0,x0)] h))
theorem Y1.i1 {Q x0 x1 x27 x28 h} (H:Y1.t1 Q x0 x1 x27 x28 h (Y1.J Q)):Y1.p1 Q x0 x1 x27 x28 h:=gH Y1.J Tryd.f17 Y1.dist [1,1,1,0,1,0] H
def Y1.t4 (Q:AV→aA→Prop) (x0:AV) (h:aA) (J:JT):Prop:=
aS x0 fun v87=>
aB 4 v87 fun v88=>
aD v88 h fun v89=>
cJ v89 h fun l90=>
Q (AV.tu [(AV.s l90),(AV.i .i64 0)]) h
theorem Y1.i4 {Q x0 h} (H:Y1.t4 Q x0 h (Y1.J Q)):Y1.p4 Q x0 h:=gR Y1.J Tryd.f17 Y1.dist [1,1,1,1] H
def Y1.t (Q:AV→aA→Prop) (x0:AV) (x1:List UInt8) (h:aA) (J:JT):Prop:=
dS prog .eql 32 x0 (AV.p none) fun v1=>
asB v1 fun c2=>
(bif c2 then
(Q (AV.tu [(AV.s []),(AV.i .i64 6)]) h)
else
(aS x0 fun v5=>
aB 8 v5 fun v6=>
aD v6 h fun v7=>
asB v7 fun c8=>
(bif c8 then
(J 1 [(0,x0),(1,(AV.s x1)),(12,(AV.b true))] h)
else
(aS x0 fun v10=>
aB 7 v10 fun v11=>
aD v11 h fun v12=>
asB v12 fun c13=>
J 1 [(0,x0),(1,(AV.s x1)),(12,(AV.b c13))] h))))
theorem Y1.call {K x0 x1 h} (H:Y1.t (aH h K) x0 x1 h (Y1.J (aH h K))):C Y1.id [x0,(AV.s x1)] h K:=
 gC Y1.J Tryd.func17 Y1.dist H
noncomputable def Y37.body:Code:=(Tryd.f18.body).getD .skip
def Y37.ann:Ann:=(sl [0] (.seq 1 [2] lf lf))
theorem Y37.dist:aI (places Y37.ann Y37.body)=true:=by kernel_rfl
noncomputable def Y37.J (Q:AV→aA→Prop):JT:=bH prog C Tryd.f18 Y37.ann Y37.body Q
def Y37.p0 (Q:AV→aA→Prop) (x2:Bool) (h:aA):Prop:=Y37.J Q 1 [(2,(AV.b x2))] h
def Y37.t0 (Q:AV→aA→Prop) (x2:Bool) (h:aA) (J:JT):Prop:=
Q (AV.b x2) h
theorem Y37.i0 {Q x2 h} (H:Y37.t0 Q x2 h (Y37.J Q)):Y37.p0 Q x2 h:=gR Y37.J Tryd.f18 Y37.dist [1,1] H
def Y37.t (Q:AV→aA→Prop) (x0:AV) (h:aA) (J:JT):Prop:=
dS prog .neq 32 x0 (AV.p none) fun v1=>
asB v1 fun c2=>
(bif c2 then
(aS x0 fun v3=>
aB 7 v3 fun v4=>
aD v4 h fun v5=>
asB v5 fun c6=>
J 1 [(2,(AV.b c6))] h)
else
(J 1 [(2,(AV.b false))] h))
theorem Y37.call {K x0 h} (H:Y37.t (aH h K) x0 h (Y37.J (aH h K))):C Y37.id [x0] h K:=
 gC Y37.J Tryd.func18 Y37.dist H
noncomputable def Y80.body:Code:=(Tryd.f19.body).getD .skip
def Y80.ann:Ann:=(sl [1] (sl [2] lf))
theorem Y80.dist:aI (places Y80.ann Y80.body)=true:=by kernel_rfl
noncomputable def Y80.J (Q:AV→aA→Prop):JT:=bH prog C Tryd.f19 Y80.ann Y80.body Q
def Y80.t (Q:AV→aA→Prop) (x0:AV) (h:aA) (J:JT):Prop:=
dC (some 23) x0 h fun v0 h1=>
dA 2 v0 h1 fun v3=>
fY [(AV.i .i64 0),(AV.i .i64 0),(AV.s []),(AV.i .i64 0),(AV.b false),(AV.b false),(AV.s [])] [(0,2,v3)] fun v4=>
dC (some 80) v4 h1 fun v5 h6=>
Q v5 h6
theorem Y80.call {K x0 h} (H:Y80.t (aH h K) x0 h (Y80.J (aH h K))):C Y80.id [x0] h K:=
 gC Y80.J Tryd.func19 Y80.dist H
noncomputable def Y32.body:Code:=(Tryd.f20.body).getD .skip
def Y32.ann:Ann:=(sl [0,1] (sq [0,1] (.seq 1 [0,1,19] lf (.br (sl [4,5] lf) lf)) (sl [0] (sq [0,6,7,8] (.ord (nn 0 8 (.eff 8 (nn 9 7 .done) .stop))) (sl [0,6,7,8,9] (sl [0,7,8,9] (sq [0,7,8,9] (sl [0,7,8,9,54] (.br (sl [4,5] lf) lf)) (sq [0,8,9] (sl [0,7,8,9,57] (.br (sl [7,9] (sl [4,5] lf)) lf)) (sl [0,8,9] (sl [9] (sl [4,5] lf)))))))))))
theorem Y32.dist:aI (places Y32.ann Y32.body)=true:=by kernel_rfl
noncomputable def Y32.J (Q:AV→aA→Prop):JT:=bH prog C Tryd.f20 Y32.ann Y32.body Q
def Y32.p0 (Q:AV→aA→Prop) (x0:AV) (x1:List UInt8) (x19:Bool) (h:aA):Prop:=Y32.J Q 1 [(0,x0),(1,(AV.s x1)),(19,(AV.b x19))] h
def Y32.t0 (Q:AV→aA→Prop) (x0:AV) (x1:List UInt8) (x19:Bool) (h:aA) (J:JT):Prop:=
(bif x19 then
(Q (AV.tu [(AV.s []),(AV.i .i64 10)]) h)
else
(aS x0 fun v13=>
aB 2 v13 fun v14=>
aD v14 h fun v15=>
asS v15 fun l16=>
aH7 l16 x1 fun l17=>
aS x0 fun v18=>
aB 2 v18 fun v19=>
aT 1 v19 (AV.s l17) h fun h20=>
aS x0 fun v22=>
aB 2 v22 fun v23=>
aD v23 h20 fun v24=>
asS v24 fun l25=>
aS x0 fun v26=>
aB 0 v26 fun v27=>
dA 2 v27 h20 fun v28=>
C Y9.id [(AV.s l25),v28] h20 fun v29 h30=>
aO 0 v29 fun v31=>
asS v31 fun l32=>
aO 1 v29 fun v33=>
asI .i64 v33 fun n34=>
aO 2 v29 fun v35=>
asI .i64 v35 fun n36=>
aS x0 fun v38=>
aB 3 v38 fun v39=>
aD v39 h30 fun v40=>
asI .i64 v40 fun n41=>
b7 (AV.s l32) (some (AV.i .i64 n41)) none fun l42=>
aS x0 fun v44=>
aB 3 v44 fun v45=>
aT 1 v45 (AV.i .i64 (l32.length:Int)) h30 fun h46=>
(bif (decide ((n34:Int)=1)) then
(Q (AV.tu [(AV.s l42),(AV.i .i64 0)]) h46)
else
((bif (!decide ((n34:Int)=0)) then
(aS x0 fun v52=>
aB 5 v52 fun v53=>
aT 1 v53 (AV.b true) h46 fun h54=>
Q (AV.tu [(AV.s l42),(AV.i .i64 n34)]) h54)
else
(aS x0 fun v58=>
aB 4 v58 fun v59=>
aT 1 v59 (AV.b true) h46 fun h60=>
aS x0 fun v62=>
aB 2 v62 fun v63=>
aD v63 h60 fun v64=>
asS v64 fun l65=>
b7 (AV.s l65) (some (AV.i .i64 n36)) none fun l66=>
aS x0 fun v67=>
aB 6 v67 fun v68=>
aT 1 v68 (AV.s l66) h60 fun h69=>
Q (AV.tu [(AV.s l42),(AV.i .i64 0)]) h69))))))
theorem Y32.i0 {Q x0 x1 x19 h} (H:Y32.t0 Q x0 x1 x19 h (Y32.J Q)):Y32.p0 Q x0 x1 x19 h:=gR Y32.J Tryd.f20 Y32.dist [1,0,1] H
def Y32.t (Q:AV→aA→Prop) (x0:AV) (x1:List UInt8) (h:aA) (J:JT):Prop:=
aS x0 fun v1=>
aB 4 v1 fun v2=>
aD v2 h fun v3=>
asB v3 fun c4=>
(bif c4 then
(J 1 [(0,x0),(1,(AV.s x1)),(19,(AV.b true))] h)
else
(aS x0 fun v6=>
aB 5 v6 fun v7=>
aD v7 h fun v8=>
asB v8 fun c9=>
J 1 [(0,x0),(1,(AV.s x1)),(19,(AV.b c9))] h))
theorem Y32.call {K x0 x1 h} (H:Y32.t (aH h K) x0 x1 h (Y32.J (aH h K))):C Y32.id [x0,(AV.s x1)] h K:=
 gC Y32.J Tryd.func20 Y32.dist H
noncomputable def Y63.body:Code:=(Tryd.f21.body).getD .skip
def Y63.ann:Ann:=(sl [0] (sl [2] lf))
theorem Y63.dist:aI (places Y63.ann Y63.body)=true:=by kernel_rfl
noncomputable def Y63.J (Q:AV→aA→Prop):JT:=bH prog C Tryd.f21 Y63.ann Y63.body Q
def Y63.t (Q:AV→aA→Prop) (x0:AV) (h:aA) (J:JT):Prop:=
aS x0 fun v1=>
aB 4 v1 fun v2=>
aD v2 h fun v3=>
asB v3 fun c4=>
Q (AV.b c4) h
theorem Y63.call {K x0 h} (H:Y63.t (aH h K) x0 h (Y63.J (aH h K))):C Y63.id [x0] h K:=
 gC Y63.J Tryd.func21 Y63.dist H
noncomputable def Y62.body:Code:=(Tryd.f22.body).getD .skip
def Y62.ann:Ann:=(sl [0] (sq [0] (sl [0,4] (.br (sl [2] lf) lf)) (sl [2] lf)))
theorem Y62.dist:aI (places Y62.ann Y62.body)=true:=by kernel_rfl
noncomputable def Y62.J (Q:AV→aA→Prop):JT:=bH prog C Tryd.f22 Y62.ann Y62.body Q
def Y62.t (Q:AV→aA→Prop) (x0:AV) (h:aA) (J:JT):Prop:=
dS prog .eql 32 x0 (AV.p none) fun v1=>
asB v1 fun c2=>
(bif c2 then
(Q (AV.s []) h)
else
(aS x0 fun v6=>
aB 10 v6 fun v7=>
aD v7 h fun v8=>
asS v8 fun l9=>
Q (AV.s l9) h))
theorem Y62.call {K x0 h} (H:Y62.t (aH h K) x0 h (Y62.J (aH h K))):C Y62.id [x0] h K:=
 gC Y62.J Tryd.func22 Y62.dist H
noncomputable def Y57.body:Code:=(Tryd.f23.body).getD .skip
def Y57.ann:Ann:=(sl [0] (sl [2] lf))
theorem Y57.dist:aI (places Y57.ann Y57.body)=true:=by kernel_rfl
noncomputable def Y57.J (Q:AV→aA→Prop):JT:=bH prog C Tryd.f23 Y57.ann Y57.body Q
def Y57.t (Q:AV→aA→Prop) (x0:AV) (h:aA) (J:JT):Prop:=
aS x0 fun v1=>
aB 6 v1 fun v2=>
aD v2 h fun v3=>
asS v3 fun l4=>
Q (AV.s l4) h
theorem Y57.call {K x0 h} (H:Y57.t (aH h K) x0 h (Y57.J (aH h K))):C Y57.id [x0] h K:=
 gC Y57.J Tryd.func23 Y57.dist H
noncomputable def Y67.body:Code:=(Tryd.f25.body).getD .skip
def Y67.ann:Ann:=(sl [0] (sl [0] lf))
theorem Y67.dist:aI (places Y67.ann Y67.body)=true:=by kernel_rfl
noncomputable def Y67.J (Q:AV→aA→Prop):JT:=bH prog C Tryd.f25 Y67.ann Y67.body Q
def Y67.t (Q:AV→aA→Prop) (h:aA) (J:JT):Prop:=
dF (some 23) [(AV.i .i64 0),(AV.i .i64 0)] h fun v0 h1=>
aT 2 v0 (AV.ag [(AV.i .i64 65536),(AV.i .i64 1100)]) h1 fun h3=>
dA 2 v0 h3 fun v5=>
Q v5 h3
theorem Y67.call {K h} (H:Y67.t (aH h K) h (Y67.J (aH h K))):C Y67.id [] h K:=
 gC Y67.J Tryd.func25 Y67.dist H
noncomputable def Y9.body:Code:=(Tryd.f26.body).getD .skip
def Y9.ann:Ann:=(sl [0,3] (sq [7] (.ord (nn 0 3 (nn 4 2 (.eff 3 (.eff 6 (.neu 7 (.eff 8 (.neu 9 .done) .stop)) .stop) .stop)))) (sl [7,8] (.seq 3 [7] (.one (.loop 1 [7,8] (sq [7] (.seq 2 [7,27] lf bl) (.one (sl [7,8] (sl [7,8,9] (sq [7,8,9] (sl [7,8,9,33] bl) (sl [7,8,34] (.one (sl [7,8,34,37] (.br lf (sl [7,8,34,41] (.br lf (sl [7,8,47] (.br (sl [7,8,10,11] (sl [7,8,10,11,56] bl)) lf))))))))))))))) (sq [7] (sl [7,64] (.br (sl [4,5,6] lf) lf)) (sq [4,5,6] (.ord (nn 0 18 .done)) lf))))))
theorem Y9.dist:aI (places Y9.ann Y9.body)=true:=by kernel_rfl
noncomputable def Y9.J (Q:AV→aA→Prop):JT:=bH prog C Tryd.f26 Y9.ann Y9.body Q
def Y9.p1 (Q:AV→aA→Prop) (x7:AV) (x27:Bool) (h:aA):Prop:=Y9.J Q 2 [(7,x7),(27,(AV.b x27))] h
def Y9.p0 (Q:AV→aA→Prop) (x7:AV) (x8:Int) (h:aA):Prop:=Y9.J Q 1 [(7,x7),(8,(AV.i .i64 x8))] h
def Y9.p2 (Q:AV→aA→Prop) (x7:AV) (h:aA):Prop:=Y9.J Q 3 [(7,x7)] h
def Y9.t1 (Q:AV→aA→Prop) (x7:AV) (x27:Bool) (h:aA) (J:JT):Prop:=
(bif x27 then
(C Y26.id [x7] h fun v28 h29=>
asI .i64 v28 fun n30=>
C Y12.id [x7,(AV.i .i64 2)] h29 fun v32 h33=>
asI .i64 v32 fun n34=>
C Y24.id [x7] h33 fun v36 h37=>
asB v36 fun c38=>
(bif c38 then
(J 3 [(7,x7)] h37)
else
((bif (decide ((n34:Int)=0)) then
(C Y4.id [x7] h37 fun v44 h45=>
J 1 [(7,x7),(8,(AV.i .i64 n30))] h45)
else
((bif (decide ((n34:Int)=1)) then
(C Y79.id [] h37 fun v48 h49=>
C Y31.id [(AV.sl none 0 none),(AV.i .i64 32),(AV.i .i64 5)] h49 fun v50 h51=>
C Y2.id [x7,v48,v50] h51 fun v52 h53=>
J 1 [(7,x7),(8,(AV.i .i64 n30))] h53)
else
((bif (decide ((n34:Int)=2)) then
(C Y0.id [x7] h37 fun v56 h57=>
aO 0 v56 fun v58=>
aO 1 v56 fun v59=>
C Y24.id [x7] h57 fun v61 h62=>
asB v61 fun c63=>
(bif (!c63) then
(C Y2.id [x7,v58,v59] h62 fun v65 h66=>
J 1 [(7,x7),(8,(AV.i .i64 n30))] h66)
else
(J 1 [(7,x7),(8,(AV.i .i64 n30))] h62)))
else
(C Y39.id [x7] h37 fun v69 h70=>
J 1 [(7,x7),(8,(AV.i .i64 n30))] h70)))))))))
else
(J 3 [(7,x7)] h))
theorem Y9.i1 {Q x7 x27 h} (H:Y9.t1 Q x7 x27 h (Y9.J Q)):Y9.p1 Q x7 x27 h:=gR Y9.J Tryd.f26 Y9.dist [1,1,1,0,0,0,0,1] H
def Y9.t0 (Q:AV→aA→Prop) (x7:AV) (x8:Int) (h:aA) (J:JT):Prop:=
(bif (decide ((x8:Int)=0)) then
(C Y24.id [x7] h fun v21 h22=>
asB v21 fun c23=>
J 2 [(7,x7),(27,(AV.b (!c23)))] h22)
else
(J 2 [(7,x7),(27,(AV.b false))] h))
theorem Y9.i0 {Q x7 x8 h} (H:Y9.t0 Q x7 x8 h (Y9.J Q)):Y9.p0 Q x7 x8 h:=gH Y9.J Tryd.f26 Y9.dist [1,1,1,0,0] H
def Y9.t2 (Q:AV→aA→Prop) (x7:AV) (h:aA) (J:JT):Prop:=
aS x7 fun v72=>
aB 5 v72 fun v73=>
aD v73 h fun v74=>
asB v74 fun c75=>
(bif c75 then
(aS x7 fun v77=>
aB 2 v77 fun v78=>
aD v78 h fun v79=>
cJ v79 h fun l80=>
Q (AV.tu [(AV.s l80),(AV.i .i64 1),(AV.i .i64 0)]) h)
else
(aS x7 fun v83=>
aB 2 v83 fun v84=>
aD v84 h fun v85=>
cJ v85 h fun l86=>
aS x7 fun v87=>
aB 6 v87 fun v88=>
aD v88 h fun v89=>
asI .i64 v89 fun n90=>
aS x7 fun v91=>
aB 1 v91 fun v92=>
aD v92 h fun v93=>
asI .i64 v93 fun n94=>
aJ (IntKind.wrap .i64 (n94+7)) fun n95=>
sN .i64 n95 8 fun n96=>
Q (AV.tu [(AV.s l86),(AV.i .i64 n90),(AV.i .i64 n96)]) h))
theorem Y9.i2 {Q x7 h} (H:Y9.t2 Q x7 h (Y9.J Q)):Y9.p2 Q x7 h:=gR Y9.J Tryd.f26 Y9.dist [1,1,1,1] H
def Y9.t (Q:AV→aA→Prop) (x0:List UInt8) (x1:AV) (h:aA) (J:JT):Prop:=
dC (some 23) x1 h fun v0 h1=>
aB 0 v0 fun v3=>
aD v3 h1 fun v4=>
asI .i64 v4 fun n5=>
aB 1 v0 fun v6=>
aD v6 h1 fun v7=>
asI .i64 v7 fun n8=>
C Y55.id [(AV.i .i64 n5),(AV.i .i64 0),(AV.i .i64 65536)] h1 fun v9 h10=>
asI .i64 v9 fun n11=>
aD v6 h10 fun v12=>
asI .i64 v12 fun n13=>
((AV.i .i64 n8)=(AV.i .i64 n13) ∧
(C Y55.id [(AV.i .i64 n8),(AV.i .i64 1),(AV.i .i64 1100)] h10 fun v14 h15=>
asI .i64 v14 fun n16=>
dC (some 95) (AV.ag [(AV.s x0),(AV.i .i64 0),(AV.sl none 0 none),(AV.i .i64 n11),(AV.i .i64 n16),(AV.b false),(AV.i .i64 0)]) h15 fun v17 h18=>
J 1 [(7,v17),(8,(AV.i .i64 0))] h18))
theorem Y9.call {K x0 x1 h} (H:Y9.t (aH h K) x0 x1 h (Y9.J (aH h K))):C Y9.id [(AV.s x0),x1] h K:=
 gC Y9.J Tryd.func26 Y9.dist H
noncomputable def Y42.body:Code:=(Tryd.f27.body).getD .skip
def Y42.ann:Ann:=(sl [0,1] (sl [0,1] (sl [0,1,6,7] (.seq 1 [0,1,6] (sl [0,1,6,19] bl) (sl [4,5] lf)))))
theorem Y42.dist:aI (places Y42.ann Y42.body)=true:=by kernel_rfl
noncomputable def Y42.J (Q:AV→aA→Prop):JT:=bH prog C Tryd.f27 Y42.ann Y42.body Q
def Y42.p0 (Q:AV→aA→Prop) (x0 x1:AV) (x6:Int) (h:aA):Prop:=Y42.J Q 1 [(0,x0),(1,x1),(6,(AV.i .i64 x6))] h
def Y42.t0 (Q:AV→aA→Prop) (x0 x1:AV) (x6:Int) (h:aA) (J:JT):Prop:=
aS x0 fun v20=>
aB 0 v20 fun v21=>
aD v21 h fun v22=>
bI 1 v22 (some (AV.i .i64 x6)) none none h fun v23=>
lC 1 v23 x1 h fun v24 h25=>
asI .i64 v24 fun n26=>
Q (AV.tu [(AV.i .i64 n26),AV.ni]) h25
theorem Y42.i0 {Q x0 x1 x6 h} (H:Y42.t0 Q x0 x1 x6 h (Y42.J Q)):Y42.p0 Q x0 x1 x6 h:=gR Y42.J Tryd.f27 Y42.dist [1,1,1,1] H
def Y42.t (Q:AV→aA→Prop) (x0 x1:AV) (h:aA) (J:JT):Prop:=
aS x0 fun v1=>
aB 2 v1 fun v2=>
aT 1 v2 (AV.i .i8 0) h fun h3=>
bK x1 fun n5=>
C Y44.id [x0,(AV.i .i64 n5)] h3 fun v6 h7=>
aO 0 v6 fun v8=>
asI .i64 v8 fun n9=>
aO 1 v6 fun v10=>
asB v10 fun c11=>
(bif (!c11) then
(bK x1 fun n14=>
C Y6.id [x0,(AV.i .i64 n14)] h7 fun v15 h16=>
asI .i64 v15 fun n17=>
J 1 [(0,x0),(1,x1),(6,(AV.i .i64 n17))] h16)
else
(J 1 [(0,x0),(1,x1),(6,(AV.i .i64 n9))] h7))
theorem Y42.call {K x0 x1 h} (H:Y42.t (aH h K) x0 x1 h (Y42.J (aH h K))):C Y42.id [x0,x1] h K:=
 gC Y42.J Tryd.func27 Y42.dist H
noncomputable def Y40.body:Code:=(Tryd.f28.body).getD .skip
def Y40.ann:Ann:=(sl [0,1] (sl [0,1] (sl [0,1,6,7] (.seq 1 [0,1,6] (sl [0,1,6,19] bl) (sl [4,5] lf)))))
theorem Y40.dist:aI (places Y40.ann Y40.body)=true:=by kernel_rfl
noncomputable def Y40.J (Q:AV→aA→Prop):JT:=bH prog C Tryd.f28 Y40.ann Y40.body Q
def Y40.p0 (Q:AV→aA→Prop) (x0:AV) (x1:List UInt8) (x6:Int) (h:aA):Prop:=Y40.J Q 1 [(0,x0),(1,(AV.s x1)),(6,(AV.i .i64 x6))] h
def Y40.t0 (Q:AV→aA→Prop) (x0:AV) (x1:List UInt8) (x6:Int) (h:aA) (J:JT):Prop:=
aS x0 fun v18=>
aB 0 v18 fun v19=>
aD v19 h fun v20=>
bI 1 v20 (some (AV.i .i64 x6)) none none h fun v21=>
lC 1 v21 (AV.s x1) h fun v22 h23=>
asI .i64 v22 fun n24=>
Q (AV.tu [(AV.i .i64 n24),AV.ni]) h23
theorem Y40.i0 {Q x0 x1 x6 h} (H:Y40.t0 Q x0 x1 x6 h (Y40.J Q)):Y40.p0 Q x0 x1 x6 h:=gR Y40.J Tryd.f28 Y40.dist [1,1,1,1] H
def Y40.t (Q:AV→aA→Prop) (x0:AV) (x1:List UInt8) (h:aA) (J:JT):Prop:=
aS x0 fun v1=>
aB 2 v1 fun v2=>
aT 1 v2 (AV.i .i8 0) h fun h3=>
C Y44.id [x0,(AV.i .i64 (x1.length:Int))] h3 fun v5 h6=>
aO 0 v5 fun v7=>
asI .i64 v7 fun n8=>
aO 1 v5 fun v9=>
asB v9 fun c10=>
(bif (!c10) then
(C Y6.id [x0,(AV.i .i64 (x1.length:Int))] h6 fun v13 h14=>
asI .i64 v13 fun n15=>
J 1 [(0,x0),(1,(AV.s x1)),(6,(AV.i .i64 n15))] h14)
else
(J 1 [(0,x0),(1,(AV.s x1)),(6,(AV.i .i64 n8))] h6))
theorem Y40.call {K x0 x1 h} (H:Y40.t (aH h K) x0 x1 h (Y40.J (aH h K))):C Y40.id [x0,(AV.s x1)] h K:=
 gC Y40.J Tryd.func28 Y40.dist H
noncomputable def Y77.body:Code:=(Tryd.f29.body).getD .skip
def Y77.ann:Ann:=(sl [0] (sq [0] (sl [0,4] (.br (sl [2] lf) lf)) (sq [2] (.ord (nn 0 11 .done)) lf)))
theorem Y77.dist:aI (places Y77.ann Y77.body)=true:=by kernel_rfl
noncomputable def Y77.J (Q:AV→aA→Prop):JT:=bH prog C Tryd.f29 Y77.ann Y77.body Q
def Y77.t (Q:AV→aA→Prop) (x0:AV) (h:aA) (J:JT):Prop:=
dS prog .eql 100 x0 (AV.p none) fun v1=>
asB v1 fun c2=>
(bif c2 then
(Q (AV.s [60,110,105,108,62]) h)
else
(aS x0 fun v6=>
aB 0 v6 fun v7=>
aD v7 h fun v8=>
aS x0 fun v9=>
aB 1 v9 fun v10=>
aD v10 h fun v11=>
asI .i64 v11 fun n12=>
bI 1 v8 (some (AV.i .i64 n12)) none none h fun v13=>
cJ v13 h fun l14=>
Q (AV.s l14) h))
theorem Y77.call {K x0 h} (H:Y77.t (aH h K) x0 h (Y77.J (aH h K))):C Y77.id [x0] h K:=
 gC Y77.J Tryd.func29 Y77.dist H
noncomputable def Y19.body:Code:=(Tryd.f30.body).getD .skip
def Y19.ann:Ann:=(sl [0,1,7,8] (.one (.loop 1 [0,1,7,8] (sl [0,1,7,8,9] (sq [0,1,7,8] bl (sq [0,1,7,8] (.one (sl [0,1,6,7,8] (.seq 2 [0,1,6,7,8] (sl [0,1,6,7,8,15] (.br (sl [0,1,6,7,8] lf) lf)) (sq [0,1,7,8] (.ord (nn 0 25 (.eff 25 .done .stop))) lf)))) lf))))))
theorem Y19.dist:aI (places Y19.ann Y19.body)=true:=by kernel_rfl
noncomputable def Y19.J (Q:AV→aA→Prop):JT:=bH prog C Tryd.f30 Y19.ann Y19.body Q
def Y19.p1 (Q:AV→aA→Prop) (x0:AV) (x1 x6 x7 x8:Int) (h:aA):Prop:=Y19.J Q 2 [(0,x0),(1,(AV.i .i64 x1)),(6,(AV.i .i64 x6)),(7,(AV.i .i64 x7)),(8,(AV.i .i64 x8))] h
def Y19.p0 (Q:AV→aA→Prop) (x0:AV) (x1 x7 x8:Int) (h:aA):Prop:=Y19.J Q 1 [(0,x0),(1,(AV.i .i64 x1)),(7,(AV.i .i64 x7)),(8,(AV.i .i64 x8))] h
def Y19.t1 (Q:AV→aA→Prop) (x0:AV) (x1 x6 x7 x8:Int) (h:aA) (J:JT):Prop:=
aS x0 fun v25=>
aB 0 v25 fun v26=>
aD v26 h fun v27=>
aS x0 fun v28=>
aB 0 v28 fun v29=>
aD v29 h fun v30=>
bK v30 fun n31=>
aJ (IntKind.wrap .i64 (n31 - 1)) fun n32=>
aN 1 v27 (AV.i .i64 n32) h fun v33=>
aD v33 h fun v34=>
asI .u8 v34 fun n35=>
kZ .i64 x1 x6 fun n36=>
aJ (IntKind.wrap .u8 (bO .and .i64 n36 1)) fun n37=>
aS x0 fun v38=>
aB 1 v38 fun v39=>
aD v39 h fun v40=>
asI .i64 v40 fun n41=>
aJ (IntKind.wrap .i64 (8 - n41)) fun n42=>
jX .u8 n37 n42 fun n43=>
aN 1 v27 (AV.i .i64 n32) h fun v44=>
aT 1 v44 (AV.i .u8 (bO .or .u8 n35 n43)) h fun h45=>
aS x0 fun v47=>
aB 1 v47 fun v48=>
aD v48 h45 fun v49=>
asI .i64 v49 fun n50=>
aJ (IntKind.wrap .i64 (n50 - 1)) fun n51=>
aS x0 fun v52=>
aB 1 v52 fun v53=>
aT 1 v53 (AV.i .i64 n51) h45 fun h54=>
aJ (IntKind.wrap .i64 (x8+1)) fun n56=>
J 1 [(0,x0),(1,(AV.i .i64 x1)),(7,(AV.i .i64 x7)),(8,(AV.i .i64 n56))] h54
theorem Y19.i1 {Q x0 x1 x6 x7 x8 h} (H:Y19.t1 Q x0 x1 x6 x7 x8 h (Y19.J Q)):Y19.p1 Q x0 x1 x6 x7 x8 h:=gR Y19.J Tryd.f30 Y19.dist [1,0,0,1,1,0,0,1,1] H
def Y19.t0 (Q:AV→aA→Prop) (x0:AV) (x1 x7 x8:Int) (h:aA) (J:JT):Prop:=
(bif (decide ((x8:Int)<x7)) then
(aS x0 fun v4=>
aB 1 v4 fun v5=>
aD v5 h fun v6=>
asI .i64 v6 fun n7=>
(bif (decide ((n7:Int)=0)) then
(aS x0 fun v9=>
aB 0 v9 fun v10=>
aD v10 h fun v11=>
bN 1 1 [(AV.i .u8 0)] [(0,1,(AV.i .u8 0))] h fun v12 h13=>
bW (some 5) 1 1 v11 v12 h13 fun v14 h15=>
aS x0 fun v16=>
aB 0 v16 fun v17=>
aT 1 v17 v14 h15 fun h18=>
aS x0 fun v20=>
aB 1 v20 fun v21=>
aT 1 v21 (AV.i .i64 8) h18 fun h22=>
J 2 [(0,x0),(1,(AV.i .i64 x1)),(6,(AV.i .i64 x8)),(7,(AV.i .i64 x7)),(8,(AV.i .i64 x8))] h22)
else
(J 2 [(0,x0),(1,(AV.i .i64 x1)),(6,(AV.i .i64 x8)),(7,(AV.i .i64 x7)),(8,(AV.i .i64 x8))] h)))
else
(Q (AV.tu []) h))
theorem Y19.i0 {Q x0 x1 x7 x8 h} (H:Y19.t0 Q x0 x1 x7 x8 h (Y19.J Q)):Y19.p0 Q x0 x1 x7 x8 h:=gH Y19.J Tryd.f30 Y19.dist [1,0] H
def Y19.t (Q:AV→aA→Prop) (x0:AV) (x1 x2:Int) (h:aA) (J:JT):Prop:=
J 1 [(0,x0),(1,(AV.i .i64 x1)),(7,(AV.i .i64 x2)),(8,(AV.i .i64 0))] h
theorem Y19.call {K x0 x1 x2 h} (H:Y19.t (aH h K) x0 x1 x2 h (Y19.J (aH h K))):C Y19.id [x0,(AV.i .i64 x1),(AV.i .i64 x2)] h K:=
 gC Y19.J Tryd.func30 Y19.dist H
noncomputable def Y17.body:Code:=(Tryd.f31.body).getD .skip
def Y17.ann:Ann:=(sl [0] (sq [0] (sl [0,3] (.one (.loop 1 [0,3] (sl [0,3,4] (sq [0,3] bl (.seq 3 [0,3] (.one (sl [0,2,3] (.one (.seq 2 [0,2,3,9] lf (.br lf (sl [0,3,19] bl)))))) lf)))))) (sl [0,1] lf)))
theorem Y17.dist:aI (places Y17.ann Y17.body)=true:=by kernel_rfl
noncomputable def Y17.J (Q:AV→aA→Prop):JT:=bH prog C Tryd.f31 Y17.ann Y17.body Q
def Y17.p1 (Q:AV→aA→Prop) (x0:AV) (x2 x3:Int) (x9:Bool) (h:aA):Prop:=Y17.J Q 2 [(0,x0),(2,(AV.i .i64 x2)),(3,(AV.i .i64 x3)),(9,(AV.b x9))] h
def Y17.p2 (Q:AV→aA→Prop) (x0:AV) (x3:Int) (h:aA):Prop:=Y17.J Q 3 [(0,x0),(3,(AV.i .i64 x3))] h
def Y17.p0 (Q:AV→aA→Prop) (x0:AV) (x3:Int) (h:aA):Prop:=Y17.J Q 1 [(0,x0),(3,(AV.i .i64 x3))] h
def Y17.t1 (Q:AV→aA→Prop) (x0:AV) (x2 x3:Int) (x9:Bool) (h:aA) (J:JT):Prop:=
(bif x9 then
(bN 1 1 [(AV.i .i64 0)] [(0,1,(AV.i .i64 8))] h fun v8 h9=>
bW none 1 8 x0 v8 h9 fun v10 h11=>
J 3 [(0,v10),(3,(AV.i .i64 x3))] h11)
else
((bif (decide ((x2:Int)<256)) then
(bN 1 1 [(AV.i .i64 0)] [(0,1,(AV.i .i64 9))] h fun v14 h15=>
bW none 1 8 x0 v14 h15 fun v16 h17=>
J 3 [(0,v16),(3,(AV.i .i64 x3))] h17)
else
(bN 1 1 [(AV.i .i64 0)] [(0,1,(AV.i .i64 7))] h fun v19 h20=>
bW none 1 8 x0 v19 h20 fun v21 h22=>
J 3 [(0,v21),(3,(AV.i .i64 x3))] h22))))
theorem Y17.i1 {Q x0 x2 x3 x9 h} (H:Y17.t1 Q x0 x2 x3 x9 h (Y17.J Q)):Y17.p1 Q x0 x2 x3 x9 h:=gR Y17.J Tryd.f31 Y17.dist [1,0,1,0,0,1,1,0,0,1,0,1] H
def Y17.t2 (Q:AV→aA→Prop) (x0:AV) (x3:Int) (h:aA) (J:JT):Prop:=
aJ (IntKind.wrap .i64 (x3+1)) fun n24=>
J 1 [(0,x0),(3,(AV.i .i64 n24))] h
theorem Y17.i2 {Q x0 x3 h} (H:Y17.t2 Q x0 x3 h (Y17.J Q)):Y17.p2 Q x0 x3 h:=gR Y17.J Tryd.f31 Y17.dist [1,0,1,0,0,1,1,1] H
def Y17.t0 (Q:AV→aA→Prop) (x0:AV) (x3:Int) (h:aA) (J:JT):Prop:=
(bif (decide ((x3:Int)<288)) then
((bif (decide ((x3:Int)<144)) then
(J 2 [(0,x0),(2,(AV.i .i64 x3)),(3,(AV.i .i64 x3)),(9,(AV.b true))] h)
else
(J 2 [(0,x0),(2,(AV.i .i64 x3)),(3,(AV.i .i64 x3)),(9,(AV.b (decide ((280:Int)≤x3))))] h)))
else
(bN 1 1 [(AV.i .i64 0)] [(0,1,(AV.i .i64 5))] h fun v26 h27=>
C Y27.id [v26,(AV.i .i64 32)] h27 fun v28 h29=>
Q (AV.tu [x0,v28]) h29))
theorem Y17.i0 {Q x0 x3 h} (H:Y17.t0 Q x0 x3 h (Y17.J Q)):Y17.p0 Q x0 x3 h:=gH Y17.J Tryd.f31 Y17.dist [1,0,1,0] H
def Y17.t (Q:AV→aA→Prop) (h:aA) (J:JT):Prop:=
J 1 [(0,(AV.sl none 0 none)),(3,(AV.i .i64 0))] h
theorem Y17.call {K h} (H:Y17.t (aH h K) h (Y17.J (aH h K))):C Y17.id [] h K:=
 gC Y17.J Tryd.func31 Y17.dist H
noncomputable def Y20.body:Code:=(Tryd.f32.body).getD .skip
def Y20.ann:Ann:=(sl [0,1,2,3,8,9] (sq [0,2,8] (sl [0,2,3,8,9,19,20,21] (.one (.loop 1 [0,2,3,8,9,19,20,21] (sl [0,2,3,8,9,19,20,21,22] (sq [0,2,3,8,9,19,20,21] bl (.seq 2 [0,2,3,8,9,19,20,21] (.one (sl [0,2,3,8,9,11,19,20,21] (sq [0,2,3,8,9,11,19,20,21] (sl [0,2,3,8,9,11,19,20,21,27] (.br (sl [0,2,3,8,9,19,20,21] lf) lf)) (sl [0,2,3,8,9,11,12,19,20,21] (sl [0,2,3,8,9,11,12,13,14,19,20,21] (sl [0,2,3,8,9,11,13,14,19,20,21] (sl [0,2,3,8,9,11,19,20,21] (sl [0,2,3,8,9,11,12,19,20,21] (sl [0,2,3,8,9,11,12,13,14,19,20,21] (sl [0,2,3,8,9,11,13,14,19,20,21] lf)))))))))) lf)))))) lf))
theorem Y20.dist:aI (places Y20.ann Y20.body)=true:=by kernel_rfl
noncomputable def Y20.J (Q:AV→aA→Prop):JT:=bH prog C Tryd.f32 Y20.ann Y20.body Q
def Y20.p1 (Q:AV→aA→Prop) (x0 x2 x3 x8 x9 x19:AV) (x20 x21:Int) (h:aA):Prop:=Y20.J Q 2 [(0,x0),(2,x2),(3,x3),(8,x8),(9,x9),(19,x19),(20,(AV.i .i64 x20)),(21,(AV.i .i64 x21))] h
def Y20.p0 (Q:AV→aA→Prop) (x0 x2 x3 x8 x9 x19:AV) (x20 x21:Int) (h:aA):Prop:=Y20.J Q 1 [(0,x0),(2,x2),(3,x3),(8,x8),(9,x9),(19,x19),(20,(AV.i .i64 x20)),(21,(AV.i .i64 x21))] h
def Y20.t1 (Q:AV→aA→Prop) (x0 x2 x3 x8 x9 x19:AV) (x20 x21:Int) (h:aA) (J:JT):Prop:=
aJ (IntKind.wrap .i64 (x21+1)) fun n76=>
J 1 [(0,x0),(2,x2),(3,x3),(8,x8),(9,x9),(19,x19),(20,(AV.i .i64 x20)),(21,(AV.i .i64 n76))] h
theorem Y20.i1 {Q x0 x2 x3 x8 x9 x19 x20 x21 h} (H:Y20.t1 Q x0 x2 x3 x8 x9 x19 x20 x21 h (Y20.J Q)):Y20.p1 Q x0 x2 x3 x8 x9 x19 x20 x21 h:=gR Y20.J Tryd.f32 Y20.dist [1,0,1,0,0,1,1,1] H
def Y20.t0 (Q:AV→aA→Prop) (x0 x2 x3 x8 x9 x19:AV) (x20 x21:Int) (h:aA) (J:JT):Prop:=
(bif (decide ((x21:Int)<x20)) then
(aN 3 x19 (AV.i .i64 x21) h fun v10=>
dA 3 v10 h fun v11=>
dF (some 82) [(AV.i .u8 0),(AV.i .i64 0),(AV.i .i64 0)] h fun v12 h13=>
aT 3 v12 v11 h13 fun h14=>
aB 1 v12 fun v16=>
aD v16 h14 fun v17=>
asI .i64 v17 fun n18=>
(bif (decide ((n18:Int)=0)) then
(aB 0 v12 fun v20=>
aD v20 h14 fun v21=>
asI .u8 v21 fun n22=>
C Y33.id [x0,x8,x2,(AV.i .i64 (IntKind.wrap .i64 n22))] h14 fun v23 h24=>
J 2 [(0,x0),(2,x2),(3,x3),(8,x8),(9,x9),(19,x19),(20,(AV.i .i64 x20)),(21,(AV.i .i64 x21))] h24)
else
(aB 1 v12 fun v28=>
aD v28 h14 fun v29=>
asI .i64 v29 fun n30=>
C Y22.id [(AV.i .i64 n30)] h14 fun v31 h32=>
asI .i64 v31 fun n33=>
C Y52.id [(AV.i .i64 n33)] h32 fun v35 h36=>
aO 0 v35 fun v37=>
asI .i64 v37 fun n38=>
aO 1 v35 fun v39=>
asI .i64 v39 fun n40=>
C Y33.id [x0,x8,x2,(AV.i .i64 n33)] h36 fun v42 h43=>
aB 1 v12 fun v45=>
aD v45 h43 fun v46=>
asI .i64 v46 fun n47=>
aJ (IntKind.wrap .i64 (n47 - n38)) fun n48=>
C Y19.id [x0,(AV.i .i64 n48),(AV.i .i64 n40)] h43 fun v49 h50=>
aB 2 v12 fun v52=>
aD v52 h50 fun v53=>
asI .i64 v53 fun n54=>
C Y23.id [(AV.i .i64 n54)] h50 fun v55 h56=>
asI .i64 v55 fun n57=>
C Y49.id [(AV.i .i64 n57)] h56 fun v59 h60=>
aO 0 v59 fun v61=>
asI .i64 v61 fun n62=>
aO 1 v59 fun v63=>
asI .i64 v63 fun n64=>
C Y33.id [x0,x9,x3,(AV.i .i64 n57)] h60 fun v66 h67=>
aB 2 v12 fun v69=>
aD v69 h67 fun v70=>
asI .i64 v70 fun n71=>
aJ (IntKind.wrap .i64 (n71 - n62)) fun n72=>
C Y19.id [x0,(AV.i .i64 n72),(AV.i .i64 n64)] h67 fun v73 h74=>
J 2 [(0,x0),(2,x2),(3,x3),(8,x8),(9,x9),(19,x19),(20,(AV.i .i64 x20)),(21,(AV.i .i64 x21))] h74)))
else
(C Y33.id [x0,x8,x2,(AV.i .i64 256)] h fun v78 h79=>
Q (AV.tu []) h79))
theorem Y20.i0 {Q x0 x2 x3 x8 x9 x19 x20 x21 h} (H:Y20.t0 Q x0 x2 x3 x8 x9 x19 x20 x21 h (Y20.J Q)):Y20.p0 Q x0 x2 x3 x8 x9 x19 x20 x21 h:=gH Y20.J Tryd.f32 Y20.dist [1,0,1,0] H
def Y20.t (Q:AV→aA→Prop) (x0 x1 x2 x3:AV) (h:aA) (J:JT):Prop:=
C Y16.id [x2] h fun v0 h1=>
C Y16.id [x3] h1 fun v2 h3=>
bK x1 fun n5=>
J 1 [(0,x0),(2,x2),(3,x3),(8,v0),(9,v2),(19,x1),(20,(AV.i .i64 n5)),(21,(AV.i .i64 0))] h3
theorem Y20.call {K x0 x1 x2 x3 h} (H:Y20.t (aH h K) x0 x1 x2 x3 h (Y20.J (aH h K))):C Y20.id [x0,x1,x2,x3] h K:=
 gC Y20.J Tryd.func32 Y20.dist H
noncomputable def Y15.body:Code:=(Tryd.f33.body).getD .skip
def Y15.ann:Ann:=(sl [1] (sl [1,3] (sl [1,3,4] (sl [1,3,4,5] (sq [3] (sl [1,3,4,5,6] (.one (.loop 1 [1,3,4,5,6] (sq [1,3,4,5,6] (sl [1,3,4,5,6,13] bl) (.one (sl [1,3,4,5,6,7] (.seq 2 [1,3,4,5,6,7] (sl [1,3,4,5,6,7,22] (.br (.ord (nn 0 9 (.eff 9 (nn 10 4 (.eff 14 (.neu 15 (.eff 16 .done .stop)) .stop)) .stop))) lf)) (sl [1,3,4,5,6,7] (sl [1,3,4,5,6,44,45] (.one (.loop 3 [1,3,4,5,6,44,45] (sl [1,3,4,5,6,44,45,46] (sq [1,3,4,5,6,44,45] bl (sq [1,3,4,5,6,44,45] (.one (sl [1,3,4,5,6,44,45] lf)) lf)))))))))))))) (sl [2] lf))))))
theorem Y15.dist:aI (places Y15.ann Y15.body)=true:=by kernel_rfl
noncomputable def Y15.J (Q:AV→aA→Prop):JT:=bH prog C Tryd.f33 Y15.ann Y15.body Q
def Y15.p2 (Q:AV→aA→Prop) (x1 x3 x4 x5:AV) (x6 x44 x45:Int) (h:aA):Prop:=Y15.J Q 3 [(1,x1),(3,x3),(4,x4),(5,x5),(6,(AV.i .i64 x6)),(44,(AV.i .i64 x44)),(45,(AV.i .i64 x45))] h
def Y15.p1 (Q:AV→aA→Prop) (x1 x3 x4 x5:AV) (x6:Int) (x7:AV) (h:aA):Prop:=Y15.J Q 2 [(1,x1),(3,x3),(4,x4),(5,x5),(6,(AV.i .i64 x6)),(7,x7)] h
def Y15.p0 (Q:AV→aA→Prop) (x1 x3 x4 x5:AV) (x6:Int) (h:aA):Prop:=Y15.J Q 1 [(1,x1),(3,x3),(4,x4),(5,x5),(6,(AV.i .i64 x6))] h
def Y15.t2 (Q:AV→aA→Prop) (x1 x3 x4 x5:AV) (x6 x44 x45:Int) (h:aA) (J:JT):Prop:=
(bif (decide ((x45:Int)<x44)) then
(bZ C x5 [(AV.i .i64 x6)] h fun v61 h62=>
aJ (IntKind.wrap .i64 (x6+1)) fun n64=>
aJ (IntKind.wrap .i64 (x45+1)) fun n66=>
J 3 [(1,x1),(3,x3),(4,x4),(5,x5),(6,(AV.i .i64 n64)),(44,(AV.i .i64 x44)),(45,(AV.i .i64 n66))] h62)
else
(J 1 [(1,x1),(3,x3),(4,x4),(5,x5),(6,(AV.i .i64 x6))] h))
theorem Y15.i2 {Q x1 x3 x4 x5 x6 x44 x45 h} (H:Y15.t2 Q x1 x3 x4 x5 x6 x44 x45 h (Y15.J Q)):Y15.p2 Q x1 x3 x4 x5 x6 x44 x45 h:=gH Y15.J Tryd.f33 Y15.dist [1,1,1,1,0,1,0,0,1,0,1,1,1,1,0] H
def Y15.t1 (Q:AV→aA→Prop) (x1 x3 x4 x5:AV) (x6:Int) (x7:AV) (h:aA) (J:JT):Prop:=
dA 3 x7 h fun v48=>
bN 3 1 [(AV.i .u8 0),(AV.i .i64 0),(AV.i .i64 0)] [(0,3,v48)] h fun v49 h50=>
bW none 3 24 x3 v49 h50 fun v51 h52=>
aB 1 x7 fun v54=>
aD v54 h52 fun v55=>
asI .i64 v55 fun n56=>
J 3 [(1,x1),(3,v51),(4,x4),(5,x5),(6,(AV.i .i64 x6)),(44,(AV.i .i64 (mmI true n56 1))),(45,(AV.i .i64 0))] h52
theorem Y15.i1 {Q x1 x3 x4 x5 x6 x7 h} (H:Y15.t1 Q x1 x3 x4 x5 x6 x7 h (Y15.J Q)):Y15.p1 Q x1 x3 x4 x5 x6 x7 h:=gR Y15.J Tryd.f33 Y15.dist [1,1,1,1,0,1,0,0,1,0,1,1] H
def Y15.t0 (Q:AV→aA→Prop) (x1 x3 x4 x5:AV) (x6:Int) (h:aA) (J:JT):Prop:=
aD x1 h fun v12=>
asS v12 fun l13=>
(bif (decide ((x6:Int)<(l13.length:Int))) then
(aD x1 h fun v17=>
asS v17 fun l18=>
e6 (AV.s l18) (AV.i .i64 x6) fun n19=>
dF (some 82) [(AV.i .u8 0),(AV.i .i64 0),(AV.i .i64 0)] h fun v20 h21=>
aT 3 v20 (AV.ag [(AV.i .u8 n19),(AV.i .i64 0),(AV.i .i64 0)]) h21 fun h22=>
aJ (IntKind.wrap .i64 (x6+3)) fun n24=>
aD x1 h22 fun v25=>
asS v25 fun l26=>
(bif (decide ((n24:Int)≤(l26.length:Int))) then
(aD x1 h22 fun v28=>
asS v28 fun l29=>
aD x4 h22 fun v30=>
aD x1 h22 fun v31=>
asS v31 fun l32=>
aJ (IntKind.wrap .i64 (x6+3)) fun n33=>
b7 (AV.s l32) (some (AV.i .i64 x6)) (some (AV.i .i64 n33)) fun l34=>
eZ prog 9 64 false v30 (AV.s l34) h22 fun v35=>
C Y47.id [(AV.s l29),(AV.i .i64 x6),v35] h22 fun v36 h37=>
aO 0 v36 fun v38=>
asI .i64 v38 fun n39=>
aO 1 v36 fun v40=>
asI .i64 v40 fun n41=>
aB 1 v20 fun v42=>
aT 1 v42 (AV.i .i64 n39) h37 fun h43=>
aB 2 v20 fun v44=>
aT 1 v44 (AV.i .i64 n41) h43 fun h45=>
J 2 [(1,x1),(3,x3),(4,x4),(5,x5),(6,(AV.i .i64 x6)),(7,v20)] h45)
else
(J 2 [(1,x1),(3,x3),(4,x4),(5,x5),(6,(AV.i .i64 x6)),(7,v20)] h22)))
else
(Q x3 h))
theorem Y15.i0 {Q x1 x3 x4 x5 x6 h} (H:Y15.t0 Q x1 x3 x4 x5 x6 h (Y15.J Q)):Y15.p0 Q x1 x3 x4 x5 x6 h:=gH Y15.J Tryd.f33 Y15.dist [1,1,1,1,0,1,0] H
def Y15.t (Q:AV→aA→Prop) (x0:List UInt8) (h:aA) (J:JT):Prop:=
dC none (AV.s x0) h fun v0 h1=>
mV h1 fun v4 h5=>
dF none [(AV.mp none)] h5 fun v6 h7=>
aT 1 v6 v4 h7 fun h8=>
J 1 [(1,v0),(3,(AV.sl none 0 none)),(4,v6),(5,(AV.fn (.func Y45.id) [] [v0,v6])),(6,(AV.i .i64 0))] h8
theorem Y15.call {K x0 h} (H:Y15.t (aH h K) x0 h (Y15.J (aH h K))):C Y15.id [(AV.s x0)] h K:=
 gC Y15.J Tryd.func33 Y15.dist H
noncomputable def Y72.body:Code:=(Tryd.f37.body).getD .skip
def Y72.ann:Ann:=(sl [0] (sq [0] (sl [0,6] (.br (sl [2,3] lf) lf)) (sq [0] (sl [0,10] (.br (sl [2,3] lf) lf)) (sl [0,4] (sl [2,3] lf)))))
theorem Y72.dist:aI (places Y72.ann Y72.body)=true:=by kernel_rfl
noncomputable def Y72.J (Q:AV→aA→Prop):JT:=bH prog C Tryd.f37 Y72.ann Y72.body Q
def Y72.t (Q:AV→aA→Prop) (x0:Int) (h:aA) (J:JT):Prop:=
(bif (decide ((x0:Int)<265)) then
(aJ (IntKind.wrap .i64 (x0 - 254)) fun n2=>
Q (AV.tu [(AV.i .i64 n2),(AV.i .i64 0)]) h)
else
((bif (decide ((x0:Int)=285)) then
(Q (AV.tu [(AV.i .i64 258),(AV.i .i64 0)]) h)
else
(aJ (IntKind.wrap .i64 (x0 - 261)) fun n8=>
sN .i64 n8 4 fun n9=>
aJ (IntKind.wrap .i64 (x0 - 265)) fun n11=>
vP n11 4 fun n12=>
aJ (IntKind.wrap .i64 (4+n12)) fun n13=>
jX .i64 n13 (IntKind.wrap .u64 n9) fun n14=>
aJ (IntKind.wrap .i64 (n14+3)) fun n15=>
Q (AV.tu [(AV.i .i64 n15),(AV.i .i64 n9)]) h))))
theorem Y72.call {K x0 h} (H:Y72.t (aH h K) x0 h (Y72.J (aH h K))):C Y72.id [(AV.i .i64 x0)] h K:=
 gC Y72.J Tryd.func37 Y72.dist H
noncomputable def Y70.body:Code:=(Tryd.f38.body).getD .skip
def Y70.ann:Ann:=(sl [0] (sq [0] (sl [0,6] (.br (sl [2,3] lf) lf)) (sl [0,4] (sl [2,3] lf))))
theorem Y70.dist:aI (places Y70.ann Y70.body)=true:=by kernel_rfl
noncomputable def Y70.J (Q:AV→aA→Prop):JT:=bH prog C Tryd.f38 Y70.ann Y70.body Q
def Y70.t (Q:AV→aA→Prop) (x0:Int) (h:aA) (J:JT):Prop:=
(bif (decide ((x0:Int)<4)) then
(aJ (IntKind.wrap .i64 (x0+1)) fun n2=>
Q (AV.tu [(AV.i .i64 n2),(AV.i .i64 0)]) h)
else
(sN .i64 x0 2 fun n5=>
aJ (IntKind.wrap .i64 (n5 - 1)) fun n6=>
vP x0 2 fun n8=>
aJ (IntKind.wrap .i64 (2+n8)) fun n9=>
jX .i64 n9 (IntKind.wrap .u64 n6) fun n10=>
aJ (IntKind.wrap .i64 (n10+1)) fun n11=>
Q (AV.tu [(AV.i .i64 n11),(AV.i .i64 n6)]) h))
theorem Y70.call {K x0 h} (H:Y70.t (aH h K) x0 h (Y70.J (aH h K))):C Y70.id [(AV.i .i64 x0)] h K:=
 gC Y70.J Tryd.func38 Y70.dist H
noncomputable def Y65.body:Code:=(Tryd.f41.body).getD .skip
def Y65.ann:Ann:=(sl [0,1,2] (sl [6] lf))
theorem Y65.dist:aI (places Y65.ann Y65.body)=true:=by kernel_rfl
noncomputable def Y65.J (Q:AV→aA→Prop):JT:=bH prog C Tryd.f41 Y65.ann Y65.body Q
def Y65.t (Q:AV→aA→Prop) (x0 x1 x2:Int) (h:aA) (J:JT):Prop:=
aJ (mmI false (mmI true x0 x1) x2) fun n1=>
Q (AV.i .i64 n1) h
theorem Y65.call {K x0 x1 x2 h} (H:Y65.t (aH h K) x0 x1 x2 h (Y65.J (aH h K))):C Y65.id [(AV.i .i64 x0),(AV.i .i64 x1),(AV.i .i64 x2)] h K:=
 gC Y65.J Tryd.func41 Y65.dist H
noncomputable def Y50.body:Code:=(Tryd.f42.body).getD .skip
def Y50.ann:Ann:=(sl [1] (sq [1] (sl [1,6] (.br (sl [] (sl [2] lf)) lf)) (sl [2] lf)))
theorem Y50.dist:aI (places Y50.ann Y50.body)=true:=by kernel_rfl
noncomputable def Y50.J (Q:AV→aA→Prop):JT:=bH prog C Tryd.f42 Y50.ann Y50.body Q
def Y50.t (Q:AV→aA→Prop) (x0:AV) (h:aA) (J:JT):Prop:=
dC none x0 h fun v0 h1=>
aD v0 h1 fun v3=>
aS v3 fun v4=>
aB 6 v4 fun v5=>
aD v5 h1 fun v6=>
asB v6 fun c7=>
(bif c7 then
(aD v0 h1 fun v9=>
aS v9 fun v10=>
aB 7 v10 fun v11=>
aT 1 v11 (AV.b true) h1 fun h12=>
Q (AV.i .i64 0) h12)
else
(aD v0 h1 fun v16=>
C Y43.id [v16,(AV.i .i64 3),(AV.fn (.func Y86.id) [] [v0])] h1 fun v17 h18=>
asI .i64 v17 fun n19=>
Q (AV.i .i64 n19) h18))
theorem Y50.call {K x0 h} (H:Y50.t (aH h K) x0 h (Y50.J (aH h K))):C Y50.id [x0] h K:=
 gC Y50.J Tryd.func42 Y50.dist H
noncomputable def Y3.body:Code:=(Tryd.f43.body).getD .skip
def Y3.ann:Ann:=(sl [0,1] (.one (sl [0,1] (.seq 2 [0,5] (sl [0,1,14] (.br (sl [0,6,7,8] (sq [0,6,7] (sl [0,6,7,26] (.br (sl [4] lf) lf)) (sq [0,6] (sl [0,6,28] (.br (sl [4] lf) lf)) lf))) (sq [0] (.ord (nn 0 13 (.eff 13 .done .stop))) (sl [0] (sq [0] (sq [0,58] (.ord (nn 0 9 .done)) (.br (sl [4] lf) lf)) lf))))) (.seq 1 [0,5] lf (sq [0] (sl [0,9] (.seq 3 [0,9,76] lf (.br (sl [4] lf) lf))) (sq [] (.seq 4 [0,89] lf (.br (sl [0,5] lf) lf)) (sl [4] lf))))))))
theorem Y3.dist:aI (places Y3.ann Y3.body)=true:=by kernel_rfl
noncomputable def Y3.J (Q:AV→aA→Prop):JT:=bH prog C Tryd.f43 Y3.ann Y3.body Q
def Y3.p2 (Q:AV→aA→Prop) (x0:AV) (x9:Int) (x76:Bool) (h:aA):Prop:=Y3.J Q 3 [(0,x0),(9,(AV.i .i64 x9)),(76,(AV.b x76))] h
def Y3.p3 (Q:AV→aA→Prop) (x0:AV) (x89:Bool) (h:aA):Prop:=Y3.J Q 4 [(0,x0),(89,(AV.b x89))] h
def Y3.p0 (Q:AV→aA→Prop) (x0:AV) (x5:Int) (h:aA):Prop:=Y3.J Q 1 [(0,x0),(5,(AV.i .i64 x5))] h
def Y3.p1 (Q:AV→aA→Prop) (x0:AV) (x5:Int) (h:aA):Prop:=Y3.J Q 2 [(0,x0),(5,(AV.i .i64 x5))] h
def Y3.t2 (Q:AV→aA→Prop) (x0:AV) (x9:Int) (x76:Bool) (h:aA) (J:JT):Prop:=
(bif x76 then
(Q (AV.i .i64 x9) h)
else
(aS x0 fun v82=>
aB 14 v82 fun v83=>
aD v83 h fun v84=>
dS prog .eql 44 v84 (AV.p none) fun v85=>
asB v85 fun c86=>
(bif c86 then
(aS x0 fun v87=>
aB 13 v87 fun v88=>
aD v88 h fun v89=>
asI .i64 v89 fun n90=>
J 4 [(0,x0),(89,(AV.b (decide ((n90:Int)=0))))] h)
else
(J 4 [(0,x0),(89,(AV.b false))] h))))
theorem Y3.i2 {Q x0 x9 x76 h} (H:Y3.t2 Q x0 x9 x76 h (Y3.J Q)):Y3.p2 Q x0 x9 x76 h:=gR Y3.J Tryd.f43 Y3.dist [1,0,1,1,1,0,1,1] H
def Y3.t3 (Q:AV→aA→Prop) (x0:AV) (x89:Bool) (h:aA) (J:JT):Prop:=
(bif x89 then
(J 1 [(0,x0),(5,(AV.i .i64 0))] h)
else
(Q (AV.i .i64 0) h))
theorem Y3.i3 {Q x0 x89 h} (H:Y3.t3 Q x0 x89 h (Y3.J Q)):Y3.p3 Q x0 x89 h:=gR Y3.J Tryd.f43 Y3.dist [1,0,1,1,1,1,0,1] H
def Y3.t0 (Q:AV→aA→Prop) (x0:AV) (x5:Int) (h:aA) (J:JT):Prop:=
aS x0 fun v67=>
aB 15 v67 fun v68=>
aD v68 h fun v69=>
bZ C v69 [(AV.i .i64 x5)] h fun v70 h71=>
asI .i64 v70 fun n72=>
(bif (!decide ((n72:Int)=0)) then
(J 3 [(0,x0),(9,(AV.i .i64 n72)),(76,(AV.b true))] h71)
else
(aS x0 fun v75=>
aB 7 v75 fun v76=>
aD v76 h71 fun v77=>
asB v77 fun c78=>
J 3 [(0,x0),(9,(AV.i .i64 n72)),(76,(AV.b c78))] h71))
theorem Y3.i0 {Q x0 x5 h} (H:Y3.t0 Q x0 x5 h (Y3.J Q)):Y3.p0 Q x0 x5 h:=gR Y3.J Tryd.f43 Y3.dist [1,0,1,1,1] H
def Y3.t1 (Q:AV→aA→Prop) (x0:AV) (x5:Int) (h:aA) (J:JT):Prop:=
J 1 [(0,x0),(5,(AV.i .i64 x5))] h
theorem Y3.i1 {Q x0 x5 h} (H:Y3.t1 Q x0 x5 h (Y3.J Q)):Y3.p1 Q x0 x5 h:=gR Y3.J Tryd.f43 Y3.dist [1,0,1,1] H
def Y3.t (Q:AV→aA→Prop) (x0:AV) (x1:Int) (h:aA) (J:JT):Prop:=
aS x0 fun v2=>
aB 14 v2 fun v3=>
aD v3 h fun v4=>
dS prog .neq 44 v4 (AV.p none) fun v5=>
asB v5 fun c6=>
(bif c6 then
(aS x0 fun v8=>
aB 14 v8 fun v9=>
aD v9 h fun v10=>
C Y25.id [v10,(AV.i .i64 x1)] h fun v11 h12=>
aO 0 v11 fun v13=>
asI .i64 v13 fun n14=>
aO 1 v11 fun v15=>
asB v15 fun c16=>
aO 2 v11 fun v17=>
asI .i64 v17 fun n18=>
(bif (!decide ((n18:Int)=0)) then
(Q (AV.i .i64 2) h12)
else
((bif (!c16) then
(Q (AV.i .i64 0) h12)
else
(J 2 [(0,x0),(5,(AV.i .i64 n14))] h12)))))
else
(aS x0 fun v27=>
aB 11 v27 fun v28=>
aD v28 h fun v29=>
asI .i64 v29 fun n30=>
aS x0 fun v31=>
aB 12 v31 fun v32=>
aD v32 h fun v33=>
asI .i64 v33 fun n34=>
jX .i64 x1 n34 fun n35=>
aJ (bO .or .i64 n30 n35) fun n36=>
aS x0 fun v37=>
aB 11 v37 fun v38=>
aT 1 v38 (AV.i .i64 n36) h fun h39=>
aS x0 fun v41=>
aB 12 v41 fun v42=>
aD v42 h39 fun v43=>
asI .i64 v43 fun n44=>
aJ (IntKind.wrap .i64 (n44+1)) fun n45=>
aS x0 fun v46=>
aB 12 v46 fun v47=>
aT 1 v47 (AV.i .i64 n45) h39 fun h48=>
aS x0 fun v50=>
aB 12 v50 fun v51=>
aD v51 h48 fun v52=>
asI .i64 v52 fun n53=>
aS x0 fun v54=>
aB 13 v54 fun v55=>
aD v55 h48 fun v56=>
asI .i64 v56 fun n57=>
(bif (decide ((n53:Int)<n57)) then
(Q (AV.i .i64 0) h48)
else
(aS x0 fun v61=>
aB 11 v61 fun v62=>
aD v62 h48 fun v63=>
asI .i64 v63 fun n64=>
J 2 [(0,x0),(5,(AV.i .i64 n64))] h48))))
theorem Y3.call {K x0 x1 h} (H:Y3.t (aH h K) x0 x1 h (Y3.J (aH h K))):C Y3.id [x0,(AV.i .i64 x1)] h K:=
 gC Y3.J Tryd.func43 Y3.dist H
noncomputable def Y22.body:Code:=(Tryd.f44.body).getD .skip
def Y22.ann:Ann:=(sl [0] (sq [0] (sl [0,8] (.br (sl [2] lf) lf)) (sl [0,3] (sq [3] (sl [0,3,4] (.one (.loop 1 [0,3,4] (sq [0,3,4] (sl [0,3,4,10] bl) (.seq 2 [0,3,4] (.one (sl [0,3,4,5] (sl [0,3,4,20] bl))) lf))))) (sl [2] lf)))))
theorem Y22.dist:aI (places Y22.ann Y22.body)=true:=by kernel_rfl
noncomputable def Y22.J (Q:AV→aA→Prop):JT:=bH prog C Tryd.f44 Y22.ann Y22.body Q
def Y22.p1 (Q:AV→aA→Prop) (x0 x3 x4:Int) (h:aA):Prop:=Y22.J Q 2 [(0,(AV.i .i64 x0)),(3,(AV.i .i64 x3)),(4,(AV.i .i64 x4))] h
def Y22.p0 (Q:AV→aA→Prop) (x0 x3 x4:Int) (h:aA):Prop:=Y22.J Q 1 [(0,(AV.i .i64 x0)),(3,(AV.i .i64 x3)),(4,(AV.i .i64 x4))] h
def Y22.t1 (Q:AV→aA→Prop) (x0 x3 x4:Int) (h:aA) (J:JT):Prop:=
aJ (IntKind.wrap .i64 (x4+1)) fun n19=>
J 1 [(0,(AV.i .i64 x0)),(3,(AV.i .i64 x3)),(4,(AV.i .i64 n19))] h
theorem Y22.i1 {Q x0 x3 x4 h} (H:Y22.t1 Q x0 x3 x4 h (Y22.J Q)):Y22.p1 Q x0 x3 x4 h:=gR Y22.J Tryd.f44 Y22.dist [1,1,1,0,1,0,0,1,1] H
def Y22.t0 (Q:AV→aA→Prop) (x0 x3 x4:Int) (h:aA) (J:JT):Prop:=
(bif (decide ((x4:Int)<285)) then
(C Y52.id [(AV.i .i64 x4)] h fun v9 h10=>
aO 0 v9 fun v11=>
asI .i64 v11 fun n12=>
aO 1 v9 fun v13=>
asI .i64 v13 fun n14=>
(bif (decide ((n12:Int)≤x0)) then
(J 2 [(0,(AV.i .i64 x0)),(3,(AV.i .i64 x4)),(4,(AV.i .i64 x4))] h10)
else
(J 2 [(0,(AV.i .i64 x0)),(3,(AV.i .i64 x3)),(4,(AV.i .i64 x4))] h10)))
else
(Q (AV.i .i64 x3) h))
theorem Y22.i0 {Q x0 x3 x4 h} (H:Y22.t0 Q x0 x3 x4 h (Y22.J Q)):Y22.p0 Q x0 x3 x4 h:=gH Y22.J Tryd.f44 Y22.dist [1,1,1,0,1,0] H
def Y22.t (Q:AV→aA→Prop) (x0:Int) (h:aA) (J:JT):Prop:=
(bif (decide ((x0:Int)=258)) then
(Q (AV.i .i64 285) h)
else
(J 1 [(0,(AV.i .i64 x0)),(3,(AV.i .i64 257)),(4,(AV.i .i64 257))] h))
theorem Y22.call {K x0 h} (H:Y22.t (aH h K) x0 h (Y22.J (aH h K))):C Y22.id [(AV.i .i64 x0)] h K:=
 gC Y22.J Tryd.func44 Y22.dist H
noncomputable def Y23.body:Code:=(Tryd.f45.body).getD .skip
def Y23.ann:Ann:=(sl [0] (sl [0,3] (sq [3] (sl [0,3,7] (.one (.loop 1 [0,3,7] (sl [0,3,7,8] (sq [0,3,7] bl (.seq 2 [0,3,7] (.one (sl [0,3,4,7] (sl [0,3,4,5,7] (sl [0,3,4,7,17] bl)))) lf)))))) (sl [2] lf))))
theorem Y23.dist:aI (places Y23.ann Y23.body)=true:=by kernel_rfl
noncomputable def Y23.J (Q:AV→aA→Prop):JT:=bH prog C Tryd.f45 Y23.ann Y23.body Q
def Y23.p1 (Q:AV→aA→Prop) (x0 x3 x7:Int) (h:aA):Prop:=Y23.J Q 2 [(0,(AV.i .i64 x0)),(3,(AV.i .i64 x3)),(7,(AV.i .i64 x7))] h
def Y23.p0 (Q:AV→aA→Prop) (x0 x3 x7:Int) (h:aA):Prop:=Y23.J Q 1 [(0,(AV.i .i64 x0)),(3,(AV.i .i64 x3)),(7,(AV.i .i64 x7))] h
def Y23.t1 (Q:AV→aA→Prop) (x0 x3 x7:Int) (h:aA) (J:JT):Prop:=
aJ (IntKind.wrap .i64 (x7+1)) fun n17=>
J 1 [(0,(AV.i .i64 x0)),(3,(AV.i .i64 x3)),(7,(AV.i .i64 n17))] h
theorem Y23.i1 {Q x0 x3 x7 h} (H:Y23.t1 Q x0 x3 x7 h (Y23.J Q)):Y23.p1 Q x0 x3 x7 h:=gR Y23.J Tryd.f45 Y23.dist [1,1,0,1,0,0,1,1,1] H
def Y23.t0 (Q:AV→aA→Prop) (x0 x3 x7:Int) (h:aA) (J:JT):Prop:=
(bif (decide ((x7:Int)<30)) then
(C Y49.id [(AV.i .i64 x7)] h fun v7 h8=>
aO 0 v7 fun v9=>
asI .i64 v9 fun n10=>
aO 1 v7 fun v11=>
asI .i64 v11 fun n12=>
(bif (decide ((n10:Int)≤x0)) then
(J 2 [(0,(AV.i .i64 x0)),(3,(AV.i .i64 x7)),(7,(AV.i .i64 x7))] h8)
else
(J 2 [(0,(AV.i .i64 x0)),(3,(AV.i .i64 x3)),(7,(AV.i .i64 x7))] h8)))
else
(Q (AV.i .i64 x3) h))
theorem Y23.i0 {Q x0 x3 x7 h} (H:Y23.t0 Q x0 x3 x7 h (Y23.J Q)):Y23.p0 Q x0 x3 x7 h:=gH Y23.J Tryd.f45 Y23.dist [1,1,0,1,0] H
def Y23.t (Q:AV→aA→Prop) (x0:Int) (h:aA) (J:JT):Prop:=
J 1 [(0,(AV.i .i64 x0)),(3,(AV.i .i64 0)),(7,(AV.i .i64 0))] h
theorem Y23.call {K x0 h} (H:Y23.t (aH h K) x0 h (Y23.J (aH h K))):C Y23.id [(AV.i .i64 x0)] h K:=
 gC Y23.J Tryd.func45 Y23.dist H
end Go.Proofs.YtpaphfeihpgamaaDoor
