/- Lemmas (several texts in one). -/
import Derived.Test.YtpaphfeihpgamaaDoorProg
import Derived.KernelRfl
import Derived.Test.YtpaphfeihpgamaaDoorMg1
set_option linter.unusedVariables false
set_option linter.unusedSectionVars false
set_option maxRecDepth 100000
namespace Go.Proofs.YtpaphfeihpgamaaDoor
open Go.GAM
noncomputable abbrev prog:Program:=Tryd.prog
class XR where
 X:aU
abbrev X [XR]:aU:=XR.X
abbrev C [XR]:aU:=dS prog X
abbrev lf:Ann:=.leaf
def nn:Nat→Nat→Go.GAM.Ord→Go.GAM.Ord
 | _,0,o=>o
 | i,k+1,o=>.neu i (nn (i+1) k o)
abbrev bl:Ann:=.br .leaf .leaf
abbrev sl (l:List Nat) (x:Ann):Ann:=.seq 0 l .leaf x
abbrev sq (l:List Nat) (x y:Ann):Ann:=.seq 0 l x y
theorem gR [XR] {ann:Ann} {body:Code} (J:(AV→aA→Prop)→JT) (fn:Func) (hd:aH (places ann body)=true) {Q:AV→aA→Prop} {k:Nat} (p:List Nat) {e:Env} {h:aA} {a:JT→Prop} (H:a (J Q)) (hJ:J=bI prog C fn ann body:=by exact rfl) (hl:iZ (places ann body) k=some (p,false):=by kernel_rfl) (he:∀ j,a j=atJ prog C fn.ntmps j false p ann body e h (oF prog fn Q):=by intro j; kernel_rfl):J Q k e h:=by
 subst hJ
 exact aD8 (gX X) hd hl (he _ ▸ H)
theorem gH [XR] {ann:Ann} {body:Code} (J:(AV→aA→Prop)→JT) (fn:Func) (hd:aH (places ann body)=true) {Q:AV→aA→Prop} {k:Nat} (p:List Nat) {e:Env} {h:aA} {a:JT→Prop} (H:a (J Q)) (hJ:J=bI prog C fn ann body:=by exact rfl) (hl:iZ (places ann body) k=some (p,true):=by kernel_rfl) (he:∀ j,a j=atJ prog C fn.ntmps j true p ann body e h (oF prog fn Q):=by intro j; kernel_rfl):J Q k e h:=by
 subst hJ
 exact aBK (gX X) hd hl (he _ ▸ H)
theorem gC [XR] {f:FuncId} {fn:Func} {ann:Ann} {body:Code} (J:(AV→aA→Prop)→JT) (hf:prog.funcs[f]? = some fn) (hd:aH (places ann body)=true) {args:List AV} {h:aA} {K:AV→aA→Prop} {a:JT→Prop} (H:a (J (aK h K))) (hJ:J=bI prog C fn ann body:=by exact rfl) (hb:fn.body=some body:=by kernel_rfl) (hn:(fn.name == "runtime.NumGoroutine")=false:=by kernel_rfl) (ha:Nat.ble args.length fn.ntmps=true:=by kernel_rfl) (he:∀ j,a j=exJ prog C fn.ntmps j ann body (dL 0 args) h (oF prog fn (aK h K)):=by intro j; kernel_rfl):C f args h K:=by
 subst hJ
 exact aFQ hf hb hn hd ha (he _ ▸ H)
abbrev Y34.id:FuncId:=4
abbrev Y29.id:FuncId:=9
abbrev Y53.id:FuncId:=10
abbrev Y23.id:FuncId:=12
abbrev Y31.id:FuncId:=13
abbrev Y42.id:FuncId:=14
abbrev Y8.id:FuncId:=15
abbrev Y78.id:FuncId:=16
abbrev Y0.id:FuncId:=17
abbrev Y52.id:FuncId:=25
abbrev Y35.id:FuncId:=27
abbrev Y30.id:FuncId:=28
abbrev Y63.id:FuncId:=29
abbrev Y17.id:FuncId:=30
abbrev Y12.id:FuncId:=31
abbrev Y16.id:FuncId:=32
abbrev Y11.id:FuncId:=33
abbrev Y25.id:FuncId:=34
abbrev Y1.id:FuncId:=35
abbrev Y44.id:FuncId:=36
abbrev Y55.id:FuncId:=37
abbrev Y54.id:FuncId:=38
abbrev Y27.id:FuncId:=39
abbrev Y14.id:FuncId:=40
abbrev Y58.id:FuncId:=41
abbrev Y46.id:FuncId:=42
abbrev Y2.id:FuncId:=43
abbrev Y18.id:FuncId:=44
abbrev Y19.id:FuncId:=45
abbrev Y13.id:FuncId:=50
abbrev Y26.id:FuncId:=51
abbrev Y74.id:FuncId:=58
abbrev Y24.id:FuncId:=59
abbrev Y37.id:FuncId:=62
abbrev Y4.id:FuncId:=63
abbrev Y21.id:FuncId:=64
abbrev Y41.id:FuncId:=65
abbrev Y47.id:FuncId:=66
abbrev Y38.id:FuncId:=67
abbrev Y40.id:FuncId:=68
abbrev Y5.id:FuncId:=69
abbrev Y36.id:FuncId:=70
abbrev Y61.id:FuncId:=71
abbrev Y67.id:FuncId:=72
abbrev Y68.id:FuncId:=73
abbrev Y60.id:FuncId:=74
abbrev Y20.id:FuncId:=75
abbrev Y6.id:FuncId:=79
abbrev Y10.id:FuncId:=80
abbrev Y7.id:FuncId:=84
abbrev Y39.id:FuncId:=85
abbrev Y83.id:FuncId:=86
abbrev Y49.id:FuncId:=87
abbrev Y70.id:FuncId:=88
abbrev Y80.id:FuncId:=89
abbrev Y76.id:FuncId:=90
abbrev Y73.id:FuncId:=91
abbrev Y51.id:FuncId:=92
abbrev Y57.id:FuncId:=93
abbrev Y66.id:FuncId:=94
abbrev Y77.id:FuncId:=95
abbrev Y75.id:FuncId:=96
abbrev Y50.id:FuncId:=97
abbrev Y15.id:FuncId:=101
abbrev Y81.id:FuncId:=102
abbrev Y79.id:FuncId:=104
abbrev Y33.id:FuncId:=105
abbrev Y64.id:FuncId:=106
abbrev Y22.id:FuncId:=107
abbrev Y9.id:FuncId:=108
abbrev Y43.id:FuncId:=109
abbrev Y48.id:FuncId:=110
abbrev Y69.id:FuncId:=111
abbrev Y82.id:FuncId:=112
abbrev Y45.id:FuncId:=113
abbrev Y72.id:FuncId:=114
abbrev Y65.id:FuncId:=115
abbrev Y59.id:FuncId:=116
abbrev Y71.id:FuncId:=117
abbrev Y28.id:FuncId:=118
abbrev Y56.id:FuncId:=119
abbrev Y62.id:FuncId:=120
abbrev Y32.id:FuncId:=121
variable [XR]
noncomputable def Y29.body:Code:=(Tryd.f9.body).getD .skip
def Y29.ann:Ann:=(sl [] (sl [1,2] (sl [1,2,4] (.seq 1 [0] lf lf))))
theorem Y29.dist:aH (places Y29.ann Y29.body)=true:=by kernel_rfl
noncomputable def Y29.J (Q:AV→aA→Prop):JT:=bI prog C Tryd.f9 Y29.ann Y29.body Q
def Y29.p0 (Q:AV→aA→Prop) (x0:Bool) (h:aA):Prop:=Y29.J Q 1 [(0,(AV.b x0))] h
def Y29.t0 (Q:AV→aA→Prop) (x0:Bool) (h:aA) (J:JT):Prop:=
Q (AV.b x0) h
theorem Y29.i0 {Q x0 h} (H:Y29.t0 Q x0 h (Y29.J Q)):Y29.p0 Q x0 h:=gR Y29.J Tryd.f9 Y29.dist [1,1,1,1] H
def Y29.t (Q:AV→aA→Prop) (h:aA) (J:JT):Prop:=
C Y52.id [] h fun v1 h2=>
C Y53.id [(AV.s [75,4,0]),v1] h2 fun v3 h4=>
aR 0 v3 fun v5=>
asS v5 fun l6=>
aR 1 v3 fun v7=>
asI .i64 v7 fun n8=>
C Y52.id [] h4 fun v10 h11=>
C Y53.id [(AV.s [75,4]),v10] h11 fun v12 h13=>
aR 0 v12 fun v14=>
asS v14 fun l15=>
aR 1 v12 fun v16=>
asI .i64 v16 fun n17=>
(bif (decide ((l6:List UInt8)=[97])) then
((bif (decide ((n8:Int)=0)) then
((bif (decide ((n17:Int)=1)) then
(C Y23.id [(AV.s [97])] h13 fun v19 h20=>
asS v19 fun l21=>
(bif (decide ((l21:List UInt8)=[1,1,0,254,255,97])) then
(C Y42.id [(AV.s [97])] h20 fun v22 h23=>
asS v22 fun l24=>
(bif (decide ((l24:List UInt8)=[75,4,0])) then
(C Y42.id [(AV.s [97,97,97,97,97,97])] h23 fun v25 h26=>
asS v25 fun l27=>
J 1 [(0,(AV.b (decide ((l27:List UInt8)=[75,4,3,0]))))] h26)
else
(J 1 [(0,(AV.b false))] h23)))
else
(J 1 [(0,(AV.b false))] h20)))
else
(J 1 [(0,(AV.b false))] h13)))
else
(J 1 [(0,(AV.b false))] h13)))
else
(J 1 [(0,(AV.b false))] h13))
theorem Y29.call {K h} (H:Y29.t (aK h K) h (Y29.J (aK h K))):C Y29.id [] h K:=
 gC Y29.J Tryd.func9 Y29.dist H
noncomputable def Y53.body:Code:=(Tryd.f10.body).getD .skip
def Y53.ann:Ann:=(sl [0,3] (sl [0,6] (sl [6,7,8] (sq [7] (.one (sl [6,7,8,17] (.br (sl [4,5] lf) (sl [6,7,21] (.br (sl [4,5] lf) (sl [7,27] (.br (sl [4,5] lf) lf))))))) (sl [4,5] lf)))))
theorem Y53.dist:aH (places Y53.ann Y53.body)=true:=by kernel_rfl
noncomputable def Y53.J (Q:AV→aA→Prop):JT:=bI prog C Tryd.f10 Y53.ann Y53.body Q
def Y53.t (Q:AV→aA→Prop) (x0:List UInt8) (x1:AV) (h:aA) (J:JT):Prop:=
dD (some 23) x1 h fun v0 h1=>
dZ 2 v0 h1 fun v3=>
C Y78.id [v3] h1 fun v4 h5=>
C Y0.id [v4,(AV.s x0)] h5 fun v7 h8=>
aR 0 v7 fun v9=>
asS v9 fun l10=>
aR 1 v7 fun v11=>
asI .i64 v11 fun n12=>
(bif (!decide ((n12:Int)=0)) then
(Q (AV.tu [(AV.s []),(AV.i .i64 n12)]) h8)
else
(aZ v4 fun v16=>
aC 7 v16 fun v17=>
aB v17 h8 fun v18=>
asB v18 fun c19=>
(bif (!c19) then
(Q (AV.tu [(AV.s []),(AV.i .i64 1)]) h8)
else
(aZ v4 fun v22=>
aC 10 v22 fun v23=>
aB v23 h8 fun v24=>
asS v24 fun l25=>
(bif (!(decide ((l25:List UInt8)=[]))) then
(Q (AV.tu [(AV.s []),(AV.i .i64 2)]) h8)
else
(Q (AV.tu [(AV.s l10),(AV.i .i64 0)]) h8))))))
theorem Y53.call {K x0 x1 h} (H:Y53.t (aK h K) x0 x1 h (Y53.J (aK h K))):C Y53.id [(AV.s x0),x1] h K:=
 gC Y53.J Tryd.func10 Y53.dist H
noncomputable def Y23.body:Code:=(Tryd.f12.body).getD .skip
def Y23.ann:Ann:=(sl [0] (sl [0,3] (.one (.loop 1 [0,3] (.one (sl [0,3,4] (sl [0,3,4,5] (.seq 2 [0,3,4,5] (sl [0,3,4,5,12] bl) (sl [0,3,4,5] (sl [0,3,4,5] (sl [0,3,5] (sl [0,3,36] (.br (sl [2] lf) lf)))))))))))))
theorem Y23.dist:aH (places Y23.ann Y23.body)=true:=by kernel_rfl
noncomputable def Y23.J (Q:AV→aA→Prop):JT:=bI prog C Tryd.f12 Y23.ann Y23.body Q
def Y23.p1 (Q:AV→aA→Prop) (x0:List UInt8) (x3:AV) (x4 x5:Int) (h:aA):Prop:=Y23.J Q 2 [(0,(AV.s x0)),(3,x3),(4,(AV.i .i64 x4)),(5,(AV.i .u8 x5))] h
def Y23.p0 (Q:AV→aA→Prop) (x0:List UInt8) (x3:AV) (h:aA):Prop:=Y23.J Q 1 [(0,(AV.s x0)),(3,x3)] h
def Y23.t1 (Q:AV→aA→Prop) (x0:List UInt8) (x3:AV) (x4 x5:Int) (h:aA) (J:JT):Prop:=
jV .i64 x4 8 fun n10=>
aJ (bK .xor .u8 (IntKind.max .u8) (IntKind.wrap .u8 x4)) fun n11=>
jV .i64 x4 8 fun n12=>
aJ (bK .xor .u8 (IntKind.max .u8) (IntKind.wrap .u8 n12)) fun n13=>
bF 1 5 [(AV.i .u8 0),(AV.i .u8 0),(AV.i .u8 0),(AV.i .u8 0),(AV.i .u8 0)] [(0,1,(AV.i .u8 x5)),(1,1,(AV.i .u8 (IntKind.wrap .u8 x4))),(2,1,(AV.i .u8 (IntKind.wrap .u8 n10))),(3,1,(AV.i .u8 n11)),(4,1,(AV.i .u8 n13))] h fun v14 h15=>
C Y35.id [x3,v14] h15 fun v16 h17=>
bX (AV.s x0) none (some (AV.i .i64 x4)) fun l19=>
C Y30.id [x3,(AV.s l19)] h17 fun v20 h21=>
bX (AV.s x0) (some (AV.i .i64 x4)) none fun l23=>
(bif (decide ((x5:Int)=1)) then
(C Y63.id [x3] h21 fun v26 h27=>
asS v26 fun l28=>
Q (AV.s l28) h27)
else
(J 1 [(0,(AV.s l23)),(3,x3)] h21))
theorem Y23.i1 {Q x0 x3 x4 x5 h} (H:Y23.t1 Q x0 x3 x4 x5 h (Y23.J Q)):Y23.p1 Q x0 x3 x4 x5 h:=gR Y23.J Tryd.f12 Y23.dist [1,1,0,0,0,1,1,1] H
def Y23.t0 (Q:AV→aA→Prop) (x0:List UInt8) (x3:AV) (h:aA) (J:JT):Prop:=
aJ (mmI false (x0.length:Int) 65535) fun n4=>
(bif (decide ((n4:Int)=(x0.length:Int))) then
(J 2 [(0,(AV.s x0)),(3,x3),(4,(AV.i .i64 n4)),(5,(AV.i .u8 1))] h)
else
(J 2 [(0,(AV.s x0)),(3,x3),(4,(AV.i .i64 n4)),(5,(AV.i .u8 0))] h))
theorem Y23.i0 {Q x0 x3 h} (H:Y23.t0 Q x0 x3 h (Y23.J Q)):Y23.p0 Q x0 x3 h:=gH Y23.J Tryd.f12 Y23.dist [1,1,0] H
def Y23.t (Q:AV→aA→Prop) (x0:List UInt8) (h:aA) (J:JT):Prop:=
cX (some 53) [(AV.sl none 0 none),(AV.i .i64 0),(AV.i .i8 0)] h fun v1 h2=>
J 1 [(0,(AV.s x0)),(3,v1)] h2
theorem Y23.call {K x0 h} (H:Y23.t (aK h K) x0 h (Y23.J (aK h K))):C Y23.id [(AV.s x0)] h K:=
 gC Y23.J Tryd.func12 Y23.dist H
noncomputable def Y31.body:Code:=(Tryd.f13.body).getD .skip
def Y31.ann:Ann:=(sl [0] (sl [0,3] (sl [0,3,4] (.seq 1 [0,3,4] (sl [0,3,4,9] (.br (sl [0,3] lf) lf)) (sq [0,3,4,5] (.ord (nn 0 16 (nn 18 3 (.eff 16 (.neu 17 (nn 21 2 .done)) .stop)))) (sq [0,3,5] (sl [0,3,5,33] (.br (sl [2] lf) lf)) (sl [2] lf)))))))
theorem Y31.dist:aH (places Y31.ann Y31.body)=true:=by kernel_rfl
noncomputable def Y31.J (Q:AV→aA→Prop):JT:=bI prog C Tryd.f13 Y31.ann Y31.body Q
def Y31.p0 (Q:AV→aA→Prop) (x0:List UInt8) (x3 x4:Int) (h:aA):Prop:=Y31.J Q 1 [(0,(AV.s x0)),(3,(AV.i .i64 x3)),(4,(AV.i .i64 x4))] h
def Y31.t0 (Q:AV→aA→Prop) (x0:List UInt8) (x3 x4:Int) (h:aA) (J:JT):Prop:=
qX x3 256 fun n7=>
qM .i64 x3 256 fun n8=>
qX x3 256 fun n9=>
aJ (IntKind.wrap .i64 (255 - n9)) fun n10=>
qM .i64 x3 256 fun n11=>
aJ (IntKind.wrap .i64 (255 - n11)) fun n12=>
bX (AV.s x0) none (some (AV.i .i64 x3)) fun l13=>
bF 1 5 [(AV.i .u8 0),(AV.i .u8 0),(AV.i .u8 0),(AV.i .u8 0),(AV.i .u8 0)] [(0,1,(AV.i .u8 (IntKind.wrap .u8 x4))),(1,1,(AV.i .u8 (IntKind.wrap .u8 n7))),(2,1,(AV.i .u8 (IntKind.wrap .u8 n8))),(3,1,(AV.i .u8 (IntKind.wrap .u8 n10))),(4,1,(AV.i .u8 (IntKind.wrap .u8 n12)))] h fun v14 h15=>
cJ v14 h15 fun l16=>
aFJ l16 l13 fun l17=>
(bif (decide ((x4:Int)=1)) then
(Q (AV.s l17) h15)
else
(bX (AV.s x0) (some (AV.i .i64 x3)) none fun l22=>
C Y31.id [(AV.s l22)] h15 fun v23 h24=>
asS v23 fun l25=>
aFJ l17 l25 fun l26=>
Q (AV.s l26) h24))
theorem Y31.i0 {Q x0 x3 x4 h} (H:Y31.t0 Q x0 x3 x4 h (Y31.J Q)):Y31.p0 Q x0 x3 x4 h:=gR Y31.J Tryd.f13 Y31.dist [1,1,1,1] H
def Y31.t (Q:AV→aA→Prop) (x0:List UInt8) (h:aA) (J:JT):Prop:=
(bif (decide ((65535:Int)<(x0.length:Int))) then
(J 1 [(0,(AV.s x0)),(3,(AV.i .i64 65535)),(4,(AV.i .i64 0))] h)
else
(J 1 [(0,(AV.s x0)),(3,(AV.i .i64 (x0.length:Int))),(4,(AV.i .i64 1))] h))
theorem Y31.call {K x0 h} (H:Y31.t (aK h K) x0 h (Y31.J (aK h K))):C Y31.id [(AV.s x0)] h K:=
 gC Y31.J Tryd.func13 Y31.dist H
noncomputable def Y42.body:Code:=(Tryd.f14.body).getD .skip
def Y42.ann:Ann:=(sl [0] (sl [0,3] (sl [0,3] (sl [0,3,4,5] (sl [3] (sl [2] lf))))))
theorem Y42.dist:aH (places Y42.ann Y42.body)=true:=by kernel_rfl
noncomputable def Y42.J (Q:AV→aA→Prop):JT:=bI prog C Tryd.f14 Y42.ann Y42.body Q
def Y42.t (Q:AV→aA→Prop) (x0:List UInt8) (h:aA) (J:JT):Prop:=
dD (some 62) (AV.ag [(AV.sl none 0 none),(AV.i .i64 0)]) h fun v1 h2=>
C Y17.id [v1,(AV.i .i64 3),(AV.i .i64 3)] h2 fun v4 h5=>
C Y12.id [] h5 fun v7 h8=>
aR 0 v7 fun v9=>
aR 1 v7 fun v10=>
C Y11.id [(AV.s x0)] h8 fun v12 h13=>
C Y16.id [v1,v12,v9,v10] h13 fun v14 h15=>
aZ v1 fun v17=>
aC 0 v17 fun v18=>
aB v18 h15 fun v19=>
cJ v19 h15 fun l20=>
Q (AV.s l20) h15
theorem Y42.call {K x0 h} (H:Y42.t (aK h K) x0 h (Y42.J (aK h K))):C Y42.id [(AV.s x0)] h K:=
 gC Y42.J Tryd.func14 Y42.dist H
noncomputable def Y8.body:Code:=(Tryd.f15.body).getD .skip
def Y8.ann:Ann:=(sl [0] (sl [0,3] (sl [0,3] (sl [0,3] (sl [0,3,4] (sq [3] (.one (.loop 1 [0,3,4] (sq [0,3,4] (sl [0,3,4,22] bl) (.one (sl [0,3,4,5,6] (sq [0,3,4,5,6] (sl [0,3,4,5,6,30] (.br (sl [0,3,4] (sl [0,3,4] lf)) lf)) (sl [0,3,4,5,6,7] (sl [0,3,4,5,6,7,8,9] (sq [0,3,4,5,6,7,8,9] (.one (.loop 2 [0,3,4,5,6,7,8,9] (sq [0,3,4,5,6,7] (sl [0,3,4,5,6,7,8,9,46] bl) (.one (sl [0,3,4,5,6,7] lf))))) (sl [0,3,4,5,6,8,9] (sl [0,3,4,5,6] (sl [0,3,4,5,6,10] (sl [0,3,4,5,6,10,11,12] (sq [0,3,4,5,6,10,11,12] (.one (.loop 3 [0,3,4,5,6,10,11,12] (sq [0,3,4,5,6,10] (sl [0,3,4,5,6,10,11,12,70] bl) (.one (sl [0,3,4,5,6,10] lf))))) (sl [0,3,4,5,6,11,12] (sl [0,3,4,5] lf)))))))))))))))) (sl [3] (sl [2] lf))))))))
theorem Y8.dist:aH (places Y8.ann Y8.body)=true:=by kernel_rfl
noncomputable def Y8.J (Q:AV→aA→Prop):JT:=bI prog C Tryd.f15 Y8.ann Y8.body Q
def Y8.p1 (Q:AV→aA→Prop) (x0:List UInt8) (x3:AV) (x4 x5 x6 x7 x8 x9:Int) (h:aA):Prop:=Y8.J Q 2 [(0,(AV.s x0)),(3,x3),(4,(AV.i .i64 x4)),(5,(AV.i .i64 x5)),(6,(AV.i .i64 x6)),(7,(AV.i .i64 x7)),(8,(AV.i .i64 x8)),(9,(AV.i .i64 x9))] h
def Y8.p2 (Q:AV→aA→Prop) (x0:List UInt8) (x3:AV) (x4 x5 x6 x10 x11 x12:Int) (h:aA):Prop:=Y8.J Q 3 [(0,(AV.s x0)),(3,x3),(4,(AV.i .i64 x4)),(5,(AV.i .i64 x5)),(6,(AV.i .i64 x6)),(10,(AV.i .i64 x10)),(11,(AV.i .i64 x11)),(12,(AV.i .i64 x12))] h
def Y8.p0 (Q:AV→aA→Prop) (x0:List UInt8) (x3:AV) (x4:Int) (h:aA):Prop:=Y8.J Q 1 [(0,(AV.s x0)),(3,x3),(4,(AV.i .i64 x4))] h
def Y8.t1 (Q:AV→aA→Prop) (x0:List UInt8) (x3:AV) (x4 x5 x6 x7 x8 x9:Int) (h:aA) (J:JT):Prop:=
(bif (decide ((x5:Int)<x8)) then
(aJ (IntKind.wrap .i64 (x7 - 1)) fun n41=>
C Y55.id [(AV.i .i64 n41)] h fun v43 h44=>
aR 0 v43 fun v45=>
asI .i64 v45 fun n46=>
aR 1 v43 fun v47=>
asI .i64 v47 fun n48=>
J 2 [(0,(AV.s x0)),(3,x3),(4,(AV.i .i64 x4)),(5,(AV.i .i64 x5)),(6,(AV.i .i64 x6)),(7,(AV.i .i64 n41)),(8,(AV.i .i64 n46)),(9,(AV.i .i64 n48))] h44)
else
(C Y44.id [x3,(AV.i .i64 x7)] h fun v50 h51=>
aJ (IntKind.wrap .i64 (x5 - x8)) fun n53=>
C Y25.id [x3,(AV.i .i64 n53),(AV.i .i64 x9)] h51 fun v54 h55=>
C Y54.id [(AV.i .i64 29)] h55 fun v58 h59=>
aR 0 v58 fun v60=>
asI .i64 v60 fun n61=>
aR 1 v58 fun v62=>
asI .i64 v62 fun n63=>
J 3 [(0,(AV.s x0)),(3,x3),(4,(AV.i .i64 x4)),(5,(AV.i .i64 x5)),(6,(AV.i .i64 x6)),(10,(AV.i .i64 29)),(11,(AV.i .i64 n61)),(12,(AV.i .i64 n63))] h59))
theorem Y8.i1 {Q x0 x3 x4 x5 x6 x7 x8 x9 h} (H:Y8.t1 Q x0 x3 x4 x5 x6 x7 x8 x9 h (Y8.J Q)):Y8.p1 Q x0 x3 x4 x5 x6 x7 x8 x9 h:=gH Y8.J Tryd.f15 Y8.dist [1,1,1,1,1,0,0,0,1,0,1,1,1,1,0,0] H
def Y8.t2 (Q:AV→aA→Prop) (x0:List UInt8) (x3:AV) (x4 x5 x6 x10 x11 x12:Int) (h:aA) (J:JT):Prop:=
(bif (decide ((x6:Int)<x11)) then
(aJ (IntKind.wrap .i64 (x10 - 1)) fun n68=>
C Y54.id [(AV.i .i64 n68)] h fun v70 h71=>
aR 0 v70 fun v72=>
asI .i64 v72 fun n73=>
aR 1 v70 fun v74=>
asI .i64 v74 fun n75=>
J 3 [(0,(AV.s x0)),(3,x3),(4,(AV.i .i64 x4)),(5,(AV.i .i64 x5)),(6,(AV.i .i64 x6)),(10,(AV.i .i64 n68)),(11,(AV.i .i64 n73)),(12,(AV.i .i64 n75))] h71)
else
(C Y27.id [x3,(AV.i .i64 x10),(AV.i .i64 5)] h fun v77 h78=>
aJ (IntKind.wrap .i64 (x6 - x11)) fun n80=>
C Y25.id [x3,(AV.i .i64 n80),(AV.i .i64 x12)] h78 fun v81 h82=>
aJ (IntKind.wrap .i64 (x4+x5)) fun n84=>
J 1 [(0,(AV.s x0)),(3,x3),(4,(AV.i .i64 n84))] h82))
theorem Y8.i2 {Q x0 x3 x4 x5 x6 x10 x11 x12 h} (H:Y8.t2 Q x0 x3 x4 x5 x6 x10 x11 x12 h (Y8.J Q)):Y8.p2 Q x0 x3 x4 x5 x6 x10 x11 x12 h:=gH Y8.J Tryd.f15 Y8.dist [1,1,1,1,1,0,0,0,1,0,1,1,1,1,1,1,1,1,1,0,0] H
def Y8.t0 (Q:AV→aA→Prop) (x0:List UInt8) (x3:AV) (x4:Int) (h:aA) (J:JT):Prop:=
(bif (decide ((x4:Int)<(x0.length:Int))) then
(C Y1.id [(AV.s x0),(AV.i .i64 x4)] h fun v14 h15=>
aR 0 v14 fun v16=>
asI .i64 v16 fun n17=>
aR 1 v14 fun v18=>
asI .i64 v18 fun n19=>
(bif (decide ((n17:Int)<3)) then
(dU (AV.s x0) (AV.i .i64 x4) fun n22=>
C Y44.id [x3,(AV.i .i64 (IntKind.wrap .i64 n22))] h15 fun v23 h24=>
aJ (IntKind.wrap .i64 (x4+1)) fun n26=>
J 1 [(0,(AV.s x0)),(3,x3),(4,(AV.i .i64 n26))] h24)
else
(C Y55.id [(AV.i .i64 285)] h15 fun v31 h32=>
aR 0 v31 fun v33=>
asI .i64 v33 fun n34=>
aR 1 v31 fun v35=>
asI .i64 v35 fun n36=>
J 2 [(0,(AV.s x0)),(3,x3),(4,(AV.i .i64 x4)),(5,(AV.i .i64 n17)),(6,(AV.i .i64 n19)),(7,(AV.i .i64 285)),(8,(AV.i .i64 n34)),(9,(AV.i .i64 n36))] h32)))
else
(C Y44.id [x3,(AV.i .i64 256)] h fun v86 h87=>
C Y14.id [x3] h87 fun v89 h90=>
asS v89 fun l91=>
Q (AV.s l91) h90))
theorem Y8.i0 {Q x0 x3 x4 h} (H:Y8.t0 Q x0 x3 x4 h (Y8.J Q)):Y8.p0 Q x0 x3 x4 h:=gH Y8.J Tryd.f15 Y8.dist [1,1,1,1,1,0,0] H
def Y8.t (Q:AV→aA→Prop) (x0:List UInt8) (h:aA) (J:JT):Prop:=
dD (some 72) (AV.ag [(AV.sl none 0 none)]) h fun v1 h2=>
C Y25.id [v1,(AV.i .i64 1),(AV.i .i64 1)] h2 fun v4 h5=>
C Y25.id [v1,(AV.i .i64 1),(AV.i .i64 2)] h5 fun v7 h8=>
J 1 [(0,(AV.s x0)),(3,v1),(4,(AV.i .i64 0))] h8
theorem Y8.call {K x0 h} (H:Y8.t (aK h K) x0 h (Y8.J (aK h K))):C Y8.id [(AV.s x0)] h K:=
 gC Y8.J Tryd.func15 Y8.dist H
noncomputable def Y78.body:Code:=(Tryd.f16.body).getD .skip
def Y78.ann:Ann:=(sl [1] (sq [3] (.ord (nn 0 2 (nn 3 2 (.eff 2 (.eff 5 (nn 6 2 (.eff 8 (.neu 9 .done) .stop)) .stop) .stop)))) (sl [3] (sl [2] lf))))
theorem Y78.dist:aH (places Y78.ann Y78.body)=true:=by kernel_rfl
noncomputable def Y78.J (Q:AV→aA→Prop):JT:=bI prog C Tryd.f16 Y78.ann Y78.body Q
def Y78.t (Q:AV→aA→Prop) (x0:AV) (h:aA) (J:JT):Prop:=
dD (some 23) x0 h fun v0 h1=>
aC 0 v0 fun v3=>
aB v3 h1 fun v4=>
asI .i64 v4 fun n5=>
aC 1 v0 fun v6=>
aB v6 h1 fun v7=>
asI .i64 v7 fun n8=>
C Y58.id [(AV.i .i64 n5),(AV.i .i64 0),(AV.i .i64 65536)] h1 fun v9 h10=>
asI .i64 v9 fun n11=>
aB v6 h10 fun v12=>
asI .i64 v12 fun n13=>
((AV.i .i64 n8)=(AV.i .i64 n13) ∧
(C Y58.id [(AV.i .i64 n8),(AV.i .i64 1),(AV.i .i64 1100)] h10 fun v14 h15=>
asI .i64 v14 fun n16=>
iU [(AV.i .i64 0),(AV.i .i64 0),(AV.sl none 0 none),(AV.i .i64 0),(AV.sl none 0 none),(AV.i .i64 0),(AV.b false),(AV.b false),(AV.b false),(AV.b false),(AV.s []),(AV.i .i64 0),(AV.i .i64 0),(AV.i .i64 0),(AV.p none),AV.nf] [(0,2,(AV.ag [(AV.i .i64 n11),(AV.i .i64 n16)]))] fun v17=>
dD (some 47) v17 h15 fun v18 h19=>
C Y46.id [v18] h19 fun v21 h22=>
asI .i64 v21 fun n23=>
Q v18 h22))
theorem Y78.call {K x0 h} (H:Y78.t (aK h K) x0 h (Y78.J (aK h K))):C Y78.id [x0] h K:=
 gC Y78.J Tryd.func16 Y78.dist H
noncomputable def Y0.body:Code:=(Tryd.f17.body).getD .skip
def Y0.ann:Ann:=(sl [0,1] (sq [0,1] (.one (sl [0,1,9] (.br (sl [4,5] lf) (.seq 1 [0,1,12] lf (.br (sl [4,5] lf) lf))))) (sl [0,1] (.seq 5 [0] (sl [0,1,27,28] (.one (.loop 2 [0,1,27,28] (sl [0,1,27,28,29] (sq [0,1,27,28] bl (sq [0,1,27,28] (.one (sl [0,1,6,27,28] (sl [0,1,6,27,28] (sl [0,1,6,27,28] (sq [0,1,6,27,28] (sl [0,1,6,7,27,28] (.one (.loop 3 [0,1,6,7,27,28] (sq [0,1,6,7,27,28] (.seq 4 [0,1,6,7,27,28,56] lf bl) (sq [0,1,6,7,27,28] (.one (sl [0,1,6,7,8,27,28] (sl [0,1,6,7,8,27,28,69] (.br (sl [0,8] (sl [4,5] lf)) lf)))) lf))))) (sl [0,1,6,27,28,82] (.br (sl [0] lf) lf))))))) lf)))))) (sl [4,5] lf)))))
theorem Y0.dist:aH (places Y0.ann Y0.body)=true:=by kernel_rfl
noncomputable def Y0.J (Q:AV→aA→Prop):JT:=bI prog C Tryd.f17 Y0.ann Y0.body Q
def Y0.p0 (Q:AV→aA→Prop) (x0:AV) (x1:List UInt8) (x12:Bool) (h:aA):Prop:=Y0.J Q 1 [(0,x0),(1,(AV.s x1)),(12,(AV.b x12))] h
def Y0.p3 (Q:AV→aA→Prop) (x0:AV) (x1:List UInt8) (x6 x7 x27 x28:Int) (x56:Bool) (h:aA):Prop:=Y0.J Q 4 [(0,x0),(1,(AV.s x1)),(6,(AV.i .i64 x6)),(7,(AV.i .i64 x7)),(27,(AV.i .i64 x27)),(28,(AV.i .i64 x28)),(56,(AV.b x56))] h
def Y0.p2 (Q:AV→aA→Prop) (x0:AV) (x1:List UInt8) (x6 x7 x27 x28:Int) (h:aA):Prop:=Y0.J Q 3 [(0,x0),(1,(AV.s x1)),(6,(AV.i .i64 x6)),(7,(AV.i .i64 x7)),(27,(AV.i .i64 x27)),(28,(AV.i .i64 x28))] h
def Y0.p1 (Q:AV→aA→Prop) (x0:AV) (x1:List UInt8) (x27 x28:Int) (h:aA):Prop:=Y0.J Q 2 [(0,x0),(1,(AV.s x1)),(27,(AV.i .i64 x27)),(28,(AV.i .i64 x28))] h
def Y0.p4 (Q:AV→aA→Prop) (x0:AV) (h:aA):Prop:=Y0.J Q 5 [(0,x0)] h
def Y0.t0 (Q:AV→aA→Prop) (x0:AV) (x1:List UInt8) (x12:Bool) (h:aA) (J:JT):Prop:=
(bif x12 then
(Q (AV.tu [(AV.s []),(AV.i .i64 10)]) h)
else
(aZ x0 fun v17=>
aC 4 v17 fun v18=>
aV 1 v18 (AV.sl none 0 none) h fun h19=>
J 2 [(0,x0),(1,(AV.s x1)),(27,(AV.i .i64 (x1.length:Int))),(28,(AV.i .i64 0))] h19))
theorem Y0.i0 {Q x0 x1 x12 h} (H:Y0.t0 Q x0 x1 x12 h (Y0.J Q)):Y0.p0 Q x0 x1 x12 h:=gR Y0.J Tryd.f17 Y0.dist [1,0,0,1,1,1] H
def Y0.t3 (Q:AV→aA→Prop) (x0:AV) (x1:List UInt8) (x6 x7 x27 x28:Int) (x56:Bool) (h:aA) (J:JT):Prop:=
(bif x56 then
(dU (AV.s x1) (AV.i .i64 x6) fun n53=>
jV .i64 (IntKind.wrap .i64 n53) x7 fun n54=>
C Y2.id [x0,(AV.i .i64 (bK .and .i64 n54 1))] h fun v55 h56=>
asI .i64 v55 fun n57=>
(bif (!decide ((n57:Int)=0)) then
(aZ x0 fun v60=>
aC 8 v60 fun v61=>
aV 1 v61 (AV.b true) h56 fun h62=>
aZ x0 fun v64=>
aC 4 v64 fun v65=>
aB v65 h62 fun v66=>
cJ v66 h62 fun l67=>
Q (AV.tu [(AV.s l67),(AV.i .i64 n57)]) h62)
else
(aJ (IntKind.wrap .i64 (x7+1)) fun n70=>
J 3 [(0,x0),(1,(AV.s x1)),(6,(AV.i .i64 x6)),(7,(AV.i .i64 n70)),(27,(AV.i .i64 x27)),(28,(AV.i .i64 x28))] h56)))
else
(aZ x0 fun v72=>
aC 7 v72 fun v73=>
aB v73 h fun v74=>
asB v74 fun c75=>
(bif c75 then
(aJ (IntKind.wrap .i64 (x6+1)) fun n77=>
bX (AV.s x1) (some (AV.i .i64 n77)) none fun l78=>
aZ x0 fun v79=>
aC 10 v79 fun v80=>
aV 1 v80 (AV.s l78) h fun h81=>
J 5 [(0,x0)] h81)
else
(aJ (IntKind.wrap .i64 (x28+1)) fun n85=>
J 2 [(0,x0),(1,(AV.s x1)),(27,(AV.i .i64 x27)),(28,(AV.i .i64 n85))] h))))
theorem Y0.i3 {Q x0 x1 x6 x7 x27 x28 x56 h} (H:Y0.t3 Q x0 x1 x6 x7 x27 x28 x56 h (Y0.J Q)):Y0.p3 Q x0 x1 x6 x7 x27 x28 x56 h:=gR Y0.J Tryd.f17 Y0.dist [1,1,1,0,1,0,0,1,1,0,0,1,1,1,0,1,0,0,0,1] H
def Y0.t2 (Q:AV→aA→Prop) (x0:AV) (x1:List UInt8) (x6 x7 x27 x28:Int) (h:aA) (J:JT):Prop:=
(bif (decide ((x7:Int)<8)) then
(aZ x0 fun v40=>
aC 9 v40 fun v41=>
aB v41 h fun v42=>
asB v42 fun c43=>
(bif (!c43) then
(aZ x0 fun v44=>
aC 7 v44 fun v45=>
aB v45 h fun v46=>
asB v46 fun c47=>
J 4 [(0,x0),(1,(AV.s x1)),(6,(AV.i .i64 x6)),(7,(AV.i .i64 x7)),(27,(AV.i .i64 x27)),(28,(AV.i .i64 x28)),(56,(AV.b (!c47)))] h)
else
(J 4 [(0,x0),(1,(AV.s x1)),(6,(AV.i .i64 x6)),(7,(AV.i .i64 x7)),(27,(AV.i .i64 x27)),(28,(AV.i .i64 x28)),(56,(AV.b false))] h)))
else
(J 4 [(0,x0),(1,(AV.s x1)),(6,(AV.i .i64 x6)),(7,(AV.i .i64 x7)),(27,(AV.i .i64 x27)),(28,(AV.i .i64 x28)),(56,(AV.b false))] h))
theorem Y0.i2 {Q x0 x1 x6 x7 x27 x28 h} (H:Y0.t2 Q x0 x1 x6 x7 x27 x28 h (Y0.J Q)):Y0.p2 Q x0 x1 x6 x7 x27 x28 h:=gH Y0.J Tryd.f17 Y0.dist [1,1,1,0,1,0,0,1,1,0,0,1,1,1,0,1,0] H
def Y0.t1 (Q:AV→aA→Prop) (x0:AV) (x1:List UInt8) (x27 x28:Int) (h:aA) (J:JT):Prop:=
(bif (decide ((x28:Int)<x27)) then
(aZ x0 fun v26=>
aC 5 v26 fun v27=>
aB v27 h fun v28=>
asI .i64 v28 fun n29=>
aJ (IntKind.wrap .i64 (n29+1)) fun n30=>
aZ x0 fun v31=>
aC 5 v31 fun v32=>
aV 1 v32 (AV.i .i64 n30) h fun h33=>
aZ x0 fun v35=>
aC 9 v35 fun v36=>
aV 1 v36 (AV.b false) h33 fun h37=>
J 3 [(0,x0),(1,(AV.s x1)),(6,(AV.i .i64 x28)),(7,(AV.i .i64 0)),(27,(AV.i .i64 x27)),(28,(AV.i .i64 x28))] h37)
else
(J 5 [(0,x0)] h))
theorem Y0.i1 {Q x0 x1 x27 x28 h} (H:Y0.t1 Q x0 x1 x27 x28 h (Y0.J Q)):Y0.p1 Q x0 x1 x27 x28 h:=gH Y0.J Tryd.f17 Y0.dist [1,1,1,0,1,0] H
def Y0.t4 (Q:AV→aA→Prop) (x0:AV) (h:aA) (J:JT):Prop:=
aZ x0 fun v87=>
aC 4 v87 fun v88=>
aB v88 h fun v89=>
cJ v89 h fun l90=>
Q (AV.tu [(AV.s l90),(AV.i .i64 0)]) h
theorem Y0.i4 {Q x0 h} (H:Y0.t4 Q x0 h (Y0.J Q)):Y0.p4 Q x0 h:=gR Y0.J Tryd.f17 Y0.dist [1,1,1,1] H
def Y0.t (Q:AV→aA→Prop) (x0:AV) (x1:List UInt8) (h:aA) (J:JT):Prop:=
eG prog .eql 32 x0 (AV.p none) fun v1=>
asB v1 fun c2=>
(bif c2 then
(Q (AV.tu [(AV.s []),(AV.i .i64 6)]) h)
else
(aZ x0 fun v5=>
aC 8 v5 fun v6=>
aB v6 h fun v7=>
asB v7 fun c8=>
(bif c8 then
(J 1 [(0,x0),(1,(AV.s x1)),(12,(AV.b true))] h)
else
(aZ x0 fun v10=>
aC 7 v10 fun v11=>
aB v11 h fun v12=>
asB v12 fun c13=>
J 1 [(0,x0),(1,(AV.s x1)),(12,(AV.b c13))] h))))
theorem Y0.call {K x0 x1 h} (H:Y0.t (aK h K) x0 x1 h (Y0.J (aK h K))):C Y0.id [x0,(AV.s x1)] h K:=
 gC Y0.J Tryd.func17 Y0.dist H
noncomputable def Y52.body:Code:=(Tryd.f25.body).getD .skip
def Y52.ann:Ann:=(sl [0] (sl [0] lf))
theorem Y52.dist:aH (places Y52.ann Y52.body)=true:=by kernel_rfl
noncomputable def Y52.J (Q:AV→aA→Prop):JT:=bI prog C Tryd.f25 Y52.ann Y52.body Q
def Y52.t (Q:AV→aA→Prop) (h:aA) (J:JT):Prop:=
cX (some 23) [(AV.i .i64 0),(AV.i .i64 0)] h fun v0 h1=>
aV 2 v0 (AV.ag [(AV.i .i64 65536),(AV.i .i64 1100)]) h1 fun h3=>
dZ 2 v0 h3 fun v5=>
Q v5 h3
theorem Y52.call {K h} (H:Y52.t (aK h K) h (Y52.J (aK h K))):C Y52.id [] h K:=
 gC Y52.J Tryd.func25 Y52.dist H
noncomputable def Y35.body:Code:=(Tryd.f27.body).getD .skip
def Y35.ann:Ann:=(sl [0,1] (sl [0,1] (sl [0,1,6,7] (.seq 1 [0,1,6] (sl [0,1,6,19] bl) (sl [4,5] lf)))))
theorem Y35.dist:aH (places Y35.ann Y35.body)=true:=by kernel_rfl
noncomputable def Y35.J (Q:AV→aA→Prop):JT:=bI prog C Tryd.f27 Y35.ann Y35.body Q
def Y35.p0 (Q:AV→aA→Prop) (x0 x1:AV) (x6:Int) (h:aA):Prop:=Y35.J Q 1 [(0,x0),(1,x1),(6,(AV.i .i64 x6))] h
def Y35.t0 (Q:AV→aA→Prop) (x0 x1:AV) (x6:Int) (h:aA) (J:JT):Prop:=
aZ x0 fun v20=>
aC 0 v20 fun v21=>
aB v21 h fun v22=>
bG 1 v22 (some (AV.i .i64 x6)) none none h fun v23=>
iA 1 v23 x1 h fun v24 h25=>
asI .i64 v24 fun n26=>
Q (AV.tu [(AV.i .i64 n26),AV.ni]) h25
theorem Y35.i0 {Q x0 x1 x6 h} (H:Y35.t0 Q x0 x1 x6 h (Y35.J Q)):Y35.p0 Q x0 x1 x6 h:=gR Y35.J Tryd.f27 Y35.dist [1,1,1,1] H
def Y35.t (Q:AV→aA→Prop) (x0 x1:AV) (h:aA) (J:JT):Prop:=
aZ x0 fun v1=>
aC 2 v1 fun v2=>
aV 1 v2 (AV.i .i8 0) h fun h3=>
bN x1 fun n5=>
C Y37.id [x0,(AV.i .i64 n5)] h3 fun v6 h7=>
aR 0 v6 fun v8=>
asI .i64 v8 fun n9=>
aR 1 v6 fun v10=>
asB v10 fun c11=>
(bif (!c11) then
(bN x1 fun n14=>
C Y4.id [x0,(AV.i .i64 n14)] h7 fun v15 h16=>
asI .i64 v15 fun n17=>
J 1 [(0,x0),(1,x1),(6,(AV.i .i64 n17))] h16)
else
(J 1 [(0,x0),(1,x1),(6,(AV.i .i64 n9))] h7))
theorem Y35.call {K x0 x1 h} (H:Y35.t (aK h K) x0 x1 h (Y35.J (aK h K))):C Y35.id [x0,x1] h K:=
 gC Y35.J Tryd.func27 Y35.dist H
noncomputable def Y30.body:Code:=(Tryd.f28.body).getD .skip
def Y30.ann:Ann:=(sl [0,1] (sl [0,1] (sl [0,1,6,7] (.seq 1 [0,1,6] (sl [0,1,6,19] bl) (sl [4,5] lf)))))
theorem Y30.dist:aH (places Y30.ann Y30.body)=true:=by kernel_rfl
noncomputable def Y30.J (Q:AV→aA→Prop):JT:=bI prog C Tryd.f28 Y30.ann Y30.body Q
def Y30.p0 (Q:AV→aA→Prop) (x0:AV) (x1:List UInt8) (x6:Int) (h:aA):Prop:=Y30.J Q 1 [(0,x0),(1,(AV.s x1)),(6,(AV.i .i64 x6))] h
def Y30.t0 (Q:AV→aA→Prop) (x0:AV) (x1:List UInt8) (x6:Int) (h:aA) (J:JT):Prop:=
aZ x0 fun v18=>
aC 0 v18 fun v19=>
aB v19 h fun v20=>
bG 1 v20 (some (AV.i .i64 x6)) none none h fun v21=>
iA 1 v21 (AV.s x1) h fun v22 h23=>
asI .i64 v22 fun n24=>
Q (AV.tu [(AV.i .i64 n24),AV.ni]) h23
theorem Y30.i0 {Q x0 x1 x6 h} (H:Y30.t0 Q x0 x1 x6 h (Y30.J Q)):Y30.p0 Q x0 x1 x6 h:=gR Y30.J Tryd.f28 Y30.dist [1,1,1,1] H
def Y30.t (Q:AV→aA→Prop) (x0:AV) (x1:List UInt8) (h:aA) (J:JT):Prop:=
aZ x0 fun v1=>
aC 2 v1 fun v2=>
aV 1 v2 (AV.i .i8 0) h fun h3=>
C Y37.id [x0,(AV.i .i64 (x1.length:Int))] h3 fun v5 h6=>
aR 0 v5 fun v7=>
asI .i64 v7 fun n8=>
aR 1 v5 fun v9=>
asB v9 fun c10=>
(bif (!c10) then
(C Y4.id [x0,(AV.i .i64 (x1.length:Int))] h6 fun v13 h14=>
asI .i64 v13 fun n15=>
J 1 [(0,x0),(1,(AV.s x1)),(6,(AV.i .i64 n15))] h14)
else
(J 1 [(0,x0),(1,(AV.s x1)),(6,(AV.i .i64 n8))] h6))
theorem Y30.call {K x0 x1 h} (H:Y30.t (aK h K) x0 x1 h (Y30.J (aK h K))):C Y30.id [x0,(AV.s x1)] h K:=
 gC Y30.J Tryd.func28 Y30.dist H
noncomputable def Y63.body:Code:=(Tryd.f29.body).getD .skip
def Y63.ann:Ann:=(sl [0] (sq [0] (sl [0,4] (.br (sl [2] lf) lf)) (sq [2] (.ord (nn 0 11 .done)) lf)))
theorem Y63.dist:aH (places Y63.ann Y63.body)=true:=by kernel_rfl
noncomputable def Y63.J (Q:AV→aA→Prop):JT:=bI prog C Tryd.f29 Y63.ann Y63.body Q
def Y63.t (Q:AV→aA→Prop) (x0:AV) (h:aA) (J:JT):Prop:=
eG prog .eql 100 x0 (AV.p none) fun v1=>
asB v1 fun c2=>
(bif c2 then
(Q (AV.s [60,110,105,108,62]) h)
else
(aZ x0 fun v6=>
aC 0 v6 fun v7=>
aB v7 h fun v8=>
aZ x0 fun v9=>
aC 1 v9 fun v10=>
aB v10 h fun v11=>
asI .i64 v11 fun n12=>
bG 1 v8 (some (AV.i .i64 n12)) none none h fun v13=>
cJ v13 h fun l14=>
Q (AV.s l14) h))
theorem Y63.call {K x0 h} (H:Y63.t (aK h K) x0 h (Y63.J (aK h K))):C Y63.id [x0] h K:=
 gC Y63.J Tryd.func29 Y63.dist H
noncomputable def Y17.body:Code:=(Tryd.f30.body).getD .skip
def Y17.ann:Ann:=(sl [0,1,7,8] (.one (.loop 1 [0,1,7,8] (sl [0,1,7,8,9] (sq [0,1,7,8] bl (sq [0,1,7,8] (.one (sl [0,1,6,7,8] (.seq 2 [0,1,6,7,8] (sl [0,1,6,7,8,15] (.br (sl [0,1,6,7,8] lf) lf)) (sq [0,1,7,8] (.ord (nn 0 25 (.eff 25 .done .stop))) lf)))) lf))))))
theorem Y17.dist:aH (places Y17.ann Y17.body)=true:=by kernel_rfl
noncomputable def Y17.J (Q:AV→aA→Prop):JT:=bI prog C Tryd.f30 Y17.ann Y17.body Q
def Y17.p1 (Q:AV→aA→Prop) (x0:AV) (x1 x6 x7 x8:Int) (h:aA):Prop:=Y17.J Q 2 [(0,x0),(1,(AV.i .i64 x1)),(6,(AV.i .i64 x6)),(7,(AV.i .i64 x7)),(8,(AV.i .i64 x8))] h
def Y17.p0 (Q:AV→aA→Prop) (x0:AV) (x1 x7 x8:Int) (h:aA):Prop:=Y17.J Q 1 [(0,x0),(1,(AV.i .i64 x1)),(7,(AV.i .i64 x7)),(8,(AV.i .i64 x8))] h
def Y17.t1 (Q:AV→aA→Prop) (x0:AV) (x1 x6 x7 x8:Int) (h:aA) (J:JT):Prop:=
aZ x0 fun v25=>
aC 0 v25 fun v26=>
aB v26 h fun v27=>
aZ x0 fun v28=>
aC 0 v28 fun v29=>
aB v29 h fun v30=>
bN v30 fun n31=>
aJ (IntKind.wrap .i64 (n31 - 1)) fun n32=>
aP 1 v27 (AV.i .i64 n32) h fun v33=>
aB v33 h fun v34=>
asI .u8 v34 fun n35=>
jV .i64 x1 x6 fun n36=>
aJ (IntKind.wrap .u8 (bK .and .i64 n36 1)) fun n37=>
aZ x0 fun v38=>
aC 1 v38 fun v39=>
aB v39 h fun v40=>
asI .i64 v40 fun n41=>
aJ (IntKind.wrap .i64 (8 - n41)) fun n42=>
jS .u8 n37 n42 fun n43=>
aP 1 v27 (AV.i .i64 n32) h fun v44=>
aV 1 v44 (AV.i .u8 (bK .or .u8 n35 n43)) h fun h45=>
aZ x0 fun v47=>
aC 1 v47 fun v48=>
aB v48 h45 fun v49=>
asI .i64 v49 fun n50=>
aJ (IntKind.wrap .i64 (n50 - 1)) fun n51=>
aZ x0 fun v52=>
aC 1 v52 fun v53=>
aV 1 v53 (AV.i .i64 n51) h45 fun h54=>
aJ (IntKind.wrap .i64 (x8+1)) fun n56=>
J 1 [(0,x0),(1,(AV.i .i64 x1)),(7,(AV.i .i64 x7)),(8,(AV.i .i64 n56))] h54
theorem Y17.i1 {Q x0 x1 x6 x7 x8 h} (H:Y17.t1 Q x0 x1 x6 x7 x8 h (Y17.J Q)):Y17.p1 Q x0 x1 x6 x7 x8 h:=gR Y17.J Tryd.f30 Y17.dist [1,0,0,1,1,0,0,1,1] H
def Y17.t0 (Q:AV→aA→Prop) (x0:AV) (x1 x7 x8:Int) (h:aA) (J:JT):Prop:=
(bif (decide ((x8:Int)<x7)) then
(aZ x0 fun v4=>
aC 1 v4 fun v5=>
aB v5 h fun v6=>
asI .i64 v6 fun n7=>
(bif (decide ((n7:Int)=0)) then
(aZ x0 fun v9=>
aC 0 v9 fun v10=>
aB v10 h fun v11=>
bF 1 1 [(AV.i .u8 0)] [(0,1,(AV.i .u8 0))] h fun v12 h13=>
bM (some 5) 1 1 v11 v12 h13 fun v14 h15=>
aZ x0 fun v16=>
aC 0 v16 fun v17=>
aV 1 v17 v14 h15 fun h18=>
aZ x0 fun v20=>
aC 1 v20 fun v21=>
aV 1 v21 (AV.i .i64 8) h18 fun h22=>
J 2 [(0,x0),(1,(AV.i .i64 x1)),(6,(AV.i .i64 x8)),(7,(AV.i .i64 x7)),(8,(AV.i .i64 x8))] h22)
else
(J 2 [(0,x0),(1,(AV.i .i64 x1)),(6,(AV.i .i64 x8)),(7,(AV.i .i64 x7)),(8,(AV.i .i64 x8))] h)))
else
(Q (AV.tu []) h))
theorem Y17.i0 {Q x0 x1 x7 x8 h} (H:Y17.t0 Q x0 x1 x7 x8 h (Y17.J Q)):Y17.p0 Q x0 x1 x7 x8 h:=gH Y17.J Tryd.f30 Y17.dist [1,0] H
def Y17.t (Q:AV→aA→Prop) (x0:AV) (x1 x2:Int) (h:aA) (J:JT):Prop:=
J 1 [(0,x0),(1,(AV.i .i64 x1)),(7,(AV.i .i64 x2)),(8,(AV.i .i64 0))] h
theorem Y17.call {K x0 x1 x2 h} (H:Y17.t (aK h K) x0 x1 x2 h (Y17.J (aK h K))):C Y17.id [x0,(AV.i .i64 x1),(AV.i .i64 x2)] h K:=
 gC Y17.J Tryd.func30 Y17.dist H
noncomputable def Y12.body:Code:=(Tryd.f31.body).getD .skip
def Y12.ann:Ann:=(sl [0] (sq [0] (sl [0,3] (.one (.loop 1 [0,3] (sl [0,3,4] (sq [0,3] bl (.seq 3 [0,3] (.one (sl [0,2,3] (.one (.seq 2 [0,2,3,9] lf (.br lf (sl [0,3,19] bl)))))) lf)))))) (sl [0,1] lf)))
theorem Y12.dist:aH (places Y12.ann Y12.body)=true:=by kernel_rfl
noncomputable def Y12.J (Q:AV→aA→Prop):JT:=bI prog C Tryd.f31 Y12.ann Y12.body Q
def Y12.p1 (Q:AV→aA→Prop) (x0:AV) (x2 x3:Int) (x9:Bool) (h:aA):Prop:=Y12.J Q 2 [(0,x0),(2,(AV.i .i64 x2)),(3,(AV.i .i64 x3)),(9,(AV.b x9))] h
def Y12.p2 (Q:AV→aA→Prop) (x0:AV) (x3:Int) (h:aA):Prop:=Y12.J Q 3 [(0,x0),(3,(AV.i .i64 x3))] h
def Y12.p0 (Q:AV→aA→Prop) (x0:AV) (x3:Int) (h:aA):Prop:=Y12.J Q 1 [(0,x0),(3,(AV.i .i64 x3))] h
def Y12.t1 (Q:AV→aA→Prop) (x0:AV) (x2 x3:Int) (x9:Bool) (h:aA) (J:JT):Prop:=
(bif x9 then
(bF 1 1 [(AV.i .i64 0)] [(0,1,(AV.i .i64 8))] h fun v8 h9=>
bM none 1 8 x0 v8 h9 fun v10 h11=>
J 3 [(0,v10),(3,(AV.i .i64 x3))] h11)
else
((bif (decide ((x2:Int)<256)) then
(bF 1 1 [(AV.i .i64 0)] [(0,1,(AV.i .i64 9))] h fun v14 h15=>
bM none 1 8 x0 v14 h15 fun v16 h17=>
J 3 [(0,v16),(3,(AV.i .i64 x3))] h17)
else
(bF 1 1 [(AV.i .i64 0)] [(0,1,(AV.i .i64 7))] h fun v19 h20=>
bM none 1 8 x0 v19 h20 fun v21 h22=>
J 3 [(0,v21),(3,(AV.i .i64 x3))] h22))))
theorem Y12.i1 {Q x0 x2 x3 x9 h} (H:Y12.t1 Q x0 x2 x3 x9 h (Y12.J Q)):Y12.p1 Q x0 x2 x3 x9 h:=gR Y12.J Tryd.f31 Y12.dist [1,0,1,0,0,1,1,0,0,1,0,1] H
def Y12.t2 (Q:AV→aA→Prop) (x0:AV) (x3:Int) (h:aA) (J:JT):Prop:=
aJ (IntKind.wrap .i64 (x3+1)) fun n24=>
J 1 [(0,x0),(3,(AV.i .i64 n24))] h
theorem Y12.i2 {Q x0 x3 h} (H:Y12.t2 Q x0 x3 h (Y12.J Q)):Y12.p2 Q x0 x3 h:=gR Y12.J Tryd.f31 Y12.dist [1,0,1,0,0,1,1,1] H
def Y12.t0 (Q:AV→aA→Prop) (x0:AV) (x3:Int) (h:aA) (J:JT):Prop:=
(bif (decide ((x3:Int)<288)) then
((bif (decide ((x3:Int)<144)) then
(J 2 [(0,x0),(2,(AV.i .i64 x3)),(3,(AV.i .i64 x3)),(9,(AV.b true))] h)
else
(J 2 [(0,x0),(2,(AV.i .i64 x3)),(3,(AV.i .i64 x3)),(9,(AV.b (decide ((280:Int)≤x3))))] h)))
else
(bF 1 1 [(AV.i .i64 0)] [(0,1,(AV.i .i64 5))] h fun v26 h27=>
C Y21.id [v26,(AV.i .i64 32)] h27 fun v28 h29=>
Q (AV.tu [x0,v28]) h29))
theorem Y12.i0 {Q x0 x3 h} (H:Y12.t0 Q x0 x3 h (Y12.J Q)):Y12.p0 Q x0 x3 h:=gH Y12.J Tryd.f31 Y12.dist [1,0,1,0] H
def Y12.t (Q:AV→aA→Prop) (h:aA) (J:JT):Prop:=
J 1 [(0,(AV.sl none 0 none)),(3,(AV.i .i64 0))] h
theorem Y12.call {K h} (H:Y12.t (aK h K) h (Y12.J (aK h K))):C Y12.id [] h K:=
 gC Y12.J Tryd.func31 Y12.dist H
noncomputable def Y16.body:Code:=(Tryd.f32.body).getD .skip
def Y16.ann:Ann:=(sl [0,1,2,3,8,9] (sq [0,2,8] (sl [0,2,3,8,9,19,20,21] (.one (.loop 1 [0,2,3,8,9,19,20,21] (sl [0,2,3,8,9,19,20,21,22] (sq [0,2,3,8,9,19,20,21] bl (.seq 2 [0,2,3,8,9,19,20,21] (.one (sl [0,2,3,8,9,11,19,20,21] (sq [0,2,3,8,9,11,19,20,21] (sl [0,2,3,8,9,11,19,20,21,27] (.br (sl [0,2,3,8,9,19,20,21] lf) lf)) (sl [0,2,3,8,9,11,12,19,20,21] (sl [0,2,3,8,9,11,12,13,14,19,20,21] (sl [0,2,3,8,9,11,13,14,19,20,21] (sl [0,2,3,8,9,11,19,20,21] (sl [0,2,3,8,9,11,12,19,20,21] (sl [0,2,3,8,9,11,12,13,14,19,20,21] (sl [0,2,3,8,9,11,13,14,19,20,21] lf)))))))))) lf)))))) lf))
theorem Y16.dist:aH (places Y16.ann Y16.body)=true:=by kernel_rfl
noncomputable def Y16.J (Q:AV→aA→Prop):JT:=bI prog C Tryd.f32 Y16.ann Y16.body Q
def Y16.p1 (Q:AV→aA→Prop) (x0 x2 x3 x8 x9 x19:AV) (x20 x21:Int) (h:aA):Prop:=Y16.J Q 2 [(0,x0),(2,x2),(3,x3),(8,x8),(9,x9),(19,x19),(20,(AV.i .i64 x20)),(21,(AV.i .i64 x21))] h
def Y16.p0 (Q:AV→aA→Prop) (x0 x2 x3 x8 x9 x19:AV) (x20 x21:Int) (h:aA):Prop:=Y16.J Q 1 [(0,x0),(2,x2),(3,x3),(8,x8),(9,x9),(19,x19),(20,(AV.i .i64 x20)),(21,(AV.i .i64 x21))] h
def Y16.t1 (Q:AV→aA→Prop) (x0 x2 x3 x8 x9 x19:AV) (x20 x21:Int) (h:aA) (J:JT):Prop:=
aJ (IntKind.wrap .i64 (x21+1)) fun n76=>
J 1 [(0,x0),(2,x2),(3,x3),(8,x8),(9,x9),(19,x19),(20,(AV.i .i64 x20)),(21,(AV.i .i64 n76))] h
theorem Y16.i1 {Q x0 x2 x3 x8 x9 x19 x20 x21 h} (H:Y16.t1 Q x0 x2 x3 x8 x9 x19 x20 x21 h (Y16.J Q)):Y16.p1 Q x0 x2 x3 x8 x9 x19 x20 x21 h:=gR Y16.J Tryd.f32 Y16.dist [1,0,1,0,0,1,1,1] H
def Y16.t0 (Q:AV→aA→Prop) (x0 x2 x3 x8 x9 x19:AV) (x20 x21:Int) (h:aA) (J:JT):Prop:=
(bif (decide ((x21:Int)<x20)) then
(aP 3 x19 (AV.i .i64 x21) h fun v10=>
dZ 3 v10 h fun v11=>
cX (some 82) [(AV.i .u8 0),(AV.i .i64 0),(AV.i .i64 0)] h fun v12 h13=>
aV 3 v12 v11 h13 fun h14=>
aC 1 v12 fun v16=>
aB v16 h14 fun v17=>
asI .i64 v17 fun n18=>
(bif (decide ((n18:Int)=0)) then
(aC 0 v12 fun v20=>
aB v20 h14 fun v21=>
asI .u8 v21 fun n22=>
C Y26.id [x0,x8,x2,(AV.i .i64 (IntKind.wrap .i64 n22))] h14 fun v23 h24=>
J 2 [(0,x0),(2,x2),(3,x3),(8,x8),(9,x9),(19,x19),(20,(AV.i .i64 x20)),(21,(AV.i .i64 x21))] h24)
else
(aC 1 v12 fun v28=>
aB v28 h14 fun v29=>
asI .i64 v29 fun n30=>
C Y18.id [(AV.i .i64 n30)] h14 fun v31 h32=>
asI .i64 v31 fun n33=>
C Y41.id [(AV.i .i64 n33)] h32 fun v35 h36=>
aR 0 v35 fun v37=>
asI .i64 v37 fun n38=>
aR 1 v35 fun v39=>
asI .i64 v39 fun n40=>
C Y26.id [x0,x8,x2,(AV.i .i64 n33)] h36 fun v42 h43=>
aC 1 v12 fun v45=>
aB v45 h43 fun v46=>
asI .i64 v46 fun n47=>
aJ (IntKind.wrap .i64 (n47 - n38)) fun n48=>
C Y17.id [x0,(AV.i .i64 n48),(AV.i .i64 n40)] h43 fun v49 h50=>
aC 2 v12 fun v52=>
aB v52 h50 fun v53=>
asI .i64 v53 fun n54=>
C Y19.id [(AV.i .i64 n54)] h50 fun v55 h56=>
asI .i64 v55 fun n57=>
C Y47.id [(AV.i .i64 n57)] h56 fun v59 h60=>
aR 0 v59 fun v61=>
asI .i64 v61 fun n62=>
aR 1 v59 fun v63=>
asI .i64 v63 fun n64=>
C Y26.id [x0,x9,x3,(AV.i .i64 n57)] h60 fun v66 h67=>
aC 2 v12 fun v69=>
aB v69 h67 fun v70=>
asI .i64 v70 fun n71=>
aJ (IntKind.wrap .i64 (n71 - n62)) fun n72=>
C Y17.id [x0,(AV.i .i64 n72),(AV.i .i64 n64)] h67 fun v73 h74=>
J 2 [(0,x0),(2,x2),(3,x3),(8,x8),(9,x9),(19,x19),(20,(AV.i .i64 x20)),(21,(AV.i .i64 x21))] h74)))
else
(C Y26.id [x0,x8,x2,(AV.i .i64 256)] h fun v78 h79=>
Q (AV.tu []) h79))
theorem Y16.i0 {Q x0 x2 x3 x8 x9 x19 x20 x21 h} (H:Y16.t0 Q x0 x2 x3 x8 x9 x19 x20 x21 h (Y16.J Q)):Y16.p0 Q x0 x2 x3 x8 x9 x19 x20 x21 h:=gH Y16.J Tryd.f32 Y16.dist [1,0,1,0] H
def Y16.t (Q:AV→aA→Prop) (x0 x1 x2 x3:AV) (h:aA) (J:JT):Prop:=
C Y13.id [x2] h fun v0 h1=>
C Y13.id [x3] h1 fun v2 h3=>
bN x1 fun n5=>
J 1 [(0,x0),(2,x2),(3,x3),(8,v0),(9,v2),(19,x1),(20,(AV.i .i64 n5)),(21,(AV.i .i64 0))] h3
theorem Y16.call {K x0 x1 x2 x3 h} (H:Y16.t (aK h K) x0 x1 x2 x3 h (Y16.J (aK h K))):C Y16.id [x0,x1,x2,x3] h K:=
 gC Y16.J Tryd.func32 Y16.dist H
noncomputable def Y11.body:Code:=(Tryd.f33.body).getD .skip
def Y11.ann:Ann:=(sl [1] (sl [1,3] (sl [1,3,4] (sl [1,3,4,5] (sq [3] (sl [1,3,4,5,6] (.one (.loop 1 [1,3,4,5,6] (sq [1,3,4,5,6] (sl [1,3,4,5,6,13] bl) (.one (sl [1,3,4,5,6,7] (.seq 2 [1,3,4,5,6,7] (sl [1,3,4,5,6,7,22] (.br (.ord (nn 0 9 (.eff 9 (nn 10 4 (.eff 14 (.neu 15 (.eff 16 .done .stop)) .stop)) .stop))) lf)) (sl [1,3,4,5,6,7] (sl [1,3,4,5,6,44,45] (.one (.loop 3 [1,3,4,5,6,44,45] (sl [1,3,4,5,6,44,45,46] (sq [1,3,4,5,6,44,45] bl (sq [1,3,4,5,6,44,45] (.one (sl [1,3,4,5,6,44,45] lf)) lf)))))))))))))) (sl [2] lf))))))
theorem Y11.dist:aH (places Y11.ann Y11.body)=true:=by kernel_rfl
noncomputable def Y11.J (Q:AV→aA→Prop):JT:=bI prog C Tryd.f33 Y11.ann Y11.body Q
def Y11.p2 (Q:AV→aA→Prop) (x1 x3 x4 x5:AV) (x6 x44 x45:Int) (h:aA):Prop:=Y11.J Q 3 [(1,x1),(3,x3),(4,x4),(5,x5),(6,(AV.i .i64 x6)),(44,(AV.i .i64 x44)),(45,(AV.i .i64 x45))] h
def Y11.p1 (Q:AV→aA→Prop) (x1 x3 x4 x5:AV) (x6:Int) (x7:AV) (h:aA):Prop:=Y11.J Q 2 [(1,x1),(3,x3),(4,x4),(5,x5),(6,(AV.i .i64 x6)),(7,x7)] h
def Y11.p0 (Q:AV→aA→Prop) (x1 x3 x4 x5:AV) (x6:Int) (h:aA):Prop:=Y11.J Q 1 [(1,x1),(3,x3),(4,x4),(5,x5),(6,(AV.i .i64 x6))] h
def Y11.t2 (Q:AV→aA→Prop) (x1 x3 x4 x5:AV) (x6 x44 x45:Int) (h:aA) (J:JT):Prop:=
(bif (decide ((x45:Int)<x44)) then
(bV C x5 [(AV.i .i64 x6)] h fun v61 h62=>
aJ (IntKind.wrap .i64 (x6+1)) fun n64=>
aJ (IntKind.wrap .i64 (x45+1)) fun n66=>
J 3 [(1,x1),(3,x3),(4,x4),(5,x5),(6,(AV.i .i64 n64)),(44,(AV.i .i64 x44)),(45,(AV.i .i64 n66))] h62)
else
(J 1 [(1,x1),(3,x3),(4,x4),(5,x5),(6,(AV.i .i64 x6))] h))
theorem Y11.i2 {Q x1 x3 x4 x5 x6 x44 x45 h} (H:Y11.t2 Q x1 x3 x4 x5 x6 x44 x45 h (Y11.J Q)):Y11.p2 Q x1 x3 x4 x5 x6 x44 x45 h:=gH Y11.J Tryd.f33 Y11.dist [1,1,1,1,0,1,0,0,1,0,1,1,1,1,0] H
def Y11.t1 (Q:AV→aA→Prop) (x1 x3 x4 x5:AV) (x6:Int) (x7:AV) (h:aA) (J:JT):Prop:=
dZ 3 x7 h fun v48=>
bF 3 1 [(AV.i .u8 0),(AV.i .i64 0),(AV.i .i64 0)] [(0,3,v48)] h fun v49 h50=>
bM none 3 24 x3 v49 h50 fun v51 h52=>
aC 1 x7 fun v54=>
aB v54 h52 fun v55=>
asI .i64 v55 fun n56=>
J 3 [(1,x1),(3,v51),(4,x4),(5,x5),(6,(AV.i .i64 x6)),(44,(AV.i .i64 (mmI true n56 1))),(45,(AV.i .i64 0))] h52
theorem Y11.i1 {Q x1 x3 x4 x5 x6 x7 h} (H:Y11.t1 Q x1 x3 x4 x5 x6 x7 h (Y11.J Q)):Y11.p1 Q x1 x3 x4 x5 x6 x7 h:=gR Y11.J Tryd.f33 Y11.dist [1,1,1,1,0,1,0,0,1,0,1,1] H
def Y11.t0 (Q:AV→aA→Prop) (x1 x3 x4 x5:AV) (x6:Int) (h:aA) (J:JT):Prop:=
aB x1 h fun v12=>
asS v12 fun l13=>
(bif (decide ((x6:Int)<(l13.length:Int))) then
(aB x1 h fun v17=>
asS v17 fun l18=>
dU (AV.s l18) (AV.i .i64 x6) fun n19=>
cX (some 82) [(AV.i .u8 0),(AV.i .i64 0),(AV.i .i64 0)] h fun v20 h21=>
aV 3 v20 (AV.ag [(AV.i .u8 n19),(AV.i .i64 0),(AV.i .i64 0)]) h21 fun h22=>
aJ (IntKind.wrap .i64 (x6+3)) fun n24=>
aB x1 h22 fun v25=>
asS v25 fun l26=>
(bif (decide ((n24:Int)≤(l26.length:Int))) then
(aB x1 h22 fun v28=>
asS v28 fun l29=>
aB x4 h22 fun v30=>
aB x1 h22 fun v31=>
asS v31 fun l32=>
aJ (IntKind.wrap .i64 (x6+3)) fun n33=>
bX (AV.s l32) (some (AV.i .i64 x6)) (some (AV.i .i64 n33)) fun l34=>
eR prog 9 64 false v30 (AV.s l34) h22 fun v35=>
C Y40.id [(AV.s l29),(AV.i .i64 x6),v35] h22 fun v36 h37=>
aR 0 v36 fun v38=>
asI .i64 v38 fun n39=>
aR 1 v36 fun v40=>
asI .i64 v40 fun n41=>
aC 1 v20 fun v42=>
aV 1 v42 (AV.i .i64 n39) h37 fun h43=>
aC 2 v20 fun v44=>
aV 1 v44 (AV.i .i64 n41) h43 fun h45=>
J 2 [(1,x1),(3,x3),(4,x4),(5,x5),(6,(AV.i .i64 x6)),(7,v20)] h45)
else
(J 2 [(1,x1),(3,x3),(4,x4),(5,x5),(6,(AV.i .i64 x6)),(7,v20)] h22)))
else
(Q x3 h))
theorem Y11.i0 {Q x1 x3 x4 x5 x6 h} (H:Y11.t0 Q x1 x3 x4 x5 x6 h (Y11.J Q)):Y11.p0 Q x1 x3 x4 x5 x6 h:=gH Y11.J Tryd.f33 Y11.dist [1,1,1,1,0,1,0] H
def Y11.t (Q:AV→aA→Prop) (x0:List UInt8) (h:aA) (J:JT):Prop:=
dD none (AV.s x0) h fun v0 h1=>
lZ h1 fun v4 h5=>
cX none [(AV.mp none)] h5 fun v6 h7=>
aV 1 v6 v4 h7 fun h8=>
J 1 [(1,v0),(3,(AV.sl none 0 none)),(4,v6),(5,(AV.fn (.func Y38.id) [] [v0,v6])),(6,(AV.i .i64 0))] h8
theorem Y11.call {K x0 h} (H:Y11.t (aK h K) x0 h (Y11.J (aK h K))):C Y11.id [(AV.s x0)] h K:=
 gC Y11.J Tryd.func33 Y11.dist H
noncomputable def Y25.body:Code:=(Tryd.f34.body).getD .skip
def Y25.ann:Ann:=(sl [0,1,2,6] (.one (.loop 1 [0,1,2,6] (sq [0,1,2,6] (sl [0,1,2,6,9] bl) (sq [0,1,2,6] (.one lf) lf)))))
theorem Y25.dist:aH (places Y25.ann Y25.body)=true:=by kernel_rfl
noncomputable def Y25.J (Q:AV→aA→Prop):JT:=bI prog C Tryd.f34 Y25.ann Y25.body Q
def Y25.p0 (Q:AV→aA→Prop) (x0:AV) (x1 x2 x6:Int) (h:aA):Prop:=Y25.J Q 1 [(0,x0),(1,(AV.i .i64 x1)),(2,(AV.i .i64 x2)),(6,(AV.i .i64 x6))] h
def Y25.t0 (Q:AV→aA→Prop) (x0:AV) (x1 x2 x6:Int) (h:aA) (J:JT):Prop:=
(bif (decide ((x6:Int)<x2)) then
(aZ x0 fun v3=>
aC 0 v3 fun v4=>
aB v4 h fun v5=>
jV .i64 x1 (IntKind.wrap .u64 x6) fun n6=>
aJ (IntKind.wrap .u8 (bK .and .i64 n6 1)) fun n7=>
bF 1 1 [(AV.i .u8 0)] [(0,1,(AV.i .u8 n7))] h fun v8 h9=>
bM (some 5) 1 1 v5 v8 h9 fun v10 h11=>
aZ x0 fun v12=>
aC 0 v12 fun v13=>
aV 1 v13 v10 h11 fun h14=>
aJ (IntKind.wrap .i64 (x6+1)) fun n16=>
J 1 [(0,x0),(1,(AV.i .i64 x1)),(2,(AV.i .i64 x2)),(6,(AV.i .i64 n16))] h14)
else
(Q (AV.tu []) h))
theorem Y25.i0 {Q x0 x1 x2 x6 h} (H:Y25.t0 Q x0 x1 x2 x6 h (Y25.J Q)):Y25.p0 Q x0 x1 x2 x6 h:=gH Y25.J Tryd.f34 Y25.dist [1,0] H
def Y25.t (Q:AV→aA→Prop) (x0:AV) (x1 x2:Int) (h:aA) (J:JT):Prop:=
J 1 [(0,x0),(1,(AV.i .i64 x1)),(2,(AV.i .i64 x2)),(6,(AV.i .i64 0))] h
theorem Y25.call {K x0 x1 x2 h} (H:Y25.t (aK h K) x0 x1 x2 h (Y25.J (aK h K))):C Y25.id [x0,(AV.i .i64 x1),(AV.i .i64 x2)] h K:=
 gC Y25.J Tryd.func34 Y25.dist H
noncomputable def Y1.body:Code:=(Tryd.f35.body).getD .skip
def Y1.ann:Ann:=(sl [0,1] (sl [0,1,6,7] (sq [6,7] (sl [0,1,6,7,8] (.one (.loop 1 [0,1,6,7,8] (sq [0,1,6,7,8] (.seq 2 [0,1,6,7,8,16] lf bl) (.seq 5 [0,1,6,7,8] (.one (sl [0,1,6,7,8,9] (sq [0,1,6,7,8,9] (.one (.loop 3 [0,1,6,7,8,9] (sq [0,1,6,7,8,9] (.seq 4 [0,1,6,7,8,9,43] (.ord (nn 0 25 .done)) bl) (.one lf)))) (sl [0,1,6,7,8,9,48] (.br (sl [0,1,6,8] lf) lf))))) lf))))) (sl [4,5] lf))))
theorem Y1.dist:aH (places Y1.ann Y1.body)=true:=by kernel_rfl
noncomputable def Y1.J (Q:AV→aA→Prop):JT:=bI prog C Tryd.f35 Y1.ann Y1.body Q
def Y1.p1 (Q:AV→aA→Prop) (x0:List UInt8) (x1 x6 x7 x8:Int) (x16:Bool) (h:aA):Prop:=Y1.J Q 2 [(0,(AV.s x0)),(1,(AV.i .i64 x1)),(6,(AV.i .i64 x6)),(7,(AV.i .i64 x7)),(8,(AV.i .i64 x8)),(16,(AV.b x16))] h
def Y1.p3 (Q:AV→aA→Prop) (x0:List UInt8) (x1 x6 x7 x8 x9:Int) (x43:Bool) (h:aA):Prop:=Y1.J Q 4 [(0,(AV.s x0)),(1,(AV.i .i64 x1)),(6,(AV.i .i64 x6)),(7,(AV.i .i64 x7)),(8,(AV.i .i64 x8)),(9,(AV.i .i64 x9)),(43,(AV.b x43))] h
def Y1.p2 (Q:AV→aA→Prop) (x0:List UInt8) (x1 x6 x7 x8 x9:Int) (h:aA):Prop:=Y1.J Q 3 [(0,(AV.s x0)),(1,(AV.i .i64 x1)),(6,(AV.i .i64 x6)),(7,(AV.i .i64 x7)),(8,(AV.i .i64 x8)),(9,(AV.i .i64 x9))] h
def Y1.p4 (Q:AV→aA→Prop) (x0:List UInt8) (x1 x6 x7 x8:Int) (h:aA):Prop:=Y1.J Q 5 [(0,(AV.s x0)),(1,(AV.i .i64 x1)),(6,(AV.i .i64 x6)),(7,(AV.i .i64 x7)),(8,(AV.i .i64 x8))] h
def Y1.p0 (Q:AV→aA→Prop) (x0:List UInt8) (x1 x6 x7 x8:Int) (h:aA):Prop:=Y1.J Q 1 [(0,(AV.s x0)),(1,(AV.i .i64 x1)),(6,(AV.i .i64 x6)),(7,(AV.i .i64 x7)),(8,(AV.i .i64 x8))] h
def Y1.t1 (Q:AV→aA→Prop) (x0:List UInt8) (x1 x6 x7 x8:Int) (x16:Bool) (h:aA) (J:JT):Prop:=
(bif x16 then
(J 3 [(0,(AV.s x0)),(1,(AV.i .i64 x1)),(6,(AV.i .i64 x6)),(7,(AV.i .i64 x7)),(8,(AV.i .i64 x8)),(9,(AV.i .i64 0))] h)
else
(Q (AV.tu [(AV.i .i64 x6),(AV.i .i64 x7)]) h))
theorem Y1.i1 {Q x0 x1 x6 x7 x8 x16 h} (H:Y1.t1 Q x0 x1 x6 x7 x8 x16 h (Y1.J Q)):Y1.p1 Q x0 x1 x6 x7 x8 x16 h:=gR Y1.J Tryd.f35 Y1.dist [1,1,0,1,0,0,0,1] H
def Y1.t3 (Q:AV→aA→Prop) (x0:List UInt8) (x1 x6 x7 x8 x9:Int) (x43:Bool) (h:aA) (J:JT):Prop:=
(bif x43 then
(aJ (IntKind.wrap .i64 (x9+1)) fun n19=>
J 3 [(0,(AV.s x0)),(1,(AV.i .i64 x1)),(6,(AV.i .i64 x6)),(7,(AV.i .i64 x7)),(8,(AV.i .i64 x8)),(9,(AV.i .i64 n19))] h)
else
((bif (decide ((x6:Int)<x9)) then
(J 5 [(0,(AV.s x0)),(1,(AV.i .i64 x1)),(6,(AV.i .i64 x9)),(7,(AV.i .i64 x8)),(8,(AV.i .i64 x8))] h)
else
(J 5 [(0,(AV.s x0)),(1,(AV.i .i64 x1)),(6,(AV.i .i64 x6)),(7,(AV.i .i64 x7)),(8,(AV.i .i64 x8))] h))))
theorem Y1.i3 {Q x0 x1 x6 x7 x8 x9 x43 h} (H:Y1.t3 Q x0 x1 x6 x7 x8 x9 x43 h (Y1.J Q)):Y1.p3 Q x0 x1 x6 x7 x8 x9 x43 h:=gR Y1.J Tryd.f35 Y1.dist [1,1,0,1,0,0,1,0,0,1,0,0,0,0,1] H
def Y1.t2 (Q:AV→aA→Prop) (x0:List UInt8) (x1 x6 x7 x8 x9:Int) (h:aA) (J:JT):Prop:=
(bif (decide ((x9:Int)<258)) then
(aJ (IntKind.wrap .i64 (x1+x9)) fun n8=>
(bif (decide ((n8:Int)<(x0.length:Int))) then
(aJ (IntKind.wrap .i64 (x1+x9)) fun n9=>
dU (AV.s x0) (AV.i .i64 n9) fun n10=>
aJ (IntKind.wrap .i64 (x1+x9)) fun n11=>
aJ (IntKind.wrap .i64 (n11 - x8)) fun n12=>
dU (AV.s x0) (AV.i .i64 n12) fun n13=>
J 4 [(0,(AV.s x0)),(1,(AV.i .i64 x1)),(6,(AV.i .i64 x6)),(7,(AV.i .i64 x7)),(8,(AV.i .i64 x8)),(9,(AV.i .i64 x9)),(43,(AV.b (decide ((n10:Int)=n13))))] h)
else
(J 4 [(0,(AV.s x0)),(1,(AV.i .i64 x1)),(6,(AV.i .i64 x6)),(7,(AV.i .i64 x7)),(8,(AV.i .i64 x8)),(9,(AV.i .i64 x9)),(43,(AV.b false))] h)))
else
(J 4 [(0,(AV.s x0)),(1,(AV.i .i64 x1)),(6,(AV.i .i64 x6)),(7,(AV.i .i64 x7)),(8,(AV.i .i64 x8)),(9,(AV.i .i64 x9)),(43,(AV.b false))] h))
theorem Y1.i2 {Q x0 x1 x6 x7 x8 x9 h} (H:Y1.t2 Q x0 x1 x6 x7 x8 x9 h (Y1.J Q)):Y1.p2 Q x0 x1 x6 x7 x8 x9 h:=gH Y1.J Tryd.f35 Y1.dist [1,1,0,1,0,0,1,0,0,1,0,0] H
def Y1.t4 (Q:AV→aA→Prop) (x0:List UInt8) (x1 x6 x7 x8:Int) (h:aA) (J:JT):Prop:=
aJ (IntKind.wrap .i64 (x8+1)) fun n25=>
J 1 [(0,(AV.s x0)),(1,(AV.i .i64 x1)),(6,(AV.i .i64 x6)),(7,(AV.i .i64 x7)),(8,(AV.i .i64 n25))] h
theorem Y1.i4 {Q x0 x1 x6 x7 x8 h} (H:Y1.t4 Q x0 x1 x6 x7 x8 h (Y1.J Q)):Y1.p4 Q x0 x1 x6 x7 x8 h:=gR Y1.J Tryd.f35 Y1.dist [1,1,0,1,0,0,1,1] H
def Y1.t0 (Q:AV→aA→Prop) (x0:List UInt8) (x1 x6 x7 x8:Int) (h:aA) (J:JT):Prop:=
(bif (decide ((x8:Int)≤x1)) then
(J 2 [(0,(AV.s x0)),(1,(AV.i .i64 x1)),(6,(AV.i .i64 x6)),(7,(AV.i .i64 x7)),(8,(AV.i .i64 x8)),(16,(AV.b (decide ((x8:Int)≤32768))))] h)
else
(J 2 [(0,(AV.s x0)),(1,(AV.i .i64 x1)),(6,(AV.i .i64 x6)),(7,(AV.i .i64 x7)),(8,(AV.i .i64 x8)),(16,(AV.b false))] h))
theorem Y1.i0 {Q x0 x1 x6 x7 x8 h} (H:Y1.t0 Q x0 x1 x6 x7 x8 h (Y1.J Q)):Y1.p0 Q x0 x1 x6 x7 x8 h:=gH Y1.J Tryd.f35 Y1.dist [1,1,0,1,0] H
def Y1.t (Q:AV→aA→Prop) (x0:List UInt8) (x1:Int) (h:aA) (J:JT):Prop:=
J 1 [(0,(AV.s x0)),(1,(AV.i .i64 x1)),(6,(AV.i .i64 0)),(7,(AV.i .i64 0)),(8,(AV.i .i64 1))] h
theorem Y1.call {K x0 x1 h} (H:Y1.t (aK h K) x0 x1 h (Y1.J (aK h K))):C Y1.id [(AV.s x0),(AV.i .i64 x1)] h K:=
 gC Y1.J Tryd.func35 Y1.dist H
noncomputable def Y44.body:Code:=(Tryd.f36.body).getD .skip
def Y44.ann:Ann:=(sl [0,1,4] (.ord (nn 0 2 (.neu 3 (nn 6 4 (.eff 2 (nn 4 2 (.eff 10 .done .stop)) .stop))))))
theorem Y44.dist:aH (places Y44.ann Y44.body)=true:=by kernel_rfl
noncomputable def Y44.J (Q:AV→aA→Prop):JT:=bI prog C Tryd.f36 Y44.ann Y44.body Q
def Y44.t (Q:AV→aA→Prop) (x0:AV) (x1:Int) (h:aA) (J:JT):Prop:=
C Y74.id [] h fun v0 h1=>
aP 1 v0 (AV.i .i64 x1) h1 fun v3=>
aB v3 h1 fun v4=>
asI .i64 v4 fun n5=>
C Y5.id [v0] h1 fun v6 h7=>
aB v3 h7 fun v8=>
asI .i64 v8 fun n9=>
((AV.i .i64 n5)=(AV.i .i64 n9) ∧
(aP 1 v0 (AV.i .i64 x1) h7 fun v10=>
(v3=v10 ∧
(aP 1 v6 (AV.i .i64 x1) h7 fun v11=>
aB v11 h7 fun v12=>
asI .i64 v12 fun n13=>
C Y27.id [x0,(AV.i .i64 n13),(AV.i .i64 n5)] h7 fun v14 h15=>
Q (AV.tu []) h15))))
theorem Y44.call {K x0 x1 h} (H:Y44.t (aK h K) x0 x1 h (Y44.J (aK h K))):C Y44.id [x0,(AV.i .i64 x1)] h K:=
 gC Y44.J Tryd.func36 Y44.dist H
noncomputable def Y55.body:Code:=(Tryd.f37.body).getD .skip
def Y55.ann:Ann:=(sl [0] (sq [0] (sl [0,6] (.br (sl [2,3] lf) lf)) (sq [0] (sl [0,10] (.br (sl [2,3] lf) lf)) (sl [0,4] (sl [2,3] lf)))))
theorem Y55.dist:aH (places Y55.ann Y55.body)=true:=by kernel_rfl
noncomputable def Y55.J (Q:AV→aA→Prop):JT:=bI prog C Tryd.f37 Y55.ann Y55.body Q
def Y55.t (Q:AV→aA→Prop) (x0:Int) (h:aA) (J:JT):Prop:=
(bif (decide ((x0:Int)<265)) then
(aJ (IntKind.wrap .i64 (x0 - 254)) fun n2=>
Q (AV.tu [(AV.i .i64 n2),(AV.i .i64 0)]) h)
else
((bif (decide ((x0:Int)=285)) then
(Q (AV.tu [(AV.i .i64 258),(AV.i .i64 0)]) h)
else
(aJ (IntKind.wrap .i64 (x0 - 261)) fun n8=>
qM .i64 n8 4 fun n9=>
aJ (IntKind.wrap .i64 (x0 - 265)) fun n11=>
qX n11 4 fun n12=>
aJ (IntKind.wrap .i64 (4+n12)) fun n13=>
jS .i64 n13 (IntKind.wrap .u64 n9) fun n14=>
aJ (IntKind.wrap .i64 (n14+3)) fun n15=>
Q (AV.tu [(AV.i .i64 n15),(AV.i .i64 n9)]) h))))
theorem Y55.call {K x0 h} (H:Y55.t (aK h K) x0 h (Y55.J (aK h K))):C Y55.id [(AV.i .i64 x0)] h K:=
 gC Y55.J Tryd.func37 Y55.dist H
noncomputable def Y54.body:Code:=(Tryd.f38.body).getD .skip
def Y54.ann:Ann:=(sl [0] (sq [0] (sl [0,6] (.br (sl [2,3] lf) lf)) (sl [0,4] (sl [2,3] lf))))
theorem Y54.dist:aH (places Y54.ann Y54.body)=true:=by kernel_rfl
noncomputable def Y54.J (Q:AV→aA→Prop):JT:=bI prog C Tryd.f38 Y54.ann Y54.body Q
def Y54.t (Q:AV→aA→Prop) (x0:Int) (h:aA) (J:JT):Prop:=
(bif (decide ((x0:Int)<4)) then
(aJ (IntKind.wrap .i64 (x0+1)) fun n2=>
Q (AV.tu [(AV.i .i64 n2),(AV.i .i64 0)]) h)
else
(qM .i64 x0 2 fun n5=>
aJ (IntKind.wrap .i64 (n5 - 1)) fun n6=>
qX x0 2 fun n8=>
aJ (IntKind.wrap .i64 (2+n8)) fun n9=>
jS .i64 n9 (IntKind.wrap .u64 n6) fun n10=>
aJ (IntKind.wrap .i64 (n10+1)) fun n11=>
Q (AV.tu [(AV.i .i64 n11),(AV.i .i64 n6)]) h))
theorem Y54.call {K x0 h} (H:Y54.t (aK h K) x0 h (Y54.J (aK h K))):C Y54.id [(AV.i .i64 x0)] h K:=
 gC Y54.J Tryd.func38 Y54.dist H
noncomputable def Y27.body:Code:=(Tryd.f39.body).getD .skip
def Y27.ann:Ann:=(sl [0,1,6] (.one (.loop 1 [0,1,6] (sq [0,1,6] (sl [0,1,6,10] bl) (sq [0,1,6] (.one lf) lf)))))
theorem Y27.dist:aH (places Y27.ann Y27.body)=true:=by kernel_rfl
noncomputable def Y27.J (Q:AV→aA→Prop):JT:=bI prog C Tryd.f39 Y27.ann Y27.body Q
def Y27.p0 (Q:AV→aA→Prop) (x0:AV) (x1 x6:Int) (h:aA):Prop:=Y27.J Q 1 [(0,x0),(1,(AV.i .i64 x1)),(6,(AV.i .i64 x6))] h
def Y27.t0 (Q:AV→aA→Prop) (x0:AV) (x1 x6:Int) (h:aA) (J:JT):Prop:=
(bif (decide ((0:Int)≤x6)) then
(aZ x0 fun v4=>
aC 0 v4 fun v5=>
aB v5 h fun v6=>
jV .i64 x1 (IntKind.wrap .u64 x6) fun n7=>
aJ (IntKind.wrap .u8 (bK .and .i64 n7 1)) fun n8=>
bF 1 1 [(AV.i .u8 0)] [(0,1,(AV.i .u8 n8))] h fun v9 h10=>
bM (some 5) 1 1 v6 v9 h10 fun v11 h12=>
aZ x0 fun v13=>
aC 0 v13 fun v14=>
aV 1 v14 v11 h12 fun h15=>
aJ (IntKind.wrap .i64 (x6 - 1)) fun n17=>
J 1 [(0,x0),(1,(AV.i .i64 x1)),(6,(AV.i .i64 n17))] h15)
else
(Q (AV.tu []) h))
theorem Y27.i0 {Q x0 x1 x6 h} (H:Y27.t0 Q x0 x1 x6 h (Y27.J Q)):Y27.p0 Q x0 x1 x6 h:=gH Y27.J Tryd.f39 Y27.dist [1,0] H
def Y27.t (Q:AV→aA→Prop) (x0:AV) (x1 x2:Int) (h:aA) (J:JT):Prop:=
aJ (IntKind.wrap .i64 (x2 - 1)) fun n0=>
J 1 [(0,x0),(1,(AV.i .i64 x1)),(6,(AV.i .i64 n0))] h
theorem Y27.call {K x0 x1 x2 h} (H:Y27.t (aK h K) x0 x1 x2 h (Y27.J (aK h K))):C Y27.id [x0,(AV.i .i64 x1),(AV.i .i64 x2)] h K:=
 gC Y27.J Tryd.func39 Y27.dist H
noncomputable def Y14.body:Code:=(Tryd.f40.body).getD .skip
def Y14.ann:Ann:=(sl [0] (sl [0,3] (sq [3] (sl [0,3,4] (.one (.loop 1 [0,3,4] (sq [0,3,4] (sl [0,3,4,11] bl) (sq [0,3,4] (.one (.seq 2 [0,3,4] (sl [0,3,4,16] bl) (.ord (nn 0 21 (.eff 21 .done .stop))))) lf))))) (sl [2] lf))))
theorem Y14.dist:aH (places Y14.ann Y14.body)=true:=by kernel_rfl
noncomputable def Y14.J (Q:AV→aA→Prop):JT:=bI prog C Tryd.f40 Y14.ann Y14.body Q
def Y14.p1 (Q:AV→aA→Prop) (x0 x3:AV) (x4:Int) (h:aA):Prop:=Y14.J Q 2 [(0,x0),(3,x3),(4,(AV.i .i64 x4))] h
def Y14.p0 (Q:AV→aA→Prop) (x0 x3:AV) (x4:Int) (h:aA):Prop:=Y14.J Q 1 [(0,x0),(3,x3),(4,(AV.i .i64 x4))] h
def Y14.t1 (Q:AV→aA→Prop) (x0 x3:AV) (x4:Int) (h:aA) (J:JT):Prop:=
qM .i64 x4 8 fun n18=>
qM .i64 x4 8 fun n19=>
aP 1 x3 (AV.i .i64 n19) h fun v20=>
aB v20 h fun v21=>
asI .u8 v21 fun n22=>
aZ x0 fun v23=>
aC 0 v23 fun v24=>
aB v24 h fun v25=>
aP 1 v25 (AV.i .i64 x4) h fun v26=>
aB v26 h fun v27=>
asI .u8 v27 fun n28=>
qX x4 8 fun n29=>
jS .u8 n28 (IntKind.wrap .u64 n29) fun n30=>
aP 1 x3 (AV.i .i64 n18) h fun v31=>
aV 1 v31 (AV.i .u8 (bK .or .u8 n22 n30)) h fun h32=>
aJ (IntKind.wrap .i64 (x4+1)) fun n34=>
J 1 [(0,x0),(3,x3),(4,(AV.i .i64 n34))] h32
theorem Y14.i1 {Q x0 x3 x4 h} (H:Y14.t1 Q x0 x3 x4 h (Y14.J Q)):Y14.p1 Q x0 x3 x4 h:=gR Y14.J Tryd.f40 Y14.dist [1,1,0,1,0,0,1,0,0,1] H
def Y14.t0 (Q:AV→aA→Prop) (x0 x3:AV) (x4:Int) (h:aA) (J:JT):Prop:=
aZ x0 fun v3=>
aC 0 v3 fun v4=>
aB v4 h fun v5=>
bN v5 fun n6=>
(bif (decide ((x4:Int)<n6)) then
(qX x4 8 fun n10=>
(bif (decide ((n10:Int)=0)) then
(bF 1 1 [(AV.i .u8 0)] [(0,1,(AV.i .u8 0))] h fun v12 h13=>
bM (some 5) 1 1 x3 v12 h13 fun v14 h15=>
J 2 [(0,x0),(3,v14),(4,(AV.i .i64 x4))] h15)
else
(J 2 [(0,x0),(3,x3),(4,(AV.i .i64 x4))] h)))
else
(cJ x3 h fun l36=>
Q (AV.s l36) h))
theorem Y14.i0 {Q x0 x3 x4 h} (H:Y14.t0 Q x0 x3 x4 h (Y14.J Q)):Y14.p0 Q x0 x3 x4 h:=gH Y14.J Tryd.f40 Y14.dist [1,1,0,1,0] H
def Y14.t (Q:AV→aA→Prop) (x0:AV) (h:aA) (J:JT):Prop:=
J 1 [(0,x0),(3,(AV.sl none 0 none)),(4,(AV.i .i64 0))] h
theorem Y14.call {K x0 h} (H:Y14.t (aK h K) x0 h (Y14.J (aK h K))):C Y14.id [x0] h K:=
 gC Y14.J Tryd.func40 Y14.dist H
noncomputable def Y58.body:Code:=(Tryd.f41.body).getD .skip
def Y58.ann:Ann:=(sl [0,1,2] (sl [6] lf))
theorem Y58.dist:aH (places Y58.ann Y58.body)=true:=by kernel_rfl
noncomputable def Y58.J (Q:AV→aA→Prop):JT:=bI prog C Tryd.f41 Y58.ann Y58.body Q
def Y58.t (Q:AV→aA→Prop) (x0 x1 x2:Int) (h:aA) (J:JT):Prop:=
aJ (mmI false (mmI true x0 x1) x2) fun n1=>
Q (AV.i .i64 n1) h
theorem Y58.call {K x0 x1 x2 h} (H:Y58.t (aK h K) x0 x1 x2 h (Y58.J (aK h K))):C Y58.id [(AV.i .i64 x0),(AV.i .i64 x1),(AV.i .i64 x2)] h K:=
 gC Y58.J Tryd.func41 Y58.dist H
noncomputable def Y46.body:Code:=(Tryd.f42.body).getD .skip
def Y46.ann:Ann:=(sl [1] (sq [1] (sl [1,6] (.br (sl [] (sl [2] lf)) lf)) (sl [2] lf)))
theorem Y46.dist:aH (places Y46.ann Y46.body)=true:=by kernel_rfl
noncomputable def Y46.J (Q:AV→aA→Prop):JT:=bI prog C Tryd.f42 Y46.ann Y46.body Q
def Y46.t (Q:AV→aA→Prop) (x0:AV) (h:aA) (J:JT):Prop:=
dD none x0 h fun v0 h1=>
aB v0 h1 fun v3=>
aZ v3 fun v4=>
aC 6 v4 fun v5=>
aB v5 h1 fun v6=>
asB v6 fun c7=>
(bif c7 then
(aB v0 h1 fun v9=>
aZ v9 fun v10=>
aC 7 v10 fun v11=>
aV 1 v11 (AV.b true) h1 fun h12=>
Q (AV.i .i64 0) h12)
else
(aB v0 h1 fun v16=>
C Y36.id [v16,(AV.i .i64 3),(AV.fn (.func Y61.id) [] [v0])] h1 fun v17 h18=>
asI .i64 v17 fun n19=>
Q (AV.i .i64 n19) h18))
theorem Y46.call {K x0 h} (H:Y46.t (aK h K) x0 h (Y46.J (aK h K))):C Y46.id [x0] h K:=
 gC Y46.J Tryd.func42 Y46.dist H
noncomputable def Y2.body:Code:=(Tryd.f43.body).getD .skip
def Y2.ann:Ann:=(sl [0,1] (.one (sl [0,1] (.seq 2 [0,5] (sl [0,1,14] (.br (sl [0,6,7,8] (sq [0,6,7] (sl [0,6,7,26] (.br (sl [4] lf) lf)) (sq [0,6] (sl [0,6,28] (.br (sl [4] lf) lf)) lf))) (sq [0] (.ord (nn 0 13 (.eff 13 .done .stop))) (sl [0] (sq [0] (sq [0,58] (.ord (nn 0 9 .done)) (.br (sl [4] lf) lf)) lf))))) (.seq 1 [0,5] lf (sq [0] (sl [0,9] (.seq 3 [0,9,76] lf (.br (sl [4] lf) lf))) (sq [] (.seq 4 [0,89] lf (.br (sl [0,5] lf) lf)) (sl [4] lf))))))))
theorem Y2.dist:aH (places Y2.ann Y2.body)=true:=by kernel_rfl
noncomputable def Y2.J (Q:AV→aA→Prop):JT:=bI prog C Tryd.f43 Y2.ann Y2.body Q
def Y2.p2 (Q:AV→aA→Prop) (x0:AV) (x9:Int) (x76:Bool) (h:aA):Prop:=Y2.J Q 3 [(0,x0),(9,(AV.i .i64 x9)),(76,(AV.b x76))] h
def Y2.p3 (Q:AV→aA→Prop) (x0:AV) (x89:Bool) (h:aA):Prop:=Y2.J Q 4 [(0,x0),(89,(AV.b x89))] h
def Y2.p0 (Q:AV→aA→Prop) (x0:AV) (x5:Int) (h:aA):Prop:=Y2.J Q 1 [(0,x0),(5,(AV.i .i64 x5))] h
def Y2.p1 (Q:AV→aA→Prop) (x0:AV) (x5:Int) (h:aA):Prop:=Y2.J Q 2 [(0,x0),(5,(AV.i .i64 x5))] h
def Y2.t2 (Q:AV→aA→Prop) (x0:AV) (x9:Int) (x76:Bool) (h:aA) (J:JT):Prop:=
(bif x76 then
(Q (AV.i .i64 x9) h)
else
(aZ x0 fun v82=>
aC 14 v82 fun v83=>
aB v83 h fun v84=>
eG prog .eql 44 v84 (AV.p none) fun v85=>
asB v85 fun c86=>
(bif c86 then
(aZ x0 fun v87=>
aC 13 v87 fun v88=>
aB v88 h fun v89=>
asI .i64 v89 fun n90=>
J 4 [(0,x0),(89,(AV.b (decide ((n90:Int)=0))))] h)
else
(J 4 [(0,x0),(89,(AV.b false))] h))))
theorem Y2.i2 {Q x0 x9 x76 h} (H:Y2.t2 Q x0 x9 x76 h (Y2.J Q)):Y2.p2 Q x0 x9 x76 h:=gR Y2.J Tryd.f43 Y2.dist [1,0,1,1,1,0,1,1] H
def Y2.t3 (Q:AV→aA→Prop) (x0:AV) (x89:Bool) (h:aA) (J:JT):Prop:=
(bif x89 then
(J 1 [(0,x0),(5,(AV.i .i64 0))] h)
else
(Q (AV.i .i64 0) h))
theorem Y2.i3 {Q x0 x89 h} (H:Y2.t3 Q x0 x89 h (Y2.J Q)):Y2.p3 Q x0 x89 h:=gR Y2.J Tryd.f43 Y2.dist [1,0,1,1,1,1,0,1] H
def Y2.t0 (Q:AV→aA→Prop) (x0:AV) (x5:Int) (h:aA) (J:JT):Prop:=
aZ x0 fun v67=>
aC 15 v67 fun v68=>
aB v68 h fun v69=>
bV C v69 [(AV.i .i64 x5)] h fun v70 h71=>
asI .i64 v70 fun n72=>
(bif (!decide ((n72:Int)=0)) then
(J 3 [(0,x0),(9,(AV.i .i64 n72)),(76,(AV.b true))] h71)
else
(aZ x0 fun v75=>
aC 7 v75 fun v76=>
aB v76 h71 fun v77=>
asB v77 fun c78=>
J 3 [(0,x0),(9,(AV.i .i64 n72)),(76,(AV.b c78))] h71))
theorem Y2.i0 {Q x0 x5 h} (H:Y2.t0 Q x0 x5 h (Y2.J Q)):Y2.p0 Q x0 x5 h:=gR Y2.J Tryd.f43 Y2.dist [1,0,1,1,1] H
def Y2.t1 (Q:AV→aA→Prop) (x0:AV) (x5:Int) (h:aA) (J:JT):Prop:=
J 1 [(0,x0),(5,(AV.i .i64 x5))] h
theorem Y2.i1 {Q x0 x5 h} (H:Y2.t1 Q x0 x5 h (Y2.J Q)):Y2.p1 Q x0 x5 h:=gR Y2.J Tryd.f43 Y2.dist [1,0,1,1] H
def Y2.t (Q:AV→aA→Prop) (x0:AV) (x1:Int) (h:aA) (J:JT):Prop:=
aZ x0 fun v2=>
aC 14 v2 fun v3=>
aB v3 h fun v4=>
eG prog .neq 44 v4 (AV.p none) fun v5=>
asB v5 fun c6=>
(bif c6 then
(aZ x0 fun v8=>
aC 14 v8 fun v9=>
aB v9 h fun v10=>
C Y20.id [v10,(AV.i .i64 x1)] h fun v11 h12=>
aR 0 v11 fun v13=>
asI .i64 v13 fun n14=>
aR 1 v11 fun v15=>
asB v15 fun c16=>
aR 2 v11 fun v17=>
asI .i64 v17 fun n18=>
(bif (!decide ((n18:Int)=0)) then
(Q (AV.i .i64 2) h12)
else
((bif (!c16) then
(Q (AV.i .i64 0) h12)
else
(J 2 [(0,x0),(5,(AV.i .i64 n14))] h12)))))
else
(aZ x0 fun v27=>
aC 11 v27 fun v28=>
aB v28 h fun v29=>
asI .i64 v29 fun n30=>
aZ x0 fun v31=>
aC 12 v31 fun v32=>
aB v32 h fun v33=>
asI .i64 v33 fun n34=>
jS .i64 x1 n34 fun n35=>
aJ (bK .or .i64 n30 n35) fun n36=>
aZ x0 fun v37=>
aC 11 v37 fun v38=>
aV 1 v38 (AV.i .i64 n36) h fun h39=>
aZ x0 fun v41=>
aC 12 v41 fun v42=>
aB v42 h39 fun v43=>
asI .i64 v43 fun n44=>
aJ (IntKind.wrap .i64 (n44+1)) fun n45=>
aZ x0 fun v46=>
aC 12 v46 fun v47=>
aV 1 v47 (AV.i .i64 n45) h39 fun h48=>
aZ x0 fun v50=>
aC 12 v50 fun v51=>
aB v51 h48 fun v52=>
asI .i64 v52 fun n53=>
aZ x0 fun v54=>
aC 13 v54 fun v55=>
aB v55 h48 fun v56=>
asI .i64 v56 fun n57=>
(bif (decide ((n53:Int)<n57)) then
(Q (AV.i .i64 0) h48)
else
(aZ x0 fun v61=>
aC 11 v61 fun v62=>
aB v62 h48 fun v63=>
asI .i64 v63 fun n64=>
J 2 [(0,x0),(5,(AV.i .i64 n64))] h48))))
theorem Y2.call {K x0 x1 h} (H:Y2.t (aK h K) x0 x1 h (Y2.J (aK h K))):C Y2.id [x0,(AV.i .i64 x1)] h K:=
 gC Y2.J Tryd.func43 Y2.dist H
noncomputable def Y18.body:Code:=(Tryd.f44.body).getD .skip
def Y18.ann:Ann:=(sl [0] (sq [0] (sl [0,8] (.br (sl [2] lf) lf)) (sl [0,3] (sq [3] (sl [0,3,4] (.one (.loop 1 [0,3,4] (sq [0,3,4] (sl [0,3,4,10] bl) (.seq 2 [0,3,4] (.one (sl [0,3,4,5] (sl [0,3,4,20] bl))) lf))))) (sl [2] lf)))))
theorem Y18.dist:aH (places Y18.ann Y18.body)=true:=by kernel_rfl
noncomputable def Y18.J (Q:AV→aA→Prop):JT:=bI prog C Tryd.f44 Y18.ann Y18.body Q
def Y18.p1 (Q:AV→aA→Prop) (x0 x3 x4:Int) (h:aA):Prop:=Y18.J Q 2 [(0,(AV.i .i64 x0)),(3,(AV.i .i64 x3)),(4,(AV.i .i64 x4))] h
def Y18.p0 (Q:AV→aA→Prop) (x0 x3 x4:Int) (h:aA):Prop:=Y18.J Q 1 [(0,(AV.i .i64 x0)),(3,(AV.i .i64 x3)),(4,(AV.i .i64 x4))] h
def Y18.t1 (Q:AV→aA→Prop) (x0 x3 x4:Int) (h:aA) (J:JT):Prop:=
aJ (IntKind.wrap .i64 (x4+1)) fun n19=>
J 1 [(0,(AV.i .i64 x0)),(3,(AV.i .i64 x3)),(4,(AV.i .i64 n19))] h
theorem Y18.i1 {Q x0 x3 x4 h} (H:Y18.t1 Q x0 x3 x4 h (Y18.J Q)):Y18.p1 Q x0 x3 x4 h:=gR Y18.J Tryd.f44 Y18.dist [1,1,1,0,1,0,0,1,1] H
def Y18.t0 (Q:AV→aA→Prop) (x0 x3 x4:Int) (h:aA) (J:JT):Prop:=
(bif (decide ((x4:Int)<285)) then
(C Y41.id [(AV.i .i64 x4)] h fun v9 h10=>
aR 0 v9 fun v11=>
asI .i64 v11 fun n12=>
aR 1 v9 fun v13=>
asI .i64 v13 fun n14=>
(bif (decide ((n12:Int)≤x0)) then
(J 2 [(0,(AV.i .i64 x0)),(3,(AV.i .i64 x4)),(4,(AV.i .i64 x4))] h10)
else
(J 2 [(0,(AV.i .i64 x0)),(3,(AV.i .i64 x3)),(4,(AV.i .i64 x4))] h10)))
else
(Q (AV.i .i64 x3) h))
theorem Y18.i0 {Q x0 x3 x4 h} (H:Y18.t0 Q x0 x3 x4 h (Y18.J Q)):Y18.p0 Q x0 x3 x4 h:=gH Y18.J Tryd.f44 Y18.dist [1,1,1,0,1,0] H
def Y18.t (Q:AV→aA→Prop) (x0:Int) (h:aA) (J:JT):Prop:=
(bif (decide ((x0:Int)=258)) then
(Q (AV.i .i64 285) h)
else
(J 1 [(0,(AV.i .i64 x0)),(3,(AV.i .i64 257)),(4,(AV.i .i64 257))] h))
theorem Y18.call {K x0 h} (H:Y18.t (aK h K) x0 h (Y18.J (aK h K))):C Y18.id [(AV.i .i64 x0)] h K:=
 gC Y18.J Tryd.func44 Y18.dist H
noncomputable def Y19.body:Code:=(Tryd.f45.body).getD .skip
def Y19.ann:Ann:=(sl [0] (sl [0,3] (sq [3] (sl [0,3,7] (.one (.loop 1 [0,3,7] (sl [0,3,7,8] (sq [0,3,7] bl (.seq 2 [0,3,7] (.one (sl [0,3,4,7] (sl [0,3,4,5,7] (sl [0,3,4,7,17] bl)))) lf)))))) (sl [2] lf))))
theorem Y19.dist:aH (places Y19.ann Y19.body)=true:=by kernel_rfl
noncomputable def Y19.J (Q:AV→aA→Prop):JT:=bI prog C Tryd.f45 Y19.ann Y19.body Q
def Y19.p1 (Q:AV→aA→Prop) (x0 x3 x7:Int) (h:aA):Prop:=Y19.J Q 2 [(0,(AV.i .i64 x0)),(3,(AV.i .i64 x3)),(7,(AV.i .i64 x7))] h
def Y19.p0 (Q:AV→aA→Prop) (x0 x3 x7:Int) (h:aA):Prop:=Y19.J Q 1 [(0,(AV.i .i64 x0)),(3,(AV.i .i64 x3)),(7,(AV.i .i64 x7))] h
def Y19.t1 (Q:AV→aA→Prop) (x0 x3 x7:Int) (h:aA) (J:JT):Prop:=
aJ (IntKind.wrap .i64 (x7+1)) fun n17=>
J 1 [(0,(AV.i .i64 x0)),(3,(AV.i .i64 x3)),(7,(AV.i .i64 n17))] h
theorem Y19.i1 {Q x0 x3 x7 h} (H:Y19.t1 Q x0 x3 x7 h (Y19.J Q)):Y19.p1 Q x0 x3 x7 h:=gR Y19.J Tryd.f45 Y19.dist [1,1,0,1,0,0,1,1,1] H
def Y19.t0 (Q:AV→aA→Prop) (x0 x3 x7:Int) (h:aA) (J:JT):Prop:=
(bif (decide ((x7:Int)<30)) then
(C Y47.id [(AV.i .i64 x7)] h fun v7 h8=>
aR 0 v7 fun v9=>
asI .i64 v9 fun n10=>
aR 1 v7 fun v11=>
asI .i64 v11 fun n12=>
(bif (decide ((n10:Int)≤x0)) then
(J 2 [(0,(AV.i .i64 x0)),(3,(AV.i .i64 x7)),(7,(AV.i .i64 x7))] h8)
else
(J 2 [(0,(AV.i .i64 x0)),(3,(AV.i .i64 x3)),(7,(AV.i .i64 x7))] h8)))
else
(Q (AV.i .i64 x3) h))
theorem Y19.i0 {Q x0 x3 x7 h} (H:Y19.t0 Q x0 x3 x7 h (Y19.J Q)):Y19.p0 Q x0 x3 x7 h:=gH Y19.J Tryd.f45 Y19.dist [1,1,0,1,0] H
def Y19.t (Q:AV→aA→Prop) (x0:Int) (h:aA) (J:JT):Prop:=
J 1 [(0,(AV.i .i64 x0)),(3,(AV.i .i64 0)),(7,(AV.i .i64 0))] h
theorem Y19.call {K x0 h} (H:Y19.t (aK h K) x0 h (Y19.J (aK h K))):C Y19.id [(AV.i .i64 x0)] h K:=
 gC Y19.J Tryd.func45 Y19.dist H
end Go.Proofs.YtpaphfeihpgamaaDoor
namespace Go.Proofs.YtpaphfeihpgamaaDoor
open Go.GAM
variable [XR]
noncomputable def Y13.body:Code:=(Tryd.f50.body).getD .skip
def Y13.ann:Ann:=(sl [0] (sq [0] (sl [0,3] (.seq 1 [0,15] lf (.br (sl [2] lf) lf))) (sl [0,4] (sl [0,4,5] (sq [5] (sl [4,5,22,23,24] (.one (.loop 2 [4,5,22,23,24] (sl [4,5,22,23,24,25] (sq [4,5,22,23,24] bl (.seq 3 [4,5,22,23,24] (.one (sl [4,5,6,7,22,23,24] (sl [4,5,6,7,22,23,24,30] (.br (sl [4,5,7,22,23,24] lf) lf)))) lf)))))) (sl [2] lf))))))
theorem Y13.dist:aH (places Y13.ann Y13.body)=true:=by kernel_rfl
noncomputable def Y13.J (Q:AV→aA→Prop):JT:=bI prog C Tryd.f50 Y13.ann Y13.body Q
def Y13.p0 (Q:AV→aA→Prop) (x0:AV) (x15:Bool) (h:aA):Prop:=Y13.J Q 1 [(0,x0),(15,(AV.b x15))] h
def Y13.p2 (Q:AV→aA→Prop) (x4 x5 x22:AV) (x23 x24:Int) (h:aA):Prop:=Y13.J Q 3 [(4,x4),(5,x5),(22,x22),(23,(AV.i .i64 x23)),(24,(AV.i .i64 x24))] h
def Y13.p1 (Q:AV→aA→Prop) (x4 x5 x22:AV) (x23 x24:Int) (h:aA):Prop:=Y13.J Q 2 [(4,x4),(5,x5),(22,x22),(23,(AV.i .i64 x23)),(24,(AV.i .i64 x24))] h
def Y13.t0 (Q:AV→aA→Prop) (x0:AV) (x15:Bool) (h:aA) (J:JT):Prop:=
(bif x15 then
(Q (AV.sl none 0 none) h)
else
(C Y10.id [x0] h fun v9 h10=>
j3 16 16 v9 fun v11=>
cX none [(AV.i .i64 0),(AV.i .i64 0),(AV.i .i64 0),(AV.i .i64 0),(AV.i .i64 0),(AV.i .i64 0),(AV.i .i64 0),(AV.i .i64 0),(AV.i .i64 0),(AV.i .i64 0),(AV.i .i64 0),(AV.i .i64 0),(AV.i .i64 0),(AV.i .i64 0),(AV.i .i64 0),(AV.i .i64 0)] h10 fun v12 h13=>
aV 16 v12 v11 h13 fun h14=>
bN x0 fun n16=>
lT 1 8 [(AV.i .i64 0)] (AV.i .i64 n16) (AV.i .i64 n16) h14 fun v17 h18=>
bN x0 fun n20=>
J 2 [(4,v12),(5,v17),(22,x0),(23,(AV.i .i64 n20)),(24,(AV.i .i64 0))] h18))
theorem Y13.i0 {Q x0 x15 h} (H:Y13.t0 Q x0 x15 h (Y13.J Q)):Y13.p0 Q x0 x15 h:=gR Y13.J Tryd.f50 Y13.dist [1,0,1,1] H
def Y13.t2 (Q:AV→aA→Prop) (x4 x5 x22:AV) (x23 x24:Int) (h:aA) (J:JT):Prop:=
aJ (IntKind.wrap .i64 (x24+1)) fun n44=>
J 2 [(4,x4),(5,x5),(22,x22),(23,(AV.i .i64 x23)),(24,(AV.i .i64 n44))] h
theorem Y13.i2 {Q x4 x5 x22 x23 x24 h} (H:Y13.t2 Q x4 x5 x22 x23 x24 h (Y13.J Q)):Y13.p2 Q x4 x5 x22 x23 x24 h:=gR Y13.J Tryd.f50 Y13.dist [1,1,1,1,0,1,0,0,1,1,1] H
def Y13.t1 (Q:AV→aA→Prop) (x4 x5 x22:AV) (x23 x24:Int) (h:aA) (J:JT):Prop:=
(bif (decide ((x24:Int)<x23)) then
(aP 1 x22 (AV.i .i64 x24) h fun v25=>
aB v25 h fun v26=>
asI .i64 v26 fun n27=>
(bif (decide ((0:Int)<n27)) then
(bH 16 1 x4 (AV.i .i64 n27) fun v30=>
aB v30 h fun v31=>
asI .i64 v31 fun n32=>
aP 1 x5 (AV.i .i64 x24) h fun v33=>
aV 1 v33 (AV.i .i64 n32) h fun h34=>
bH 16 1 x4 (AV.i .i64 n27) fun v36=>
aB v36 h34 fun v37=>
asI .i64 v37 fun n38=>
aJ (IntKind.wrap .i64 (n38+1)) fun n39=>
bH 16 1 x4 (AV.i .i64 n27) fun v40=>
aV 1 v40 (AV.i .i64 n39) h34 fun h41=>
J 3 [(4,x4),(5,x5),(22,x22),(23,(AV.i .i64 x23)),(24,(AV.i .i64 x24))] h41)
else
(J 3 [(4,x4),(5,x5),(22,x22),(23,(AV.i .i64 x23)),(24,(AV.i .i64 x24))] h)))
else
(Q x5 h))
theorem Y13.i1 {Q x4 x5 x22 x23 x24 h} (H:Y13.t1 Q x4 x5 x22 x23 x24 h (Y13.J Q)):Y13.p1 Q x4 x5 x22 x23 x24 h:=gH Y13.J Tryd.f50 Y13.dist [1,1,1,1,0,1,0] H
def Y13.t (Q:AV→aA→Prop) (x0:AV) (h:aA) (J:JT):Prop:=
C Y6.id [x0] h fun v1 h2=>
asI .i64 v1 fun n3=>
(bif (!decide ((n3:Int)=0)) then
(J 1 [(0,x0),(15,(AV.b (!decide ((n3:Int)=1))))] h2)
else
(J 1 [(0,x0),(15,(AV.b false))] h2))
theorem Y13.call {K x0 h} (H:Y13.t (aK h K) x0 h (Y13.J (aK h K))):C Y13.id [x0] h K:=
 gC Y13.J Tryd.func50 Y13.dist H
noncomputable def Y26.body:Code:=(Tryd.f51.body).getD .skip
def Y26.ann:Ann:=(sl [0,1,3,8] (.one (.loop 1 [0,1,3,8] (sq [0,1,3,8] (sl [0,1,3,8,15] bl) (sq [0,1,3,8] (.one lf) lf)))))
theorem Y26.dist:aH (places Y26.ann Y26.body)=true:=by kernel_rfl
noncomputable def Y26.J (Q:AV→aA→Prop):JT:=bI prog C Tryd.f51 Y26.ann Y26.body Q
def Y26.p0 (Q:AV→aA→Prop) (x0 x1:AV) (x3 x8:Int) (h:aA):Prop:=Y26.J Q 1 [(0,x0),(1,x1),(3,(AV.i .i64 x3)),(8,(AV.i .i64 x8))] h
def Y26.t0 (Q:AV→aA→Prop) (x0 x1:AV) (x3 x8:Int) (h:aA) (J:JT):Prop:=
(bif (decide ((0:Int)≤x8)) then
(aP 1 x1 (AV.i .i64 x3) h fun v7=>
aB v7 h fun v8=>
asI .i64 v8 fun n9=>
jV .i64 n9 x8 fun n10=>
C Y17.id [x0,(AV.i .i64 (bK .and .i64 n10 1)),(AV.i .i64 1)] h fun v11 h12=>
aJ (IntKind.wrap .i64 (x8 - 1)) fun n14=>
J 1 [(0,x0),(1,x1),(3,(AV.i .i64 x3)),(8,(AV.i .i64 n14))] h12)
else
(Q (AV.tu []) h))
theorem Y26.i0 {Q x0 x1 x3 x8 h} (H:Y26.t0 Q x0 x1 x3 x8 h (Y26.J Q)):Y26.p0 Q x0 x1 x3 x8 h:=gH Y26.J Tryd.f51 Y26.dist [1,0] H
def Y26.t (Q:AV→aA→Prop) (x0 x1 x2:AV) (x3:Int) (h:aA) (J:JT):Prop:=
aP 1 x2 (AV.i .i64 x3) h fun v0=>
aB v0 h fun v1=>
asI .i64 v1 fun n2=>
aJ (IntKind.wrap .i64 (n2 - 1)) fun n3=>
J 1 [(0,x0),(1,x1),(3,(AV.i .i64 x3)),(8,(AV.i .i64 n3))] h
theorem Y26.call {K x0 x1 x2 x3 h} (H:Y26.t (aK h K) x0 x1 x2 x3 h (Y26.J (aK h K))):C Y26.id [x0,x1,x2,(AV.i .i64 x3)] h K:=
 gC Y26.J Tryd.func51 Y26.dist H
noncomputable def Y74.body:Code:=(Tryd.f58.body).getD .skip
def Y74.ann:Ann:=(sl [] (sl [1] (sl [1] (sl [1] (sl [0] lf)))))
theorem Y74.dist:aH (places Y74.ann Y74.body)=true:=by kernel_rfl
noncomputable def Y74.J (Q:AV→aA→Prop):JT:=bI prog C Tryd.f58 Y74.ann Y74.body Q
def Y74.t (Q:AV→aA→Prop) (h:aA) (J:JT):Prop:=
C Y24.id [(AV.sl none 0 none),(AV.i .i64 144),(AV.i .i64 8)] h fun v1 h2=>
C Y24.id [v1,(AV.i .i64 112),(AV.i .i64 9)] h2 fun v4 h5=>
C Y24.id [v4,(AV.i .i64 24),(AV.i .i64 7)] h5 fun v7 h8=>
C Y24.id [v7,(AV.i .i64 8),(AV.i .i64 8)] h8 fun v10 h11=>
Q v10 h11
theorem Y74.call {K h} (H:Y74.t (aK h K) h (Y74.J (aK h K))):C Y74.id [] h K:=
 gC Y74.J Tryd.func58 Y74.dist H
noncomputable def Y24.body:Code:=(Tryd.f59.body).getD .skip
def Y24.ann:Ann:=(sl [0,1,2] (sq [0] (sl [0,1,2,7] (.one (.loop 1 [0,1,2,7] (sq [0,1,2,7] (sl [0,1,2,7,10] bl) (sq [0,1,2,7] (.one lf) lf))))) (sl [6] lf)))
theorem Y24.dist:aH (places Y24.ann Y24.body)=true:=by kernel_rfl
noncomputable def Y24.J (Q:AV→aA→Prop):JT:=bI prog C Tryd.f59 Y24.ann Y24.body Q
def Y24.p0 (Q:AV→aA→Prop) (x0:AV) (x1 x2 x7:Int) (h:aA):Prop:=Y24.J Q 1 [(0,x0),(1,(AV.i .i64 x1)),(2,(AV.i .i64 x2)),(7,(AV.i .i64 x7))] h
def Y24.t0 (Q:AV→aA→Prop) (x0:AV) (x1 x2 x7:Int) (h:aA) (J:JT):Prop:=
(bif (decide ((x7:Int)<x1)) then
(bF 1 1 [(AV.i .i64 0)] [(0,1,(AV.i .i64 x2))] h fun v5 h6=>
bM none 1 8 x0 v5 h6 fun v7 h8=>
aJ (IntKind.wrap .i64 (x7+1)) fun n10=>
J 1 [(0,v7),(1,(AV.i .i64 x1)),(2,(AV.i .i64 x2)),(7,(AV.i .i64 n10))] h8)
else
(Q x0 h))
theorem Y24.i0 {Q x0 x1 x2 x7 h} (H:Y24.t0 Q x0 x1 x2 x7 h (Y24.J Q)):Y24.p0 Q x0 x1 x2 x7 h:=gH Y24.J Tryd.f59 Y24.dist [1,0,1,0] H
def Y24.t (Q:AV→aA→Prop) (x0:AV) (x1 x2:Int) (h:aA) (J:JT):Prop:=
J 1 [(0,x0),(1,(AV.i .i64 x1)),(2,(AV.i .i64 x2)),(7,(AV.i .i64 0))] h
theorem Y24.call {K x0 x1 x2 h} (H:Y24.t (aK h K) x0 x1 x2 h (Y24.J (aK h K))):C Y24.id [x0,(AV.i .i64 x1),(AV.i .i64 x2)] h K:=
 gC Y24.J Tryd.func59 Y24.dist H
noncomputable def Y37.body:Code:=(Tryd.f62.body).getD .skip
def Y37.ann:Ann:=(sl [0,1] (sq [] (sl [0,1,6] (sl [0,1,6,20] (.br (sl [6] (sl [4,5] lf)) lf))) (sl [4,5] lf)))
theorem Y37.dist:aH (places Y37.ann Y37.body)=true:=by kernel_rfl
noncomputable def Y37.J (Q:AV→aA→Prop):JT:=bI prog C Tryd.f62 Y37.ann Y37.body Q
def Y37.t (Q:AV→aA→Prop) (x0:AV) (x1:Int) (h:aA) (J:JT):Prop:=
aZ x0 fun v1=>
aC 0 v1 fun v2=>
aB v2 h fun v3=>
bN v3 fun n4=>
aZ x0 fun v6=>
aC 0 v6 fun v7=>
aB v7 h fun v8=>
s0 1 v8 h fun v9 h10=>
asI .i64 v9 fun n11=>
aJ (IntKind.wrap .i64 (n11 - n4)) fun n12=>
(bif (decide ((x1:Int)≤n12)) then
(aZ x0 fun v14=>
aC 0 v14 fun v15=>
aB v15 h10 fun v16=>
aJ (IntKind.wrap .i64 (n4+x1)) fun n17=>
bG 1 v16 none (some (AV.i .i64 n17)) none h10 fun v18=>
aZ x0 fun v19=>
aC 0 v19 fun v20=>
aV 1 v20 v18 h10 fun h21=>
Q (AV.tu [(AV.i .i64 n4),(AV.b true)]) h21)
else
(Q (AV.tu [(AV.i .i64 0),(AV.b false)]) h10))
theorem Y37.call {K x0 x1 h} (H:Y37.t (aK h K) x0 x1 h (Y37.J (aK h K))):C Y37.id [x0,(AV.i .i64 x1)] h K:=
 gC Y37.J Tryd.func62 Y37.dist H
noncomputable def Y4.body:Code:=(Tryd.f63.body).getD .skip
def Y4.ann:Ann:=(sl [0,1] (sl [0,1,5] (.seq 2 [0,1,5] (.seq 1 [0,1,5,19] lf bl) (sq [0,1,5] (sl [0,1,5,6,7] (sl [0,1,5,6,28] (.br (sl [4] lf) lf))) (sq [0,1,5] (.seq 3 [0,1,5,38] lf (.br (sl [] (sl [4] lf)) lf)) (sl [0,1,5,8] (.seq 4 [0,1,5] (sl [0,1,5,8,54] (.br (.ord (nn 0 13 (.eff 13 .done .stop))) (sl [0,1,5,74] (.br lf (.ord (nn 0 16 (.eff 16 (nn 17 2 (.eff 19 .done .stop)) .stop))))))) (sl [0,1,5] (sl [5] (sl [4] lf))))))))))
theorem Y4.dist:aH (places Y4.ann Y4.body)=true:=by kernel_rfl
noncomputable def Y4.J (Q:AV→aA→Prop):JT:=bI prog C Tryd.f63 Y4.ann Y4.body Q
def Y4.p0 (Q:AV→aA→Prop) (x0:AV) (x1 x5:Int) (x19:Bool) (h:aA):Prop:=Y4.J Q 1 [(0,x0),(1,(AV.i .i64 x1)),(5,(AV.i .i64 x5)),(19,(AV.b x19))] h
def Y4.p2 (Q:AV→aA→Prop) (x0:AV) (x1 x5:Int) (x38:Bool) (h:aA):Prop:=Y4.J Q 3 [(0,x0),(1,(AV.i .i64 x1)),(5,(AV.i .i64 x5)),(38,(AV.b x38))] h
def Y4.p3 (Q:AV→aA→Prop) (x0:AV) (x1 x5:Int) (h:aA):Prop:=Y4.J Q 4 [(0,x0),(1,(AV.i .i64 x1)),(5,(AV.i .i64 x5))] h
def Y4.p1 (Q:AV→aA→Prop) (x0:AV) (x1 x5:Int) (h:aA):Prop:=Y4.J Q 2 [(0,x0),(1,(AV.i .i64 x1)),(5,(AV.i .i64 x5))] h
def Y4.t0 (Q:AV→aA→Prop) (x0:AV) (x1 x5:Int) (x19:Bool) (h:aA) (J:JT):Prop:=
(bif x19 then
(C Y83.id [x0] h fun v11 h12=>
J 2 [(0,x0),(1,(AV.i .i64 x1)),(5,(AV.i .i64 x5))] h12)
else
(J 2 [(0,x0),(1,(AV.i .i64 x1)),(5,(AV.i .i64 x5))] h))
theorem Y4.i0 {Q x0 x1 x5 x19 h} (H:Y4.t0 Q x0 x1 x5 x19 h (Y4.J Q)):Y4.p0 Q x0 x1 x5 x19 h:=gR Y4.J Tryd.f63 Y4.dist [1,1,0,1] H
def Y4.t2 (Q:AV→aA→Prop) (x0:AV) (x1 x5:Int) (x38:Bool) (h:aA) (J:JT):Prop:=
(bif x38 then
(lT 1 1 [(AV.i .u8 0)] (AV.i .i64 x1) (AV.i .i64 64) h fun v32 h33=>
aZ x0 fun v34=>
aC 0 v34 fun v35=>
aV 1 v35 v32 h33 fun h36=>
Q (AV.i .i64 0) h36)
else
(aZ x0 fun v40=>
aC 0 v40 fun v41=>
aB v41 h fun v42=>
s0 1 v42 h fun v43 h44=>
asI .i64 v43 fun n45=>
qM .i64 n45 2 fun n47=>
aJ (IntKind.wrap .i64 (n47 - x5)) fun n48=>
(bif (decide ((x1:Int)≤n48)) then
(aZ x0 fun v50=>
aC 0 v50 fun v51=>
aB v51 h44 fun v52=>
aZ x0 fun v53=>
aC 0 v53 fun v54=>
aB v54 h44 fun v55=>
aZ x0 fun v56=>
aC 1 v56 fun v57=>
aB v57 h44 fun v58=>
asI .i64 v58 fun n59=>
bG 1 v55 (some (AV.i .i64 n59)) none none h44 fun v60=>
iA 1 v52 v60 h44 fun v61 h62=>
asI .i64 v61 fun n63=>
J 4 [(0,x0),(1,(AV.i .i64 x1)),(5,(AV.i .i64 x5))] h62)
else
(aJ (IntKind.wrap .i64 (9223372036854775807 - n45)) fun n65=>
aJ (IntKind.wrap .i64 (n65 - x1)) fun n66=>
(bif (decide ((n66:Int)<n45)) then
(aB (yZ h44 1) h44 fun v68=>
False)
else
(aZ x0 fun v69=>
aC 0 v69 fun v70=>
aB v70 h44 fun v71=>
aZ x0 fun v72=>
aC 1 v72 fun v73=>
aB v73 h44 fun v74=>
asI .i64 v74 fun n75=>
bG 1 v71 (some (AV.i .i64 n75)) none none h44 fun v76=>
aZ x0 fun v77=>
aC 1 v77 fun v78=>
aB v78 h44 fun v79=>
asI .i64 v79 fun n80=>
aJ (IntKind.wrap .i64 (n80+x1)) fun n81=>
C Y49.id [v76,(AV.i .i64 n81)] h44 fun v82 h83=>
aZ x0 fun v84=>
aC 0 v84 fun v85=>
aV 1 v85 v82 h83 fun h86=>
J 4 [(0,x0),(1,(AV.i .i64 x1)),(5,(AV.i .i64 x5))] h86))))))
theorem Y4.i2 {Q x0 x1 x5 x38 h} (H:Y4.t2 Q x0 x1 x5 x38 h (Y4.J Q)):Y4.p2 Q x0 x1 x5 x38 h:=gR Y4.J Tryd.f63 Y4.dist [1,1,1,1,0,1] H
def Y4.t3 (Q:AV→aA→Prop) (x0:AV) (x1 x5:Int) (h:aA) (J:JT):Prop:=
aZ x0 fun v88=>
aC 1 v88 fun v89=>
aV 1 v89 (AV.i .i64 0) h fun h90=>
aZ x0 fun v92=>
aC 0 v92 fun v93=>
aB v93 h90 fun v94=>
aJ (IntKind.wrap .i64 (x5+x1)) fun n95=>
bG 1 v94 none (some (AV.i .i64 n95)) none h90 fun v96=>
aZ x0 fun v97=>
aC 0 v97 fun v98=>
aV 1 v98 v96 h90 fun h99=>
Q (AV.i .i64 x5) h99
theorem Y4.i3 {Q x0 x1 x5 h} (H:Y4.t3 Q x0 x1 x5 h (Y4.J Q)):Y4.p3 Q x0 x1 x5 h:=gR Y4.J Tryd.f63 Y4.dist [1,1,1,1,1,1,1] H
def Y4.t1 (Q:AV→aA→Prop) (x0:AV) (x1 x5:Int) (h:aA) (J:JT):Prop:=
C Y37.id [x0,(AV.i .i64 x1)] h fun v15 h16=>
aR 0 v15 fun v17=>
asI .i64 v17 fun n18=>
aR 1 v15 fun v19=>
asB v19 fun c20=>
(bif c20 then
(Q (AV.i .i64 n18) h16)
else
(aZ x0 fun v25=>
aC 0 v25 fun v26=>
aB v26 h16 fun v27=>
eG prog .eql 43 v27 (AV.sl none 0 none) fun v28=>
asB v28 fun c29=>
(bif c29 then
(J 3 [(0,x0),(1,(AV.i .i64 x1)),(5,(AV.i .i64 x5)),(38,(AV.b (decide ((x1:Int)≤64))))] h16)
else
(J 3 [(0,x0),(1,(AV.i .i64 x1)),(5,(AV.i .i64 x5)),(38,(AV.b false))] h16))))
theorem Y4.i1 {Q x0 x1 x5 h} (H:Y4.t1 Q x0 x1 x5 h (Y4.J Q)):Y4.p1 Q x0 x1 x5 h:=gR Y4.J Tryd.f63 Y4.dist [1,1,1] H
def Y4.t (Q:AV→aA→Prop) (x0:AV) (x1:Int) (h:aA) (J:JT):Prop:=
C Y39.id [x0] h fun v1 h2=>
asI .i64 v1 fun n3=>
(bif (decide ((n3:Int)=0)) then
(aZ x0 fun v5=>
aC 1 v5 fun v6=>
aB v6 h2 fun v7=>
asI .i64 v7 fun n8=>
J 1 [(0,x0),(1,(AV.i .i64 x1)),(5,(AV.i .i64 n3)),(19,(AV.b (!decide ((n8:Int)=0))))] h2)
else
(J 1 [(0,x0),(1,(AV.i .i64 x1)),(5,(AV.i .i64 n3)),(19,(AV.b false))] h2))
theorem Y4.call {K x0 x1 h} (H:Y4.t (aK h K) x0 x1 h (Y4.J (aK h K))):C Y4.id [x0,(AV.i .i64 x1)] h K:=
 gC Y4.J Tryd.func63 Y4.dist H
noncomputable def Y21.body:Code:=(Tryd.f64.body).getD .skip
def Y21.ann:Ann:=(sl [0,1] (sq [0,1] (sl [0,1,10] bl) (sl [0,5,6] (sq [0,6] (.seq 1 [0,6,26] lf bl) (sl [0,7] (sl [7,8] (sq [7] (.one (.loop 2 [7,8] (sq [7,8] (sl [7,8,37] bl) (.one (.ord (nn 0 7 (.eff 7 (.neu 8 (.eff 9 .done .stop)) .stop))))))) (sl [4] lf))))))))
theorem Y21.dist:aH (places Y21.ann Y21.body)=true:=by kernel_rfl
noncomputable def Y21.J (Q:AV→aA→Prop):JT:=bI prog C Tryd.f64 Y21.ann Y21.body Q
def Y21.p0 (Q:AV→aA→Prop) (x0:AV) (x6:Int) (x26:Bool) (h:aA):Prop:=Y21.J Q 1 [(0,x0),(6,(AV.i .u64 x6)),(26,(AV.b x26))] h
def Y21.p1 (Q:AV→aA→Prop) (x7:AV) (x8:Int) (h:aA):Prop:=Y21.J Q 2 [(7,x7),(8,(AV.i .i64 x8))] h
def Y21.t0 (Q:AV→aA→Prop) (x0:AV) (x6:Int) (x26:Bool) (h:aA) (J:JT):Prop:=
(bif x26 then
(False)
else
(lT 1 8 [(AV.i .i64 0)] (AV.i .i64 (IntKind.wrap .i64 x6)) (AV.i .i64 (IntKind.wrap .i64 x6)) h fun v14 h15=>
iA 1 v14 x0 h15 fun v17 h18=>
asI .i64 v17 fun n19=>
J 2 [(7,v14),(8,(AV.i .i64 n19))] h18))
theorem Y21.i0 {Q x0 x6 x26 h} (H:Y21.t0 Q x0 x6 x26 h (Y21.J Q)):Y21.p0 Q x0 x6 x26 h:=gR Y21.J Tryd.f64 Y21.dist [1,1,1,0,1] H
def Y21.t1 (Q:AV→aA→Prop) (x7:AV) (x8:Int) (h:aA) (J:JT):Prop:=
bN x7 fun n21=>
(bif (decide ((x8:Int)<n21)) then
(bG 1 x7 (some (AV.i .i64 x8)) none none h fun v25=>
bG 1 x7 none (some (AV.i .i64 x8)) none h fun v26=>
iA 1 v25 v26 h fun v27 h28=>
asI .i64 v27 fun n29=>
aJ (IntKind.wrap .i64 (x8+n29)) fun n30=>
J 2 [(7,x7),(8,(AV.i .i64 n30))] h28)
else
(Q x7 h))
theorem Y21.i1 {Q x7 x8 h} (H:Y21.t1 Q x7 x8 h (Y21.J Q)):Y21.p1 Q x7 x8 h:=gH Y21.J Tryd.f64 Y21.dist [1,1,1,1,1,1,0,0] H
def Y21.t (Q:AV→aA→Prop) (x0:AV) (x1:Int) (h:aA) (J:JT):Prop:=
(bif (decide ((x1:Int)<0)) then
(False)
else
(bN x0 fun n3=>
C Y70.id [(AV.i .u64 (IntKind.wrap .u64 n3)),(AV.i .u64 (IntKind.wrap .u64 x1))] h fun v4 h5=>
aR 0 v4 fun v6=>
asI .u64 v6 fun n7=>
aR 1 v4 fun v8=>
asI .u64 v8 fun n9=>
(bif (decide ((0:Int)<n7)) then
(J 1 [(0,x0),(6,(AV.i .u64 n9)),(26,(AV.b true))] h5)
else
(J 1 [(0,x0),(6,(AV.i .u64 n9)),(26,(AV.b (decide ((9223372036854775807:Int)<n9))))] h5))))
theorem Y21.call {K x0 x1 h} (H:Y21.t (aK h K) x0 x1 h (Y21.J (aK h K))):C Y21.id [x0,(AV.i .i64 x1)] h K:=
 gC Y21.J Tryd.func64 Y21.dist H
noncomputable def Y41.body:Code:=(Tryd.f65.body).getD .skip
def Y41.ann:Ann:=(sl [0] (sq [0] (.one (sl [0,5] (.br (sl [2,3] lf) (sl [0,10] (.br (sl [2,3] lf) lf))))) (sl [0,4] (sl [2,3] lf))))
theorem Y41.dist:aH (places Y41.ann Y41.body)=true:=by kernel_rfl
noncomputable def Y41.J (Q:AV→aA→Prop):JT:=bI prog C Tryd.f65 Y41.ann Y41.body Q
def Y41.t (Q:AV→aA→Prop) (x0:Int) (h:aA) (J:JT):Prop:=
(bif (decide ((x0:Int)≤264)) then
(aJ (IntKind.wrap .i64 (x0 - 254)) fun n2=>
Q (AV.tu [(AV.i .i64 n2),(AV.i .i64 0)]) h)
else
((bif (decide ((x0:Int)=285)) then
(Q (AV.tu [(AV.i .i64 258),(AV.i .i64 0)]) h)
else
(aJ (IntKind.wrap .i64 (x0 - 261)) fun n7=>
qM .i64 n7 4 fun n8=>
aJ (IntKind.wrap .i64 (x0 - 265)) fun n10=>
qX n10 4 fun n11=>
aJ (IntKind.wrap .i64 (4+n11)) fun n12=>
jS .i64 n12 n8 fun n13=>
aJ (IntKind.wrap .i64 (n13+3)) fun n14=>
Q (AV.tu [(AV.i .i64 n14),(AV.i .i64 n8)]) h))))
theorem Y41.call {K x0 h} (H:Y41.t (aK h K) x0 h (Y41.J (aK h K))):C Y41.id [(AV.i .i64 x0)] h K:=
 gC Y41.J Tryd.func65 Y41.dist H
noncomputable def Y47.body:Code:=(Tryd.f66.body).getD .skip
def Y47.ann:Ann:=(sl [0] (sq [0] (sl [0,6] (.br (sl [2,3] lf) lf)) (sl [0,4] (sl [2,3] lf))))
theorem Y47.dist:aH (places Y47.ann Y47.body)=true:=by kernel_rfl
noncomputable def Y47.J (Q:AV→aA→Prop):JT:=bI prog C Tryd.f66 Y47.ann Y47.body Q
def Y47.t (Q:AV→aA→Prop) (x0:Int) (h:aA) (J:JT):Prop:=
(bif (decide ((x0:Int)<4)) then
(aJ (IntKind.wrap .i64 (x0+1)) fun n2=>
Q (AV.tu [(AV.i .i64 n2),(AV.i .i64 0)]) h)
else
(qM .i64 x0 2 fun n5=>
aJ (IntKind.wrap .i64 (n5 - 1)) fun n6=>
qX x0 2 fun n8=>
aJ (IntKind.wrap .i64 (2+n8)) fun n9=>
jS .i64 n9 n6 fun n10=>
aJ (IntKind.wrap .i64 (n10+1)) fun n11=>
Q (AV.tu [(AV.i .i64 n11),(AV.i .i64 n6)]) h))
theorem Y47.call {K x0 h} (H:Y47.t (aK h K) x0 h (Y47.J (aK h K))):C Y47.id [(AV.i .i64 x0)] h K:=
 gC Y47.J Tryd.func66 Y47.dist H
noncomputable def Y38.body:Code:=(Tryd.f67.body).getD .skip
def Y38.ann:Ann:=(sl [0,1,2,8] (.br (.ord (nn 0 14 (.eff 14 (.eff 15 (.eff 16 .done .stop) .stop) .stop))) lf))
theorem Y38.dist:aH (places Y38.ann Y38.body)=true:=by kernel_rfl
noncomputable def Y38.J (Q:AV→aA→Prop):JT:=bI prog C Tryd.f67 Y38.ann Y38.body Q
def Y38.t (Q:AV→aA→Prop) (x0:Int) (x1 x2:AV) (h:aA) (J:JT):Prop:=
aJ (IntKind.wrap .i64 (x0+3)) fun n0=>
aB x1 h fun v1=>
asS v1 fun l2=>
(bif (decide ((n0:Int)≤(l2.length:Int))) then
(aB x2 h fun v4=>
aB x1 h fun v5=>
asS v5 fun l6=>
aJ (IntKind.wrap .i64 (x0+3)) fun n7=>
bX (AV.s l6) (some (AV.i .i64 x0)) (some (AV.i .i64 n7)) fun l8=>
aB x2 h fun v9=>
aB x1 h fun v10=>
asS v10 fun l11=>
aJ (IntKind.wrap .i64 (x0+3)) fun n12=>
bX (AV.s l11) (some (AV.i .i64 x0)) (some (AV.i .i64 n12)) fun l13=>
eR prog 9 64 false v9 (AV.s l13) h fun v14=>
bF 1 1 [(AV.i .i64 0)] [(0,1,(AV.i .i64 x0))] h fun v15 h16=>
eR prog 9 64 false v9 (AV.s l13) h16 fun v17=>
(v14=v17 ∧
(aB x1 h16 fun v18=>
asS v18 fun l19=>
((AV.s l11)=(AV.s l19) ∧
(aB x2 h16 fun v20=>
(v9=v20 ∧
(aB x1 h16 fun v21=>
asS v21 fun l22=>
((AV.s l6)=(AV.s l22) ∧
(aB x2 h16 fun v23=>
(v4=v23 ∧
(bM none 1 8 v14 v15 h16 fun v24 h25=>
aB x1 h25 fun v26=>
asS v26 fun l27=>
((AV.s l6)=(AV.s l27) ∧
(aB x2 h25 fun v28=>
(v4=v28 ∧
(gA prog 9 v4 (AV.s l8) v24 h25 fun h29=>
Q (AV.tu []) h29)))))))))))))))
else
(Q (AV.tu []) h))
theorem Y38.call {K x0 x1 x2 h} (H:Y38.t (aK h K) x0 x1 x2 h (Y38.J (aK h K))):C Y38.id [(AV.i .i64 x0),x1,x2] h K:=
 gC Y38.J Tryd.func67 Y38.dist H
noncomputable def Y40.body:Code:=(Tryd.f68.body).getD .skip
def Y40.ann:Ann:=(sl [2,3,4,6,7] (sl [2,3,4,6,7,8] (sq [6,7] (sl [3,4,6,7,8,18] (.one (.br lf (.one (sq [3,4,6,7,8,10] (.seq 1 [3,4,6,7,8,10,29] lf bl) (sl [3,4,6,7,8,10,11] (sq [4,6,7,10,11] (.one (.loop 2 [3,4,6,7,8,10,11] (sq [3,4,6,7,8,10,11] (.seq 3 [3,4,6,7,8,10,11,45] (.ord (nn 0 16 .done)) bl) (.one lf)))) (sl [4,6,7,10,11,50] (.br (.ord (nn 0 4 (.eff 4 (.eff 5 .done .stop) .stop))) lf))))))))) (sq [6,7] (.ord (nn 0 2 (.eff 2 (.eff 3 .done .stop) .stop))) lf))))
theorem Y40.body_eq:Tryd.f68.body=some Y40.body:=by kernel_rfl
noncomputable def Y3.body:Code:=codeAt [1,1,0,1,0,1] Y40.body
def Y3.ann:Ann:=(.one (sq [3,4,6,7,8,10] (.seq 1 [3,4,6,7,8,10,29] lf bl) (sl [3,4,6,7,8,10,11] (sq [4,6,7,10,11] (.one (.loop 2 [3,4,6,7,8,10,11] (sq [3,4,6,7,8,10,11] (.seq 3 [3,4,6,7,8,10,11,45] (.ord (nn 0 16 .done)) bl) (.one lf)))) (sl [4,6,7,10,11,50] (.br (.ord (nn 0 4 (.eff 4 (.eff 5 .done .stop) .stop))) lf))))))
theorem Y3.dist:aH (places Y3.ann Y3.body)=true:=by kernel_rfl
noncomputable def Y3.J (X:Exit→aA→Prop):JT:=lV prog C 57 Y3.ann Y3.body (xK X)
theorem Y3.goR {X:Exit→aA→Prop} {k:Nat} {p:List Nat} (hl:iZ (places Y3.ann Y3.body) k=some (p,false)) {e:Env} {h:aA} (hk:atJ prog C 57 (Y3.J X) false p Y3.ann Y3.body e h (xK X)):Y3.J X k e h:=aD9 (P:=prog) (nt:=57) (ann:=Y3.ann) (body:=Y3.body) (K:=xK X) (k:=k) (p:=p) (e:=e) (h:=h) (gX _) Y3.dist hl hk
theorem Y3.goH {X:Exit→aA→Prop} {k:Nat} {p:List Nat} (hl:iZ (places Y3.ann Y3.body) k=some (p,true)) {e:Env} {h:aA} (hk:atJ prog C 57 (Y3.J X) true p Y3.ann Y3.body e h (xK X)):Y3.J X k e h:=aCJ (P:=prog) (nt:=57) (ann:=Y3.ann) (body:=Y3.body) (K:=xK X) (k:=k) (p:=p) (e:=e) (h:=h) (gX _) Y3.dist hl hk
def Y3.p0 (X:Exit→aA→Prop) (x3 x4 x6 x7 x8:AV) (x10:Int) (x29:Bool) (h:aA):Prop:=Y3.J X 1 [(3,x3),(4,x4),(6,x6),(7,x7),(8,x8),(10,(AV.i .i64 x10)),(29,(AV.b x29))] h
def Y3.p2 (X:Exit→aA→Prop) (x3 x4 x6 x7 x8:AV) (x10 x11:Int) (x45:Bool) (h:aA):Prop:=Y3.J X 3 [(3,x3),(4,x4),(6,x6),(7,x7),(8,x8),(10,(AV.i .i64 x10)),(11,(AV.i .i64 x11)),(45,(AV.b x45))] h
def Y3.p1 (X:Exit→aA→Prop) (x3 x4 x6 x7 x8:AV) (x10 x11:Int) (h:aA):Prop:=Y3.J X 2 [(3,x3),(4,x4),(6,x6),(7,x7),(8,x8),(10,(AV.i .i64 x10)),(11,(AV.i .i64 x11))] h
def Y3.t0 (J:JT) (X:Exit→aA→Prop) (x3 x4 x6 x7 x8:AV) (x10:Int) (x29:Bool) (h:aA):Prop:=
(bif x29 then
(X (Exit.exit 0) h)
else
(J 2 [(3,x3),(4,x4),(6,x6),(7,x7),(8,x8),(10,(AV.i .i64 x10)),(11,(AV.i .i64 0))] h))
theorem Y3.t0_eq (J:JT) (X:Exit→aA→Prop) (x3:AV) (x4:AV) (x6:AV) (x7:AV) (x8:AV) (x10:Int) (x29:Bool) (h:aA):Y3.t0 J X x3 x4 x6 x7 x8 x10 x29 h=atJ prog C 57 J false [0,0,1] Y3.ann Y3.body [(3,x3),(4,x4),(6,x6),(7,x7),(8,x8),(10,(AV.i .i64 x10)),(29,(AV.b x29))] h (xK X):=by kernel_rfl
theorem Y3.i0 {X x3 x4 x6 x7 x8 x10 x29 h} (H:Y3.t0 (Y3.J X) X x3 x4 x6 x7 x8 x10 x29 h):Y3.p0 X x3 x4 x6 x7 x8 x10 x29 h:=Y3.goR (k:=1) (p:=[0,0,1]) (by kernel_rfl) ((Y3.t0_eq (Y3.J X) X x3 x4 x6 x7 x8 x10 x29 h).mp H)
def Y3.t2 (J:JT) (X:Exit→aA→Prop) (x3 x4 x6 x7 x8:AV) (x10 x11:Int) (x45:Bool) (h:aA):Prop:=
(bif x45 then
(aJ (IntKind.wrap .i64 (x11+1)) fun n54=>
J 2 [(3,x3),(4,x4),(6,x6),(7,x7),(8,x8),(10,(AV.i .i64 x10)),(11,(AV.i .i64 n54))] h)
else
(aB x6 h fun v56=>
asI .i64 v56 fun n57=>
(bif (decide ((n57:Int)<x11)) then
(aB x4 h fun v59=>
asI .i64 v59 fun n60=>
aJ (IntKind.wrap .i64 (n60 - x10)) fun n61=>
aV 1 x6 (AV.i .i64 x11) h fun h62=>
aB x4 h62 fun v63=>
asI .i64 v63 fun n64=>
((AV.i .i64 n60)=(AV.i .i64 n64) ∧
(aV 1 x7 (AV.i .i64 n61) h62 fun h65=>
X Exit.normal h65)))
else
(X Exit.normal h))))
theorem Y3.t2_eq (J:JT) (X:Exit→aA→Prop) (x3:AV) (x4:AV) (x6:AV) (x7:AV) (x8:AV) (x10:Int) (x11:Int) (x45:Bool) (h:aA):Y3.t2 J X x3 x4 x6 x7 x8 x10 x11 x45 h=atJ prog C 57 J false [0,1,1,0,0,0,0,1] Y3.ann Y3.body [(3,x3),(4,x4),(6,x6),(7,x7),(8,x8),(10,(AV.i .i64 x10)),(11,(AV.i .i64 x11)),(45,(AV.b x45))] h (xK X):=by kernel_rfl
theorem Y3.i2 {X x3 x4 x6 x7 x8 x10 x11 x45 h} (H:Y3.t2 (Y3.J X) X x3 x4 x6 x7 x8 x10 x11 x45 h):Y3.p2 X x3 x4 x6 x7 x8 x10 x11 x45 h:=Y3.goR (k:=3) (p:=[0,1,1,0,0,0,0,1]) (by kernel_rfl) ((Y3.t2_eq (Y3.J X) X x3 x4 x6 x7 x8 x10 x11 x45 h).mp H)
def Y3.t1 (J:JT) (X:Exit→aA→Prop) (x3 x4 x6 x7 x8:AV) (x10 x11:Int) (h:aA):Prop:=
aB x8 h fun v38=>
asI .i64 v38 fun n39=>
(bif (decide ((x11:Int)<n39)) then
(aB x3 h fun v40=>
asS v40 fun l41=>
aJ (IntKind.wrap .i64 (x10+x11)) fun n42=>
dU (AV.s l41) (AV.i .i64 n42) fun n43=>
aB x3 h fun v44=>
asS v44 fun l45=>
aB x4 h fun v46=>
asI .i64 v46 fun n47=>
aJ (IntKind.wrap .i64 (n47+x11)) fun n48=>
dU (AV.s l45) (AV.i .i64 n48) fun n49=>
J 3 [(3,x3),(4,x4),(6,x6),(7,x7),(8,x8),(10,(AV.i .i64 x10)),(11,(AV.i .i64 x11)),(45,(AV.b (decide ((n43:Int)=n49))))] h)
else
(J 3 [(3,x3),(4,x4),(6,x6),(7,x7),(8,x8),(10,(AV.i .i64 x10)),(11,(AV.i .i64 x11)),(45,(AV.b false))] h))
theorem Y3.t1_eq (J:JT) (X:Exit→aA→Prop) (x3:AV) (x4:AV) (x6:AV) (x7:AV) (x8:AV) (x10:Int) (x11:Int) (h:aA):Y3.t1 J X x3 x4 x6 x7 x8 x10 x11 h=atJ prog C 57 J true [0,1,1,0,0] Y3.ann Y3.body [(3,x3),(4,x4),(6,x6),(7,x7),(8,x8),(10,(AV.i .i64 x10)),(11,(AV.i .i64 x11))] h (xK X):=by kernel_rfl
theorem Y3.i1 {X x3 x4 x6 x7 x8 x10 x11 h} (H:Y3.t1 (Y3.J X) X x3 x4 x6 x7 x8 x10 x11 h):Y3.p1 X x3 x4 x6 x7 x8 x10 x11 h:=Y3.goH (k:=2) (p:=[0,1,1,0,0]) (by kernel_rfl) ((Y3.t1_eq (Y3.J X) X x3 x4 x6 x7 x8 x10 x11 h).mp H)
def Y40.tX (Q:AV→aA→Prop) (x0:List UInt8) (x1:Int) (x2:AV) (h:aA):Prop:=
dD none (AV.s x0) h fun v0 h1=>
dD none (AV.i .i64 x1) h1 fun v2 h3=>
cX none [(AV.i .i64 0)] h3 fun v4 h5=>
cX none [(AV.i .i64 0)] h5 fun v6 h7=>
aB v0 h7 fun v9=>
asS v9 fun l10=>
aB v2 h7 fun v11=>
asI .i64 v11 fun n12=>
aJ (IntKind.wrap .i64 ((l10.length:Int) - n12)) fun n13=>
cX none [(AV.i .i64 0)] h7 fun v14 h15=>
aV 1 v14 (AV.i .i64 (mmI false 258 n13)) h15 fun h16=>
C Y80.id [x2] h16 fun v18 h19=>
aDS prog C (dS prog) v18 (fun g21 r22 y23 h24 K25=>
h24[g21]? = some (dJ r22 .ready none) ∧
aDX y23 fun y23_0 y23_1=>
asI .i64 y23_1 fun n26=>
h24[g21]? = some (dJ r22 .ready none) ∧
aB2 (aFB g21 r22 K25) fun X=>
aBH (Y3.J X) fun J=>
aB v2 (h24.set g21 (dJ r22 .busy none)) fun v27=>
asI .i64 v27 fun n28=>
aJ (IntKind.wrap .i64 (n28 - n26)) fun n29=>
(bif (decide ((32768:Int)<n29)) then
(J 1 [(3,v0),(4,v2),(6,v4),(7,v6),(8,v14),(10,(AV.i .i64 n26)),(29,(AV.b true))] (h24.set g21 (dJ r22 .busy none)))
else
(aB v4 (h24.set g21 (dJ r22 .busy none)) fun v31=>
asI .i64 v31 fun n32=>
aB v14 (h24.set g21 (dJ r22 .busy none)) fun v33=>
asI .i64 v33 fun n34=>
J 1 [(3,v0),(4,v2),(6,v4),(7,v6),(8,v14),(10,(AV.i .i64 n26)),(29,(AV.b (decide ((n32:Int)=n34))))] (h24.set g21 (dJ r22 .busy none))))) h19 fun r68 h66=>
(h66[h19.length]? = some (dJ r68 .ready none)∧aB v4 (h66.set h19.length cF) fun v73=>
asI .i64 v73 fun n74=>
aB v6 (h66.set h19.length cF) fun v75=>
asI .i64 v75 fun n76=>
aV 1 v4 (AV.i .i64 n74) (h66.set h19.length cF) fun h77=>
aB v6 h77 fun v78=>
asI .i64 v78 fun n79=>
((AV.i .i64 n76)=(AV.i .i64 n79) ∧
(aV 1 v6 (AV.i .i64 n76) h77 fun h80=>
aB v4 h80 fun v82=>
aB v6 h80 fun v83=>
Q (AV.tu [v82,v83]) h80))) ∨
(h66[h19.length]? = some (dJ r68 .done (some (.exit 0)))∧aB v4 (h66.set h19.length cF) fun v84=>
asI .i64 v84 fun n85=>
aB v6 (h66.set h19.length cF) fun v86=>
asI .i64 v86 fun n87=>
aV 1 v4 (AV.i .i64 n85) (h66.set h19.length cF) fun h88=>
aB v6 h88 fun v89=>
asI .i64 v89 fun n90=>
((AV.i .i64 n87)=(AV.i .i64 n90) ∧
(aV 1 v6 (AV.i .i64 n87) h88 fun h91=>
aB v4 h91 fun v93=>
aB v6 h91 fun v94=>
Q (AV.tu [v93,v94]) h91))) ∨
(h66[h19.length]? = some (dJ r68 .done (some .ret))∧aB v4 (h66.set h19.length cF) fun v71=>
aB v6 (h66.set h19.length cF) fun v72=>
Q (AV.tu [v71,v72]) (h66.set h19.length cF))
theorem Y40.tX_eq (Q:AV→aA→Prop) (x0:List UInt8) (x1:Int) (x2:AV) (h:aA):Y40.tX Q x0 x1 x2 h=eE prog C (dS prog) 57 Y40.ann Y40.body (dL 0 [(AV.s x0),(AV.i .i64 x1),x2]) h (oF prog Tryd.f68 Q):=by kernel_rfl
theorem Y40.callX {K:AV→aA→Prop} {x0:List UInt8} {x1:Int} {x2:AV} {h:aA} (H:Y40.tX (aK h K) x0 x1 x2 h):aFX prog C (dS prog) Y40.id [(AV.s x0),(AV.i .i64 x1),x2] h K:=
 ⟨Tryd.f68,Y40.body,Y40.ann,Tryd.func68,Y40.body_eq,by kernel_rfl,Nat.le_of_ble_eq_true (by kernel_rfl),(Y40.tX_eq (aK h K) x0 x1 x2 h).mp H⟩
noncomputable def Y5.body:Code:=(Tryd.f69.body).getD .skip
def Y5.ann:Ann:=(sl [0] (sl [0,3] (sq [0] (.seq 1 [0,15] lf (.br (sl [2] lf) lf)) (sl [0,4] (sl [0,4,5] (sq [4] (sl [0,4,5,6] (.one (.loop 2 [0,4,5,6] (sq [0,4,5,6] (sl [0,4,5,6,20] bl) (sq [0,4,5,6] (.one (sl [0,4,5,6] (sl [0,4,5,6,7] (.one (.loop 3 [0,4,5,6,7] (sq [0,4,5,6,7] (sl [0,4,5,6,7,28] bl) (.seq 4 [0,4,5,6,7] (.one (sl [0,4,5,6,7,36] (.br (sl [0,4,5,6,7] lf) lf))) lf))))))) lf))))) (sl [2] lf)))))))
theorem Y5.dist:aH (places Y5.ann Y5.body)=true:=by kernel_rfl
noncomputable def Y5.J (Q:AV→aA→Prop):JT:=bI prog C Tryd.f69 Y5.ann Y5.body Q
def Y5.p0 (Q:AV→aA→Prop) (x0:AV) (x15:Bool) (h:aA):Prop:=Y5.J Q 1 [(0,x0),(15,(AV.b x15))] h
def Y5.p3 (Q:AV→aA→Prop) (x0 x4:AV) (x5 x6 x7:Int) (h:aA):Prop:=Y5.J Q 4 [(0,x0),(4,x4),(5,(AV.i .i64 x5)),(6,(AV.i .i64 x6)),(7,(AV.i .i64 x7))] h
def Y5.p2 (Q:AV→aA→Prop) (x0 x4:AV) (x5 x6 x7:Int) (h:aA):Prop:=Y5.J Q 3 [(0,x0),(4,x4),(5,(AV.i .i64 x5)),(6,(AV.i .i64 x6)),(7,(AV.i .i64 x7))] h
def Y5.p1 (Q:AV→aA→Prop) (x0 x4:AV) (x5 x6:Int) (h:aA):Prop:=Y5.J Q 2 [(0,x0),(4,x4),(5,(AV.i .i64 x5)),(6,(AV.i .i64 x6))] h
def Y5.t0 (Q:AV→aA→Prop) (x0:AV) (x15:Bool) (h:aA) (J:JT):Prop:=
(bif x15 then
(Q (AV.sl none 0 none) h)
else
(bN x0 fun n9=>
lT 1 8 [(AV.i .i64 0)] (AV.i .i64 n9) (AV.i .i64 n9) h fun v10 h11=>
J 2 [(0,x0),(4,v10),(5,(AV.i .i64 0)),(6,(AV.i .i64 1))] h11))
theorem Y5.i0 {Q x0 x15 h} (H:Y5.t0 Q x0 x15 h (Y5.J Q)):Y5.p0 Q x0 x15 h:=gR Y5.J Tryd.f69 Y5.dist [1,1,0,1] H
def Y5.t3 (Q:AV→aA→Prop) (x0 x4:AV) (x5 x6 x7:Int) (h:aA) (J:JT):Prop:=
aJ (IntKind.wrap .i64 (x7+1)) fun n35=>
J 3 [(0,x0),(4,x4),(5,(AV.i .i64 x5)),(6,(AV.i .i64 x6)),(7,(AV.i .i64 n35))] h
theorem Y5.i3 {Q x0 x4 x5 x6 x7 h} (H:Y5.t3 Q x0 x4 x5 x6 x7 h (Y5.J Q)):Y5.p3 Q x0 x4 x5 x6 x7 h:=gR Y5.J Tryd.f69 Y5.dist [1,1,1,1,1,0,1,0,0,1,0,0,1,1,0,0,1,1] H
def Y5.t2 (Q:AV→aA→Prop) (x0 x4:AV) (x5 x6 x7:Int) (h:aA) (J:JT):Prop:=
bN x0 fun n21=>
(bif (decide ((x7:Int)<n21)) then
(aP 1 x0 (AV.i .i64 x7) h fun v25=>
aB v25 h fun v26=>
asI .i64 v26 fun n27=>
(bif (decide ((n27:Int)=x6)) then
(aP 1 x4 (AV.i .i64 x7) h fun v29=>
aV 1 v29 (AV.i .i64 x5) h fun h30=>
aJ (IntKind.wrap .i64 (x5+1)) fun n32=>
J 4 [(0,x0),(4,x4),(5,(AV.i .i64 n32)),(6,(AV.i .i64 x6)),(7,(AV.i .i64 x7))] h30)
else
(J 4 [(0,x0),(4,x4),(5,(AV.i .i64 x5)),(6,(AV.i .i64 x6)),(7,(AV.i .i64 x7))] h)))
else
(aJ (IntKind.wrap .i64 (x6+1)) fun n37=>
J 2 [(0,x0),(4,x4),(5,(AV.i .i64 x5)),(6,(AV.i .i64 n37))] h))
theorem Y5.i2 {Q x0 x4 x5 x6 x7 h} (H:Y5.t2 Q x0 x4 x5 x6 x7 h (Y5.J Q)):Y5.p2 Q x0 x4 x5 x6 x7 h:=gH Y5.J Tryd.f69 Y5.dist [1,1,1,1,1,0,1,0,0,1,0,0,1,1,0] H
def Y5.t1 (Q:AV→aA→Prop) (x0 x4:AV) (x5 x6:Int) (h:aA) (J:JT):Prop:=
(bif (decide ((x6:Int)≤15)) then
(aJ (IntKind.wrap .i64 (2 * x5)) fun n18=>
J 3 [(0,x0),(4,x4),(5,(AV.i .i64 n18)),(6,(AV.i .i64 x6)),(7,(AV.i .i64 0))] h)
else
(Q x4 h))
theorem Y5.i1 {Q x0 x4 x5 x6 h} (H:Y5.t1 Q x0 x4 x5 x6 h (Y5.J Q)):Y5.p1 Q x0 x4 x5 x6 h:=gH Y5.J Tryd.f69 Y5.dist [1,1,1,1,1,0,1,0] H
def Y5.t (Q:AV→aA→Prop) (x0:AV) (h:aA) (J:JT):Prop:=
C Y7.id [x0] h fun v1 h2=>
asI .i64 v1 fun n3=>
(bif (!decide ((n3:Int)=0)) then
(J 1 [(0,x0),(15,(AV.b (!decide ((n3:Int)=1))))] h2)
else
(J 1 [(0,x0),(15,(AV.b false))] h2))
theorem Y5.call {K x0 h} (H:Y5.t (aK h K) x0 h (Y5.J (aK h K))):C Y5.id [x0] h K:=
 gC Y5.J Tryd.func69 Y5.dist H
noncomputable def Y36.body:Code:=(Tryd.f70.body).getD .skip
def Y36.ann:Ann:=(sl [0,1,2] (sl [] (sl [6] lf)))
theorem Y36.dist:aH (places Y36.ann Y36.body)=true:=by kernel_rfl
noncomputable def Y36.J (Q:AV→aA→Prop):JT:=bI prog C Tryd.f70 Y36.ann Y36.body Q
def Y36.t (Q:AV→aA→Prop) (x0:AV) (x1:Int) (x2:AV) (h:aA) (J:JT):Prop:=
aZ x0 fun v1=>
aC 11 v1 fun v2=>
aV 1 v2 (AV.i .i64 0) h fun h3=>
aZ x0 fun v4=>
aC 12 v4 fun v5=>
aV 1 v5 (AV.i .i64 0) h3 fun h6=>
aZ x0 fun v7=>
aC 13 v7 fun v8=>
aV 1 v8 (AV.i .i64 x1) h6 fun h9=>
aZ x0 fun v10=>
aC 14 v10 fun v11=>
aV 1 v11 (AV.p none) h9 fun h12=>
aZ x0 fun v13=>
aC 15 v13 fun v14=>
aV 1 v14 x2 h12 fun h15=>
Q (AV.i .i64 0) h15
theorem Y36.call {K x0 x1 x2 h} (H:Y36.t (aK h K) x0 x1 x2 h (Y36.J (aK h K))):C Y36.id [x0,(AV.i .i64 x1),x2] h K:=
 gC Y36.J Tryd.func70 Y36.dist H
noncomputable def Y61.body:Code:=(Tryd.f71.body).getD .skip
def Y61.ann:Ann:=(sl [0,1] (sl [0,1] (sq [] (sl [1,11] (.one (sl [1,11,12] (.br (sl [1] (sl [3] lf)) (sl [1,11,19] (.br (sl [3] lf) (sl [1,23] (.br (sl [3] lf) lf)))))))) (sl [3] lf))))
theorem Y61.dist:aH (places Y61.ann Y61.body)=true:=by kernel_rfl
noncomputable def Y61.J (Q:AV→aA→Prop):JT:=bI prog C Tryd.f71 Y61.ann Y61.body Q
def Y61.t (Q:AV→aA→Prop) (x0:Int) (x1:AV) (h:aA) (J:JT):Prop:=
aB x1 h fun v1=>
aZ v1 fun v2=>
aC 6 v2 fun v3=>
aV 1 v3 (AV.b (decide (((bK .and .i64 x0 1):Int)=1))) h fun h4=>
jV .i64 x0 1 fun n6=>
(bif (decide ((n6:Int)=0)) then
(aB x1 h4 fun v9=>
aZ v9 fun v10=>
aC 9 v10 fun v11=>
aV 1 v11 (AV.b true) h4 fun h12=>
aB x1 h12 fun v14=>
C Y67.id [v14] h12 fun v15 h16=>
asI .i64 v15 fun n17=>
Q (AV.i .i64 n17) h16)
else
((bif (decide ((n6:Int)=1)) then
(aB x1 h4 fun v20=>
C Y68.id [v20] h4 fun v21 h22=>
asI .i64 v21 fun n23=>
Q (AV.i .i64 n23) h22)
else
((bif (decide ((n6:Int)=2)) then
(aB x1 h4 fun v26=>
C Y60.id [v26] h4 fun v27 h28=>
asI .i64 v27 fun n29=>
Q (AV.i .i64 n29) h28)
else
(Q (AV.i .i64 2) h4))))))
theorem Y61.call {K x0 x1 h} (H:Y61.t (aK h K) x0 x1 h (Y61.J (aK h K))):C Y61.id [(AV.i .i64 x0),x1] h K:=
 gC Y61.J Tryd.func71 Y61.dist H
noncomputable def Y67.body:Code:=(Tryd.f72.body).getD .skip
def Y67.ann:Ann:=(sl [1] (sl [2] lf))
theorem Y67.dist:aH (places Y67.ann Y67.body)=true:=by kernel_rfl
noncomputable def Y67.J (Q:AV→aA→Prop):JT:=bI prog C Tryd.f72 Y67.ann Y67.body Q
def Y67.t (Q:AV→aA→Prop) (x0:AV) (h:aA) (J:JT):Prop:=
dD none x0 h fun v0 h1=>
aB v0 h1 fun v3=>
C Y36.id [v3,(AV.i .i64 16),(AV.fn (.func Y76.id) [] [v0])] h1 fun v4 h5=>
asI .i64 v4 fun n6=>
Q (AV.i .i64 n6) h5
theorem Y67.call {K x0 h} (H:Y67.t (aK h K) x0 h (Y67.J (aK h K))):C Y67.id [x0] h K:=
 gC Y67.J Tryd.func72 Y67.dist H
noncomputable def Y68.body:Code:=(Tryd.f73.body).getD .skip
def Y68.ann:Ann:=(sl [0] (sl [0,3,4] (sl [2] lf)))
theorem Y68.dist:aH (places Y68.ann Y68.body)=true:=by kernel_rfl
noncomputable def Y68.J (Q:AV→aA→Prop):JT:=bI prog C Tryd.f73 Y68.ann Y68.body Q
def Y68.t (Q:AV→aA→Prop) (x0:AV) (h:aA) (J:JT):Prop:=
C Y12.id [] h fun v1 h2=>
aR 0 v1 fun v3=>
aR 1 v1 fun v4=>
C Y57.id [x0,v3,v4] h2 fun v6 h7=>
asI .i64 v6 fun n8=>
Q (AV.i .i64 n8) h7
theorem Y68.call {K x0 h} (H:Y68.t (aK h K) x0 h (Y68.J (aK h K))):C Y68.id [x0] h K:=
 gC Y68.J Tryd.func73 Y68.dist H
noncomputable def Y60.body:Code:=(Tryd.f74.body).getD .skip
def Y60.ann:Ann:=(sl [1] (sl [2] lf))
theorem Y60.dist:aH (places Y60.ann Y60.body)=true:=by kernel_rfl
noncomputable def Y60.J (Q:AV→aA→Prop):JT:=bI prog C Tryd.f74 Y60.ann Y60.body Q
def Y60.t (Q:AV→aA→Prop) (x0:AV) (h:aA) (J:JT):Prop:=
dD none x0 h fun v0 h1=>
aB v0 h1 fun v3=>
C Y36.id [v3,(AV.i .i64 5),(AV.fn (.func Y66.id) [] [v0])] h1 fun v4 h5=>
asI .i64 v4 fun n6=>
Q (AV.i .i64 n6) h5
theorem Y60.call {K x0 h} (H:Y60.t (aK h K) x0 h (Y60.J (aK h K))):C Y60.id [x0] h K:=
 gC Y60.J Tryd.func74 Y60.dist H
noncomputable def Y20.body:Code:=(Tryd.f75.body).getD .skip
def Y20.ann:Ann:=(sl [0,1,4,5,6] (sq [0,1,4,5,6] (sl [0,1,4,5,6,9] (.br (sl [4,5,6] lf) lf)) (sq [0,4,5,6] (.ord (nn 0 17 (.eff 17 (nn 18 2 (.eff 20 .done .stop)) .stop))) (.seq 2 [0,4,5,6] (sl [0,4,5,6,7] (.seq 1 [0,4,5,6,7,74] (.ord (nn 0 42 .done)) (.br (.ord (nn 0 27 .done)) (sl [0,4,5,105] (.br (sl [4,5,6] lf) lf))))) (sl [4,5,6] (sl [4,5,6] lf))))))
theorem Y20.dist:aH (places Y20.ann Y20.body)=true:=by kernel_rfl
noncomputable def Y20.J (Q:AV→aA→Prop):JT:=bI prog C Tryd.f75 Y20.ann Y20.body Q
def Y20.p0 (Q:AV→aA→Prop) (x0:AV) (x4:Int) (x5:Bool) (x6 x7:Int) (x74:Bool) (h:aA):Prop:=Y20.J Q 1 [(0,x0),(4,(AV.i .i64 x4)),(5,(AV.b x5)),(6,(AV.i .i64 x6)),(7,(AV.i .i64 x7)),(74,(AV.b x74))] h
def Y20.p1 (Q:AV→aA→Prop) (x0:AV) (x4:Int) (x5:Bool) (x6:Int) (h:aA):Prop:=Y20.J Q 2 [(0,x0),(4,(AV.i .i64 x4)),(5,(AV.b x5)),(6,(AV.i .i64 x6))] h
def Y20.t0 (Q:AV→aA→Prop) (x0:AV) (x4:Int) (x5:Bool) (x6 x7:Int) (x74:Bool) (h:aA) (J:JT):Prop:=
(bif x74 then
(aZ x0 fun v63=>
aC 32 v63 fun v64=>
aB v64 h fun v65=>
aZ x0 fun v66=>
aC 33 v66 fun v67=>
bH 16 1 v67 (AV.i .i64 x7) fun v68=>
aB v68 h fun v69=>
asI .i64 v69 fun n70=>
aZ x0 fun v71=>
aC 50 v71 fun v72=>
aB v72 h fun v73=>
asI .i64 v73 fun n74=>
aJ (IntKind.wrap .i64 (n70+n74)) fun n75=>
aZ x0 fun v76=>
aC 0 v76 fun v77=>
aC 16 v77 fun v78=>
bH 16 1 v78 (AV.i .i64 x7) fun v79=>
aB v79 h fun v80=>
asI .i64 v80 fun n81=>
aJ (IntKind.wrap .i64 (n75 - n81)) fun n82=>
aP 1 v65 (AV.i .i64 n82) h fun v83=>
aB v83 h fun v84=>
asI .i64 v84 fun n85=>
J 2 [(0,x0),(4,(AV.i .i64 n85)),(5,(AV.b true)),(6,(AV.i .i64 x6))] h)
else
(aZ x0 fun v87=>
aC 49 v87 fun v88=>
aB v88 h fun v89=>
asI .i64 v89 fun n90=>
(bif (decide ((x7:Int)<n90)) then
(Q (AV.tu [(AV.i .i64 0),(AV.b false),(AV.i .i64 0)]) h)
else
(J 2 [(0,x0),(4,(AV.i .i64 x4)),(5,(AV.b x5)),(6,(AV.i .i64 2))] h))))
theorem Y20.i0 {Q x0 x4 x5 x6 x7 x74 h} (H:Y20.t0 Q x0 x4 x5 x6 x7 x74 h (Y20.J Q)):Y20.p0 Q x0 x4 x5 x6 x7 x74 h:=gR Y20.J Tryd.f75 Y20.dist [1,1,1,0,1,1] H
def Y20.t1 (Q:AV→aA→Prop) (x0:AV) (x4:Int) (x5:Bool) (x6:Int) (h:aA) (J:JT):Prop:=
aZ x0 fun v94=>
aC 50 v94 fun v95=>
aV 1 v95 (AV.i .i64 0) h fun h96=>
aZ x0 fun v97=>
aC 51 v97 fun v98=>
aV 1 v98 (AV.i .i64 0) h96 fun h99=>
Q (AV.tu [(AV.i .i64 x4),(AV.b x5),(AV.i .i64 x6)]) h99
theorem Y20.i1 {Q x0 x4 x5 x6 h} (H:Y20.t1 Q x0 x4 x5 x6 h (Y20.J Q)):Y20.p1 Q x0 x4 x5 x6 h:=gR Y20.J Tryd.f75 Y20.dist [1,1,1,1] H
def Y20.t (Q:AV→aA→Prop) (x0:AV) (x1:Int) (h:aA) (J:JT):Prop:=
eG prog .eql 44 x0 (AV.p none) fun v1=>
asB v1 fun c2=>
(bif c2 then
(Q (AV.tu [(AV.i .i64 0),(AV.b false),(AV.i .i64 6)]) h)
else
(aZ x0 fun v6=>
aC 50 v6 fun v7=>
aB v7 h fun v8=>
asI .i64 v8 fun n9=>
jS .i64 n9 1 fun n10=>
aJ (bK .or .i64 n10 (bK .and .i64 x1 1)) fun n11=>
aZ x0 fun v12=>
aC 51 v12 fun v13=>
aB v13 h fun v14=>
asI .i64 v14 fun n15=>
aJ (IntKind.wrap .i64 (n15+1)) fun n16=>
aZ x0 fun v17=>
aC 50 v17 fun v18=>
aV 1 v18 (AV.i .i64 n11) h fun h19=>
aZ x0 fun v20=>
aC 51 v20 fun v21=>
aV 1 v21 (AV.i .i64 n16) h19 fun h22=>
aZ x0 fun v24=>
aC 51 v24 fun v25=>
aB v25 h22 fun v26=>
asI .i64 v26 fun n27=>
aZ x0 fun v29=>
aC 49 v29 fun v30=>
aB v30 h22 fun v31=>
asI .i64 v31 fun n32=>
(bif (decide ((n27:Int)≤n32)) then
(aZ x0 fun v33=>
aC 50 v33 fun v34=>
aB v34 h22 fun v35=>
asI .i64 v35 fun n36=>
aZ x0 fun v37=>
aC 0 v37 fun v38=>
aC 16 v38 fun v39=>
bH 16 1 v39 (AV.i .i64 n27) fun v40=>
aB v40 h22 fun v41=>
asI .i64 v41 fun n42=>
aJ (IntKind.wrap .i64 (n36 - n42)) fun n43=>
aZ x0 fun v44=>
aC 0 v44 fun v45=>
aC 0 v45 fun v46=>
bH 16 1 v46 (AV.i .i64 n27) fun v47=>
aB v47 h22 fun v48=>
asI .i64 v48 fun n49=>
(bif (decide ((n43:Int)<n49)) then
(aZ x0 fun v50=>
aC 50 v50 fun v51=>
aB v51 h22 fun v52=>
asI .i64 v52 fun n53=>
aZ x0 fun v54=>
aC 0 v54 fun v55=>
aC 16 v55 fun v56=>
bH 16 1 v56 (AV.i .i64 n27) fun v57=>
aB v57 h22 fun v58=>
asI .i64 v58 fun n59=>
J 1 [(0,x0),(4,(AV.i .i64 0)),(5,(AV.b false)),(6,(AV.i .i64 0)),(7,(AV.i .i64 n27)),(74,(AV.b (decide ((n59:Int)≤n53))))] h22)
else
(J 1 [(0,x0),(4,(AV.i .i64 0)),(5,(AV.b false)),(6,(AV.i .i64 0)),(7,(AV.i .i64 n27)),(74,(AV.b false))] h22)))
else
(J 1 [(0,x0),(4,(AV.i .i64 0)),(5,(AV.b false)),(6,(AV.i .i64 0)),(7,(AV.i .i64 n27)),(74,(AV.b false))] h22))))
theorem Y20.call {K x0 x1 h} (H:Y20.t (aK h K) x0 x1 h (Y20.J (aK h K))):C Y20.id [x0,(AV.i .i64 x1)] h K:=
 gC Y20.J Tryd.func75 Y20.dist H
end Go.Proofs.YtpaphfeihpgamaaDoor
