/- Lemmas (several texts in one). -/
import Derived.Test.YtfoekpcljhbijaaGreatDoorProg
import Derived.KernelRfl
import Derived.Test.YtfoekpcljhbijaaGreatDoorMg1
set_option linter.unusedVariables false
set_option linter.unusedSectionVars false
set_option maxRecDepth 100000
namespace Go.Proofs.YtfoekpcljhbijaaGreatDoor
open Go.GAM
noncomputable abbrev prog:Program:=Tryz.prog
class XR where
 X:aO
abbrev X [XR]:aO:=XR.X
abbrev C [XR]:aO:=eC prog X
abbrev lf:Ann:=.leaf
def nn:Nat→Nat→Go.GAM.Ord→Go.GAM.Ord
 | _,0,o=>o
 | i,k+1,o=>.neu i (nn (i+1) k o)
abbrev bl:Ann:=.br .leaf .leaf
abbrev sl (l:List Nat) (x:Ann):Ann:=.seq 0 l .leaf x
abbrev sq (l:List Nat) (x y:Ann):Ann:=.seq 0 l x y
theorem gR [XR] {ann:Ann} {body:Code} (J:(AV→aA→Prop)→JT) (fn:Func) (hd:aJ (places ann body)=true) {Q:AV→aA→Prop} {k:Nat} (p:List Nat) {e:Env} {h:aA} {a:JT→Prop} (H:a (J Q)) (hJ:J=bQ prog C fn ann body:=by exact rfl) (hl:tU (places ann body) k=some (p,false):=by kernel_rfl) (he:∀ j,a j=atJ prog C fn.ntmps j false p ann body e h (xL prog fn Q):=by intro j; kernel_rfl):J Q k e h:=by
 subst hJ
 exact aMB (nT X) hd hl (he _ ▸ H)
theorem gH [XR] {ann:Ann} {body:Code} (J:(AV→aA→Prop)→JT) (fn:Func) (hd:aJ (places ann body)=true) {Q:AV→aA→Prop} {k:Nat} (p:List Nat) {e:Env} {h:aA} {a:JT→Prop} (H:a (J Q)) (hJ:J=bQ prog C fn ann body:=by exact rfl) (hl:tU (places ann body) k=some (p,true):=by kernel_rfl) (he:∀ j,a j=atJ prog C fn.ntmps j true p ann body e h (xL prog fn Q):=by intro j; kernel_rfl):J Q k e h:=by
 subst hJ
 exact aKV (nT X) hd hl (he _ ▸ H)
theorem gC [XR] {f:FuncId} {fn:Func} {ann:Ann} {body:Code} (J:(AV→aA→Prop)→JT) (hf:prog.funcs[f]? = some fn) (hd:aJ (places ann body)=true) {args:List AV} {h:aA} {K:AV→aA→Prop} {a:JT→Prop} (H:a (J (aH h K))) (hJ:J=bQ prog C fn ann body:=by exact rfl) (hb:fn.body=some body:=by kernel_rfl) (hn:(fn.name == "runtime.NumGoroutine")=false:=by kernel_rfl) (ha:Nat.ble args.length fn.ntmps=true:=by kernel_rfl) (he:∀ j,a j=exJ prog C fn.ntmps j ann body (eE 0 args) h (xL prog fn (aH h K)):=by intro j; kernel_rfl):C f args h K:=by
 subst hJ
 exact aPO hf hb hn hd ha (he _ ▸ H)
abbrev Y1.id:FuncId:=6
abbrev Y66.id:FuncId:=9
abbrev Y38.id:FuncId:=10
abbrev Y101.id:FuncId:=11
abbrev Y4.id:FuncId:=12
abbrev Y78.id:FuncId:=13
abbrev Y18.id:FuncId:=14
abbrev Y104.id:FuncId:=15
abbrev Y115.id:FuncId:=16
abbrev Y89.id:FuncId:=17
abbrev Y125.id:FuncId:=18
abbrev Y140.id:FuncId:=19
abbrev Y131.id:FuncId:=20
abbrev Y139.id:FuncId:=21
abbrev Y153.id:FuncId:=22
abbrev Y55.id:FuncId:=23
abbrev Y2.id:FuncId:=24
abbrev Y53.id:FuncId:=25
abbrev Y10.id:FuncId:=26
abbrev Y39.id:FuncId:=27
abbrev Y21.id:FuncId:=28
abbrev Y33.id:FuncId:=29
abbrev Y137.id:FuncId:=30
abbrev Y81.id:FuncId:=31
abbrev Y134.id:FuncId:=32
abbrev Y70.id:FuncId:=33
abbrev Y103.id:FuncId:=34
abbrev Y149.id:FuncId:=35
abbrev Y36.id:FuncId:=36
abbrev Y0.id:FuncId:=37
abbrev Y17.id:FuncId:=38
abbrev Y42.id:FuncId:=39
abbrev Y25.id:FuncId:=40
abbrev Y56.id:FuncId:=41
abbrev Y50.id:FuncId:=42
abbrev Y15.id:FuncId:=43
abbrev Y77.id:FuncId:=44
abbrev Y94.id:FuncId:=45
abbrev Y128.id:FuncId:=46
abbrev Y113.id:FuncId:=47
abbrev Y143.id:FuncId:=48
abbrev Y109.id:FuncId:=49
abbrev Y116.id:FuncId:=50
abbrev Y121.id:FuncId:=51
abbrev Y144.id:FuncId:=52
abbrev Y100.id:FuncId:=53
abbrev Y9.id:FuncId:=54
abbrev Y93.id:FuncId:=55
abbrev Y112.id:FuncId:=56
abbrev Y147.id:FuncId:=57
abbrev Y135.id:FuncId:=58
abbrev Y86.id:FuncId:=59
abbrev Y73.id:FuncId:=60
abbrev Y107.id:FuncId:=61
abbrev Y95.id:FuncId:=62
abbrev Y154.id:FuncId:=63
abbrev Y106.id:FuncId:=64
abbrev Y151.id:FuncId:=65
abbrev Y19.id:FuncId:=66
abbrev Y35.id:FuncId:=67
abbrev Y29.id:FuncId:=68
abbrev Y3.id:FuncId:=69
abbrev Y7.id:FuncId:=70
abbrev Y14.id:FuncId:=71
abbrev Y65.id:FuncId:=72
abbrev Y24.id:FuncId:=73
abbrev Y16.id:FuncId:=74
abbrev Y20.id:FuncId:=75
abbrev Y75.id:FuncId:=76
abbrev Y76.id:FuncId:=77
abbrev Y150.id:FuncId:=78
abbrev Y90.id:FuncId:=79
abbrev Y87.id:FuncId:=80
abbrev Y97.id:FuncId:=81
abbrev Y119.id:FuncId:=82
abbrev Y13.id:FuncId:=83
abbrev Y44.id:FuncId:=84
abbrev Y58.id:FuncId:=85
abbrev Y98.id:FuncId:=86
abbrev Y123.id:FuncId:=87
abbrev Y114.id:FuncId:=88
abbrev Y120.id:FuncId:=89
abbrev Y141.id:FuncId:=90
abbrev Y5.id:FuncId:=91
abbrev Y8.id:FuncId:=92
abbrev Y26.id:FuncId:=93
abbrev Y52.id:FuncId:=94
abbrev Y41.id:FuncId:=95
abbrev Y60.id:FuncId:=96
abbrev Y43.id:FuncId:=97
abbrev Y11.id:FuncId:=98
abbrev Y102.id:FuncId:=99
abbrev Y142.id:FuncId:=100
abbrev Y88.id:FuncId:=101
abbrev Y117.id:FuncId:=102
abbrev Y99.id:FuncId:=103
abbrev Y132.id:FuncId:=104
abbrev Y83.id:FuncId:=105
abbrev Y122.id:FuncId:=106
abbrev Y105.id:FuncId:=107
abbrev Y92.id:FuncId:=108
abbrev Y145.id:FuncId:=109
abbrev Y146.id:FuncId:=110
abbrev Y136.id:FuncId:=111
abbrev Y126.id:FuncId:=112
abbrev Y118.id:FuncId:=113
abbrev Y85.id:FuncId:=114
abbrev Y108.id:FuncId:=115
abbrev Y127.id:FuncId:=117
abbrev Y69.id:FuncId:=118
abbrev Y138.id:FuncId:=119
abbrev Y129.id:FuncId:=120
abbrev Y82.id:FuncId:=121
abbrev Y59.id:FuncId:=122
abbrev Y110.id:FuncId:=123
abbrev Y133.id:FuncId:=124
abbrev Y72.id:FuncId:=125
abbrev Y61.id:FuncId:=126
abbrev Y47.id:FuncId:=127
abbrev Y31.id:FuncId:=128
abbrev Y34.id:FuncId:=129
abbrev Y48.id:FuncId:=130
abbrev Y62.id:FuncId:=131
abbrev Y63.id:FuncId:=132
abbrev Y37.id:FuncId:=133
abbrev Y71.id:FuncId:=134
abbrev Y148.id:FuncId:=135
abbrev Y130.id:FuncId:=136
abbrev Y80.id:FuncId:=137
abbrev Y111.id:FuncId:=138
abbrev Y124.id:FuncId:=139
abbrev Y67.id:FuncId:=140
abbrev Y84.id:FuncId:=141
abbrev Y155.id:FuncId:=142
abbrev Y152.id:FuncId:=143
abbrev Y64.id:FuncId:=144
abbrev Y96.id:FuncId:=145
abbrev Y40.id:FuncId:=146
abbrev Y12.id:FuncId:=147
abbrev Y6.id:FuncId:=148
abbrev Y27.id:FuncId:=149
abbrev Y30.id:FuncId:=150
abbrev Y46.id:FuncId:=151
abbrev Y91.id:FuncId:=152
abbrev Y79.id:FuncId:=153
abbrev Y74.id:FuncId:=154
abbrev Y68.id:FuncId:=155
abbrev Y28.id:FuncId:=156
abbrev Y54.id:FuncId:=157
abbrev Y57.id:FuncId:=158
abbrev Y51.id:FuncId:=159
abbrev Y45.id:FuncId:=160
abbrev Y22.id:FuncId:=161
abbrev Y32.id:FuncId:=162
abbrev Y49.id:FuncId:=163
abbrev Y23.id:FuncId:=164
variable [XR]
noncomputable def Y38.body:Code:=(Tryz.f10.body).getD .skip
def Y38.ann:Ann:=(sl [1] (sl [1] (sl [2] lf)))
theorem Y38.dist:aJ (places Y38.ann Y38.body)=true:=by kernel_rfl
noncomputable def Y38.J (Q:AV→aA→Prop):JT:=bQ prog C Tryz.f10 Y38.ann Y38.body Q
def Y38.t (Q:AV→aA→Prop) (x0:AV) (h:aA) (J:JT):Prop:=
d7 (some 23) x0 h fun v0 h1=>
aB 0 v0 fun v3=>
aC v3 h1 fun v4=>
asI .i64 v4 fun n5=>
aT (mmI false (mmI true n5 0) 65536) fun n6=>
aB 1 v0 fun v7=>
aC v7 h1 fun v8=>
asI .i64 v8 fun n9=>
aT (mmI false (mmI true n9 1) 1100) fun n10=>
aB 0 v0 fun v11=>
aR 1 v11 (AV.i .i64 n6) h1 fun h12=>
aB 1 v0 fun v13=>
aR 1 v13 (AV.i .i64 n10) h12 fun h14=>
dF 2 v0 h14 fun v16=>
gS [(AV.i .i64 0),(AV.i .i64 0),(AV.i .i64 0),(AV.i .i64 0),(AV.i .u32 0),(AV.i .i64 0),(AV.sl none 0 none),(AV.i .i64 0),(AV.i .i64 0),(AV.p none),(AV.i .u32 0),(AV.i .i64 0),(AV.s []),(AV.b false),(AV.b false),(AV.sl none 0 none),(AV.sl none 0 none)] [(7,2,v16)] fun v17=>
d7 (some 58) v17 h14 fun v18 h19=>
Q v18 h19
theorem Y38.call {K x0 h} (H:Y38.t (aH h K) x0 h (Y38.J (aH h K))):C Y38.id [x0] h K:=
 gC Y38.J Tryz.func10 Y38.dist H
noncomputable def Y4.body:Code:=(Tryz.f12.body).getD .skip
def Y4.ann:Ann:=(sl [0,1] (sq [0,1] (.one (sl [0,1,9] (.br (sl [4,5] lf) (sl [0,1,12] (.br (sl [4,5] lf) lf))))) (sl [0,1,6] (sq [6] (.one (.loop 1 [0,1,6] (sq [0,1,6] (sl [0,1,6,18] bl) (.one (sl [0,1,6] (sl [0,1,6] (.seq 3 [0,1,6,8] (.one (sl [0,1,6,25] (.br lf (sl [0,1,6,35] (.br (sq [0,1,6,8] (.ord (nn 0 5 (.eff 5 (.neu 6 .done) .stop))) (sl [0,1,6,8] (.seq 2 [0,1,6,8,59] lf bl))) (sl [0,1,6,62] (.br (sl [0,1,6,7,8] lf) (sl [0,1,6,8] lf)))))))) (sl [0,1,6,8,78] (.br (sl [6,8] (sl [4,5] lf)) lf))))))))) (sl [4,5] lf)))))
theorem Y4.dist:aJ (places Y4.ann Y4.body)=true:=by kernel_rfl
noncomputable def Y4.J (Q:AV→aA→Prop):JT:=bQ prog C Tryz.f12 Y4.ann Y4.body Q
def Y4.p1 (Q:AV→aA→Prop) (x0:AV) (x1:List UInt8) (x6:AV) (x8:Int) (x59:Bool) (h:aA):Prop:=Y4.J Q 2 [(0,x0),(1,(AV.s x1)),(6,x6),(8,(AV.i .i64 x8)),(59,(AV.b x59))] h
def Y4.p2 (Q:AV→aA→Prop) (x0:AV) (x1:List UInt8) (x6:AV) (x8:Int) (h:aA):Prop:=Y4.J Q 3 [(0,x0),(1,(AV.s x1)),(6,x6),(8,(AV.i .i64 x8))] h
def Y4.p0 (Q:AV→aA→Prop) (x0:AV) (x1:List UInt8) (x6:AV) (h:aA):Prop:=Y4.J Q 1 [(0,x0),(1,(AV.s x1)),(6,x6)] h
def Y4.t1 (Q:AV→aA→Prop) (x0:AV) (x1:List UInt8) (x6:AV) (x8:Int) (x59:Bool) (h:aA) (J:JT):Prop:=
(bif x59 then
(C Y53.id [x0] h fun v52 h53=>
J 3 [(0,x0),(1,(AV.s x1)),(6,x6),(8,(AV.i .i64 x8))] h53)
else
(J 3 [(0,x0),(1,(AV.s x1)),(6,x6),(8,(AV.i .i64 x8))] h))
theorem Y4.i1 {Q x0 x1 x6 x8 x59 h} (H:Y4.t1 Q x0 x1 x6 x8 x59 h (Y4.J Q)):Y4.p1 Q x0 x1 x6 x8 x59 h:=gR Y4.J Tryz.f12 Y4.dist [1,1,1,0,0,0,1,0,1,1,0,0,1,1,1,0,1,1,1] H
def Y4.t2 (Q:AV→aA→Prop) (x0:AV) (x1:List UInt8) (x6:AV) (x8:Int) (h:aA) (J:JT):Prop:=
(bif (!decide ((x8:Int)=0)) then
(aP x0 fun v82=>
aB 14 v82 fun v83=>
aR 1 v83 (AV.b true) h fun h84=>
C Y33.id [x6] h84 fun v86 h87=>
asS v86 fun l88=>
Q (AV.tu [(AV.s l88),(AV.i .i64 x8)]) h87)
else
(J 1 [(0,x0),(1,(AV.s x1)),(6,x6)] h))
theorem Y4.i2 {Q x0 x1 x6 x8 h} (H:Y4.t2 Q x0 x1 x6 x8 h (Y4.J Q)):Y4.p2 Q x0 x1 x6 x8 h:=gR Y4.J Tryz.f12 Y4.dist [1,1,1,0,0,0,1,0,1,1,1] H
def Y4.t0 (Q:AV→aA→Prop) (x0:AV) (x1:List UInt8) (x6:AV) (h:aA) (J:JT):Prop:=
(bif (!(decide ((x1:List UInt8)=[]))) then
(aP x0 fun v20=>
aB 13 v20 fun v21=>
aC v21 h fun v22=>
asB v22 fun c23=>
(bif (!c23) then
(dO (AV.s x1) (AV.i .i64 0) fun n25=>
C Y55.id [x0,(AV.i .u8 n25)] h fun v26 h27=>
asI .i64 v26 fun n28=>
J 3 [(0,x0),(1,(AV.s x1)),(6,x6),(8,(AV.i .i64 n28))] h27)
else
(aP x0 fun v30=>
aB 0 v30 fun v31=>
aB 0 v31 fun v32=>
aC v32 h fun v33=>
asI .i64 v33 fun n34=>
(bif (decide ((n34:Int)<8)) then
(aP x0 fun v36=>
aB 0 v36 fun v37=>
dO (AV.s x1) (AV.i .i64 0) fun n38=>
C Y2.id [v37,(AV.i .u8 n38)] h fun v39 h40=>
asI .i64 v39 fun n41=>
cA (AV.s x1) (some (AV.i .i64 1)) none fun l43=>
(bif (decide ((n41:Int)=0)) then
(aP x0 fun v45=>
aB 0 v45 fun v46=>
aB 0 v46 fun v47=>
aC v47 h40 fun v48=>
asI .i64 v48 fun n49=>
J 2 [(0,x0),(1,(AV.s l43)),(6,x6),(8,(AV.i .i64 n41)),(59,(AV.b (decide ((n49:Int)=8))))] h40)
else
(J 2 [(0,x0),(1,(AV.s l43)),(6,x6),(8,(AV.i .i64 n41)),(59,(AV.b false))] h40)))
else
(aP x0 fun v56=>
aB 9 v56 fun v57=>
aC v57 h fun v58=>
cD prog .neq 55 v58 (AV.p none) fun v59=>
asB v59 fun c60=>
(bif c60 then
(C Y10.id [x0,(AV.s x1)] h fun v62 h63=>
bC 0 v62 fun v64=>
asS v64 fun l65=>
bC 1 v62 fun v66=>
asS v66 fun l67=>
bC 2 v62 fun v68=>
asI .i64 v68 fun n69=>
C Y39.id [x6,(AV.s l65)] h63 fun v71 h72=>
J 3 [(0,x0),(1,(AV.s l67)),(6,x6),(8,(AV.i .i64 n69))] h72)
else
(dO (AV.s x1) (AV.i .i64 0) fun n74=>
C Y21.id [x0,(AV.i .u8 n74)] h fun v75 h76=>
asI .i64 v75 fun n77=>
cA (AV.s x1) (some (AV.i .i64 1)) none fun l79=>
J 3 [(0,x0),(1,(AV.s l79)),(6,x6),(8,(AV.i .i64 n77))] h76)))))))
else
(C Y33.id [x6] h fun v91 h92=>
asS v91 fun l93=>
Q (AV.tu [(AV.s l93),(AV.i .i64 0)]) h92))
theorem Y4.i0 {Q x0 x1 x6 h} (H:Y4.t0 Q x0 x1 x6 h (Y4.J Q)):Y4.p0 Q x0 x1 x6 h:=gH Y4.J Tryz.f12 Y4.dist [1,1,1,0,0] H
def Y4.t (Q:AV→aA→Prop) (x0:AV) (x1:List UInt8) (h:aA) (J:JT):Prop:=
cD prog .eql 26 x0 (AV.p none) fun v1=>
asB v1 fun c2=>
(bif c2 then
(Q (AV.tu [(AV.s []),(AV.i .i64 6)]) h)
else
(aP x0 fun v5=>
aB 14 v5 fun v6=>
aC v6 h fun v7=>
asB v7 fun c8=>
(bif c8 then
(Q (AV.tu [(AV.s []),(AV.i .i64 10)]) h)
else
(dV (some 67) [(AV.p none),(AV.sl none 0 none)] h fun v12 h13=>
J 1 [(0,x0),(1,(AV.s x1)),(6,v12)] h13))))
theorem Y4.call {K x0 x1 h} (H:Y4.t (aH h K) x0 x1 h (Y4.J (aH h K))):C Y4.id [x0,(AV.s x1)] h K:=
 gC Y4.J Tryz.func12 Y4.dist H
noncomputable def Y18.body:Code:=(Tryz.f14.body).getD .skip
def Y18.ann:Ann:=(sl [0] (sq [] (.one (sl [0,3] (.br (sl [2] lf) (sl [0,6] (.br (sl [2] lf) (.seq 1 [11] lf (.br (sl [2] lf) lf))))))) (sl [2] lf)))
theorem Y18.dist:aJ (places Y18.ann Y18.body)=true:=by kernel_rfl
noncomputable def Y18.J (Q:AV→aA→Prop):JT:=bQ prog C Tryz.f14 Y18.ann Y18.body Q
def Y18.p0 (Q:AV→aA→Prop) (x11:Bool) (h:aA):Prop:=Y18.J Q 1 [(11,(AV.b x11))] h
def Y18.t0 (Q:AV→aA→Prop) (x11:Bool) (h:aA) (J:JT):Prop:=
(bif x11 then
(Q (AV.i .i64 1) h)
else
(Q (AV.i .i64 0) h))
theorem Y18.i0 {Q x11 h} (H:Y18.t0 Q x11 h (Y18.J Q)):Y18.p0 Q x11 h:=gR Y18.J Tryz.f14 Y18.dist [1,0,0,1,1,1,1,1] H
def Y18.t (Q:AV→aA→Prop) (x0:AV) (h:aA) (J:JT):Prop:=
cD prog .eql 26 x0 (AV.p none) fun v1=>
asB v1 fun c2=>
(bif c2 then
(Q (AV.i .i64 6) h)
else
(aP x0 fun v5=>
aB 14 v5 fun v6=>
aC v6 h fun v7=>
asB v7 fun c8=>
(bif c8 then
(Q (AV.i .i64 10) h)
else
(aP x0 fun v11=>
aB 13 v11 fun v12=>
aC v12 h fun v13=>
asB v13 fun c14=>
(bif c14 then
(J 1 [(11,(AV.b true))] h)
else
(aP x0 fun v16=>
aB 15 v16 fun v17=>
aC v17 h fun v18=>
b6 v18 fun n19=>
J 1 [(11,(AV.b (decide ((n19:Int)=0))))] h))))))
theorem Y18.call {K x0 h} (H:Y18.t (aH h K) x0 h (Y18.J (aH h K))):C Y18.id [x0] h K:=
 gC Y18.J Tryz.func14 Y18.dist H
noncomputable def Y55.body:Code:=(Tryz.f23.body).getD .skip
def Y55.ann:Ann:=(sl [0,1] (sq [0] (.one (sl [0,5] (.br (sl [4] lf) (sl [0,9] (.br (sl [4] lf) lf))))) (sl [] (sl [4] lf))))
theorem Y55.dist:aJ (places Y55.ann Y55.body)=true:=by kernel_rfl
noncomputable def Y55.J (Q:AV→aA→Prop):JT:=bQ prog C Tryz.f23 Y55.ann Y55.body Q
def Y55.t (Q:AV→aA→Prop) (x0:AV) (x1:Int) (h:aA) (J:JT):Prop:=
dO (AV.s [31,139,8]) (AV.i .i64 0) fun n1=>
(bif (!decide ((x1:Int)=n1)) then
(Q (AV.i .i64 2) h)
else
(aP x0 fun v4=>
aB 15 v4 fun v5=>
aC v5 h fun v6=>
b6 v6 fun n7=>
(bif (decide ((n7:Int)=16)) then
(Q (AV.i .i64 3) h)
else
(aP x0 fun v11=>
aB 0 v11 fun v12=>
aR 7 v12 (AV.ag [(AV.i .i64 0),(AV.i .i64 0),(AV.i .i64 0),(AV.i .i64 0),(AV.i .u32 0),(AV.i .i64 0),(AV.sl none 0 none)]) h fun h13=>
aP x0 fun v14=>
aB 13 v14 fun v15=>
aR 1 v15 (AV.b true) h13 fun h16=>
Q (AV.i .i64 0) h16))))
theorem Y55.call {K x0 x1 h} (H:Y55.t (aH h K) x0 x1 h (Y55.J (aH h K))):C Y55.id [x0,(AV.i .u8 x1)] h K:=
 gC Y55.J Tryz.func23 Y55.dist H
noncomputable def Y2.body:Code:=(Tryz.f24.body).getD .skip
def Y2.ann:Ann:=(sl [0,1] (sl [0,1,5] (sq [0,1,5] (.ord (nn 0 6 (.eff 6 (.neu 7 (.eff 8 (nn 9 2 (.eff 11 .done .stop)) .stop)) .stop))) (sl [0,1,5] (sl [0,1,5,6] (.seq 4 [0,6] (sl [0,1,5,6,32] (.one (sl [0,1,5,6,32,33] (.br (sq [0] (sl [0,42] (.br (sl [4] lf) lf)) lf) (sl [0,1,5,6,32,48] (.br (sq [0,1] (sl [0,1,52] (.br (sl [4] lf) lf)) lf) (sl [0,1,5,6,32,58] (.br lf (sl [0,1,5,6,32,65] (.br (sq [0] (.ord (nn 0 16 (.eff 16 .done .stop))) lf) (sl [0,1,5,6,32,88] (.br (.ord (nn 0 10 .done)) (sl [0,1,5,6,32,99] (.br (sl [0,1,6] (sq [0,1,6] (.seq 1 [0,1,6,111] lf (.br (sl [4] lf) lf)) (sl [0,1,6,113] bl))) (sl [0,1,5,6,32,124] (.br lf (sl [0,1,5,6,128] (.br (.seq 2 [0,1] (sl [0,1,5,134] bl) (sq [0] (.ord (nn 0 16 (.eff 16 .done .stop))) (sl [0,6] (.seq 3 [0,6,169] lf (.br (sl [4] lf) lf))))) lf)))))))))))))))))) (.seq 5 [] (sl [0,170] bl) (sl [4] lf))))))))
theorem Y2.dist:aJ (places Y2.ann Y2.body)=true:=by kernel_rfl
noncomputable def Y2.J (Q:AV→aA→Prop):JT:=bQ prog C Tryz.f24 Y2.ann Y2.body Q
def Y2.p0 (Q:AV→aA→Prop) (x0:AV) (x1:Int) (x6 x111:Bool) (h:aA):Prop:=Y2.J Q 1 [(0,x0),(1,(AV.i .u8 x1)),(6,(AV.b x6)),(111,(AV.b x111))] h
def Y2.p2 (Q:AV→aA→Prop) (x0:AV) (x6 x169:Bool) (h:aA):Prop:=Y2.J Q 3 [(0,x0),(6,(AV.b x6)),(169,(AV.b x169))] h
def Y2.p1 (Q:AV→aA→Prop) (x0:AV) (x1:Int) (h:aA):Prop:=Y2.J Q 2 [(0,x0),(1,(AV.i .u8 x1))] h
def Y2.p4 (Q:AV→aA→Prop) (h:aA):Prop:=Y2.J Q 5 [] h
def Y2.p3 (Q:AV→aA→Prop) (x0:AV) (x6:Bool) (h:aA):Prop:=Y2.J Q 4 [(0,x0),(6,(AV.b x6))] h
def Y2.t0 (Q:AV→aA→Prop) (x0:AV) (x1:Int) (x6 x111:Bool) (h:aA) (J:JT):Prop:=
(bif x111 then
(Q (AV.i .i64 3) h)
else
((bif (!x6) then
(aP x0 fun v109=>
aB 6 v109 fun v110=>
aC v110 h fun v111=>
bR 1 1 [(AV.i .u8 0)] [(0,1,(AV.i .u8 x1))] h fun v112 h113=>
b5 (some 5) 1 1 v111 v112 h113 fun v114 h115=>
aP x0 fun v116=>
aB 6 v116 fun v117=>
aR 1 v117 v114 h115 fun h118=>
J 4 [(0,x0),(6,(AV.b x6))] h118)
else
(J 4 [(0,x0),(6,(AV.b x6))] h))))
theorem Y2.i0 {Q x0 x1 x6 x111 h} (H:Y2.t0 Q x0 x1 x6 x111 h (Y2.J Q)):Y2.p0 Q x0 x1 x6 x111 h:=gR Y2.J Tryz.f24 Y2.dist [1,1,1,1,1,0,1,0,1,1,1,1,1,1,1,1,1,1,1,0,1,0,1] H
def Y2.t2 (Q:AV→aA→Prop) (x0:AV) (x6 x169:Bool) (h:aA) (J:JT):Prop:=
(bif x169 then
(Q (AV.i .i64 8) h)
else
(J 4 [(0,x0),(6,(AV.b x6))] h))
theorem Y2.i2 {Q x0 x6 x169 h} (H:Y2.t2 Q x0 x6 x169 h (Y2.J Q)):Y2.p2 Q x0 x6 x169 h:=gR Y2.J Tryz.f24 Y2.dist [1,1,1,1,1,0,1,0,1,1,1,1,1,1,1,1,1,1,1,1,1,1,1,0,1,1,1,1] H
def Y2.t1 (Q:AV→aA→Prop) (x0:AV) (x1:Int) (h:aA) (J:JT):Prop:=
aP x0 fun v135=>
aB 5 v135 fun v136=>
aC v136 h fun v137=>
asI .i64 v137 fun n138=>
aP x0 fun v139=>
aB 1 v139 fun v140=>
aC v140 h fun v141=>
asI .i64 v141 fun n142=>
aT (IntKind.wrap .i64 (n142 - 1)) fun n143=>
aT (IntKind.wrap .i64 (8 * n143)) fun n144=>
pQ .i64 (IntKind.wrap .i64 x1) n144 fun n145=>
aT (aX .xor .i64 n138 n145) fun n146=>
aP x0 fun v147=>
aB 5 v147 fun v148=>
aR 1 v148 (AV.i .i64 n146) h fun h149=>
aP x0 fun v151=>
aB 1 v151 fun v152=>
aC v152 h149 fun v153=>
asI .i64 v153 fun n154=>
(bif (decide ((n154:Int)=2)) then
(aP x0 fun v156=>
aB 5 v156 fun v157=>
aC v157 h149 fun v158=>
asI .i64 v158 fun n159=>
J 3 [(0,x0),(6,(AV.b (decide ((n154:Int)=2)))),(169,(AV.b (!decide ((n159:Int)=0))))] h149)
else
(J 3 [(0,x0),(6,(AV.b (decide ((n154:Int)=2)))),(169,(AV.b false))] h149))
theorem Y2.i1 {Q x0 x1 h} (H:Y2.t1 Q x0 x1 h (Y2.J Q)):Y2.p1 Q x0 x1 h:=gR Y2.J Tryz.f24 Y2.dist [1,1,1,1,1,0,1,0,1,1,1,1,1,1,1,1,1,1,1,1,1,1,1,0,1] H
def Y2.t4 (Q:AV→aA→Prop) (h:aA) (J:JT):Prop:=
Q (AV.i .i64 0) h
theorem Y2.i4 {Q h} (H:Y2.t4 Q h (Y2.J Q)):Y2.p4 Q h:=gR Y2.J Tryz.f24 Y2.dist [1,1,1,1,1,1,1] H
def Y2.t3 (Q:AV→aA→Prop) (x0:AV) (x6:Bool) (h:aA) (J:JT):Prop:=
(bif x6 then
(C Y42.id [x0] h fun v166 h167=>
J 5 [] h167)
else
(J 5 [] h))
theorem Y2.i3 {Q x0 x6 h} (H:Y2.t3 Q x0 x6 h (Y2.J Q)):Y2.p3 Q x0 x6 h:=gR Y2.J Tryz.f24 Y2.dist [1,1,1,1,1,1] H
def Y2.t (Q:AV→aA→Prop) (x0:AV) (x1:Int) (h:aA) (J:JT):Prop:=
aP x0 fun v1=>
aB 4 v1 fun v2=>
aC v2 h fun v3=>
asI .u32 v3 fun n4=>
aP x0 fun v6=>
aB 4 v6 fun v7=>
aC v7 h fun v8=>
asI .u32 v8 fun n9=>
bR 1 1 [(AV.i .u8 0)] [(0,1,(AV.i .u8 x1))] h fun v10 h11=>
aC v7 h11 fun v12=>
asI .u32 v12 fun n13=>
((AV.i .u32 n9)=(AV.i .u32 n13) ∧
(cR v10 h11 fun l14=>
C Y17.id [(AV.i .u32 n9),(AV.s l14)] h11 fun v15 h16=>
asI .u32 v15 fun n17=>
aP x0 fun v18=>
aB 4 v18 fun v19=>
aR 1 v19 (AV.i .u32 n17) h16 fun h20=>
aP x0 fun v22=>
aB 1 v22 fun v23=>
aC v23 h20 fun v24=>
asI .i64 v24 fun n25=>
aT (IntKind.wrap .i64 (n25+1)) fun n26=>
aP x0 fun v27=>
aB 1 v27 fun v28=>
aR 1 v28 (AV.i .i64 n26) h20 fun h29=>
aP x0 fun v32=>
aB 0 v32 fun v33=>
aC v33 h29 fun v34=>
asI .i64 v34 fun n35=>
(bif (decide ((n35:Int)=0)) then
(aP x0 fun v38=>
aB 1 v38 fun v39=>
aC v39 h29 fun v40=>
asI .i64 v40 fun n41=>
aT (IntKind.wrap .i64 (n41 - 1)) fun n42=>
dO (AV.s [31,139,8]) (AV.i .i64 n42) fun n43=>
(bif (!decide ((x1:Int)=n43)) then
(Q (AV.i .i64 2) h29)
else
(aP x0 fun v47=>
aB 1 v47 fun v48=>
aC v48 h29 fun v49=>
asI .i64 v49 fun n50=>
J 4 [(0,x0),(6,(AV.b (decide ((n50:Int)=3))))] h29)))
else
((bif (decide ((n35:Int)=1)) then
((bif (decide ((31:Int)<(IntKind.wrap .i64 x1))) then
(Q (AV.i .i64 2) h29)
else
(aP x0 fun v56=>
aB 2 v56 fun v57=>
aR 1 v57 (AV.i .i64 (IntKind.wrap .i64 x1)) h29 fun h58=>
J 4 [(0,x0),(6,(AV.b true))] h58)))
else
((bif (decide ((n35:Int)=2)) then
(aP x0 fun v61=>
aB 1 v61 fun v62=>
aC v62 h29 fun v63=>
asI .i64 v63 fun n64=>
J 4 [(0,x0),(6,(AV.b (decide ((n64:Int)=6))))] h29)
else
((bif (decide ((n35:Int)=3)) then
(aP x0 fun v67=>
aB 3 v67 fun v68=>
aC v68 h29 fun v69=>
asI .i64 v69 fun n70=>
aP x0 fun v71=>
aB 1 v71 fun v72=>
aC v72 h29 fun v73=>
asI .i64 v73 fun n74=>
aT (IntKind.wrap .i64 (n74 - 1)) fun n75=>
aT (IntKind.wrap .i64 (8 * n75)) fun n76=>
pQ .i64 (IntKind.wrap .i64 x1) n76 fun n77=>
aT (aX .or .i64 n70 n77) fun n78=>
aP x0 fun v79=>
aB 3 v79 fun v80=>
aR 1 v80 (AV.i .i64 n78) h29 fun h81=>
aP x0 fun v83=>
aB 1 v83 fun v84=>
aC v84 h81 fun v85=>
asI .i64 v85 fun n86=>
J 4 [(0,x0),(6,(AV.b (decide ((n86:Int)=2))))] h81)
else
((bif (decide ((n35:Int)=4)) then
(aP x0 fun v89=>
aB 1 v89 fun v90=>
aC v90 h29 fun v91=>
asI .i64 v91 fun n92=>
aP x0 fun v93=>
aB 3 v93 fun v94=>
aC v94 h29 fun v95=>
asI .i64 v95 fun n96=>
J 4 [(0,x0),(6,(AV.b (decide ((n92:Int)=n96))))] h29)
else
((bif (decide ((n35:Int)=5)) then
((bif (!(decide ((x1:Int)=0))) then
(aP x0 fun v100=>
aB 1 v100 fun v101=>
aC v101 h29 fun v102=>
asI .i64 v102 fun n103=>
J 1 [(0,x0),(1,(AV.i .u8 x1)),(6,(AV.b (decide ((x1:Int)=0)))),(111,(AV.b (decide ((256:Int)<n103))))] h29)
else
(J 1 [(0,x0),(1,(AV.i .u8 x1)),(6,(AV.b (decide ((x1:Int)=0)))),(111,(AV.b false))] h29)))
else
((bif (decide ((n35:Int)=6)) then
(J 4 [(0,x0),(6,(AV.b (decide ((x1:Int)=0))))] h29)
else
((bif (decide ((n35:Int)=7)) then
(aP x0 fun v124=>
aB 1 v124 fun v125=>
aC v125 h29 fun v126=>
asI .i64 v126 fun n127=>
(bif (decide ((n127:Int)=1)) then
(aT (aX .and .u32 n4 65535) fun n129=>
aP x0 fun v130=>
aB 5 v130 fun v131=>
aR 1 v131 (AV.i .i64 (IntKind.wrap .i64 n129)) h29 fun h132=>
J 2 [(0,x0),(1,(AV.i .u8 x1))] h132)
else
(J 2 [(0,x0),(1,(AV.i .u8 x1))] h29)))
else
(J 4 [(0,x0),(6,(AV.b false))] h29))))))))))))))))))
theorem Y2.call {K x0 x1 h} (H:Y2.t (aH h K) x0 x1 h (Y2.J (aH h K))):C Y2.id [x0,(AV.i .u8 x1)] h K:=
 gC Y2.J Tryz.func24 Y2.dist H
noncomputable def Y53.body:Code:=(Tryz.f25.body).getD .skip
def Y53.ann:Ann:=(sl [0] (sl [0] (sq [0] (.ord (nn 0 11 (.eff 11 (.eff 12 (nn 13 2 (.eff 15 .done .stop)) .stop) .stop))) lf)))
theorem Y53.dist:aJ (places Y53.ann Y53.body)=true:=by kernel_rfl
noncomputable def Y53.J (Q:AV→aA→Prop):JT:=bQ prog C Tryz.f25 Y53.ann Y53.body Q
def Y53.t (Q:AV→aA→Prop) (x0:AV) (h:aA) (J:JT):Prop:=
aP x0 fun v0=>
aB 7 v0 fun v1=>
dF 2 v1 h fun v2=>
C Y36.id [v2] h fun v3 h4=>
aP x0 fun v5=>
aB 9 v5 fun v6=>
aR 1 v6 v3 h4 fun h7=>
aP x0 fun v9=>
aB 10 v9 fun v10=>
aR 1 v10 (AV.i .u32 0) h7 fun h11=>
aP x0 fun v12=>
aB 11 v12 fun v13=>
aR 1 v13 (AV.i .i64 0) h11 fun h14=>
aP x0 fun v15=>
aB 12 v15 fun v16=>
aR 1 v16 (AV.s []) h14 fun h17=>
aP x0 fun v19=>
aB 15 v19 fun v20=>
aC v20 h17 fun v21=>
aP x0 fun v22=>
aB 0 v22 fun v23=>
aB 6 v23 fun v24=>
aC v24 h17 fun v25=>
cR v25 h17 fun l26=>
bR 1 1 [(AV.s [])] [(0,1,(AV.s l26))] h17 fun v27 h28=>
aC v20 h28 fun v29=>
(v21=v29 ∧
(b5 none 1 16 v21 v27 h28 fun v30 h31=>
aP x0 fun v32=>
aB 15 v32 fun v33=>
aR 1 v33 v30 h31 fun h34=>
aP x0 fun v36=>
aB 16 v36 fun v37=>
aC v37 h34 fun v38=>
bR 1 1 [(AV.i .i64 0)] [(0,1,(AV.i .i64 0))] h34 fun v39 h40=>
b5 none 1 8 v38 v39 h40 fun v41 h42=>
aP x0 fun v43=>
aB 16 v43 fun v44=>
aR 1 v44 v41 h42 fun h45=>
Q (AV.tu []) h45))
theorem Y53.call {K x0 h} (H:Y53.t (aH h K) x0 h (Y53.J (aH h K))):C Y53.id [x0] h K:=
 gC Y53.J Tryz.func25 Y53.dist H
noncomputable def Y10.body:Code:=(Tryz.f26.body).getD .skip
def Y10.ann:Ann:=(sl [0,1,5] (sl [0,4,5,6] (sl [0,4,5,6] (sl [0,4,5,6] (sl [0,4,5,6] (sq [0,4,5,6] (.ord (nn 0 16 (.eff 16 .done .stop))) (.seq 2 [4,5,6] (.seq 1 [0,4,5,6,69] lf (.br (sl [0,4,5,6] lf) lf)) (sl [4,5,6] lf))))))))
theorem Y10.dist:aJ (places Y10.ann Y10.body)=true:=by kernel_rfl
noncomputable def Y10.J (Q:AV→aA→Prop):JT:=bQ prog C Tryz.f26 Y10.ann Y10.body Q
def Y10.p0 (Q:AV→aA→Prop) (x0:AV) (x4 x5:List UInt8) (x6:Int) (x69:Bool) (h:aA):Prop:=Y10.J Q 1 [(0,x0),(4,(AV.s x4)),(5,(AV.s x5)),(6,(AV.i .i64 x6)),(69,(AV.b x69))] h
def Y10.p1 (Q:AV→aA→Prop) (x4 x5:List UInt8) (x6:Int) (h:aA):Prop:=Y10.J Q 2 [(4,(AV.s x4)),(5,(AV.s x5)),(6,(AV.i .i64 x6))] h
def Y10.t0 (Q:AV→aA→Prop) (x0:AV) (x4 x5:List UInt8) (x6:Int) (x69:Bool) (h:aA) (J:JT):Prop:=
(bif x69 then
(aP x0 fun v65=>
aB 9 v65 fun v66=>
aC v66 h fun v67=>
C Y56.id [v67] h fun v68 h69=>
asS v68 fun l70=>
aP x0 fun v72=>
aB 9 v72 fun v73=>
aR 1 v73 (AV.p none) h69 fun h74=>
J 2 [(4,(AV.s x4)),(5,(AV.s l70)),(6,(AV.i .i64 x6))] h74)
else
(J 2 [(4,(AV.s x4)),(5,(AV.s x5)),(6,(AV.i .i64 x6))] h))
theorem Y10.i0 {Q x0 x4 x5 x6 x69 h} (H:Y10.t0 Q x0 x4 x5 x6 x69 h (Y10.J Q)):Y10.p0 Q x0 x4 x5 x6 x69 h:=gR Y10.J Tryz.f26 Y10.dist [1,1,1,1,1,1,0,1] H
def Y10.t1 (Q:AV→aA→Prop) (x4 x5:List UInt8) (x6:Int) (h:aA) (J:JT):Prop:=
Q (AV.tu [(AV.s x4),(AV.s x5),(AV.i .i64 x6)]) h
theorem Y10.i1 {Q x4 x5 x6 h} (H:Y10.t1 Q x4 x5 x6 h (Y10.J Q)):Y10.p1 Q x4 x5 x6 h:=gR Y10.J Tryz.f26 Y10.dist [1,1,1,1,1,1,1] H
def Y10.t (Q:AV→aA→Prop) (x0:AV) (x1:List UInt8) (h:aA) (J:JT):Prop:=
aP x0 fun v1=>
aB 9 v1 fun v2=>
aC v2 h fun v3=>
C Y0.id [v3,(AV.s x1)] h fun v4 h5=>
bC 0 v4 fun v6=>
asS v6 fun l7=>
bC 1 v4 fun v8=>
asI .i64 v8 fun n9=>
aP x0 fun v11=>
aB 10 v11 fun v12=>
aC v12 h5 fun v13=>
asI .u32 v13 fun n14=>
C Y17.id [(AV.i .u32 n14),(AV.s l7)] h5 fun v15 h16=>
asI .u32 v15 fun n17=>
aP x0 fun v18=>
aB 10 v18 fun v19=>
aR 1 v19 (AV.i .u32 n17) h16 fun h20=>
aP x0 fun v22=>
aB 11 v22 fun v23=>
aC v23 h20 fun v24=>
asI .i64 v24 fun n25=>
aT (IntKind.wrap .i64 (n25+(l7.length:Int))) fun n26=>
aP x0 fun v27=>
aB 11 v27 fun v28=>
aR 1 v28 (AV.i .i64 n26) h20 fun h29=>
aP x0 fun v31=>
aB 7 v31 fun v32=>
aB 0 v32 fun v33=>
aC v33 h29 fun v34=>
asI .i64 v34 fun n35=>
aT (IntKind.wrap .i64 (n35 - (l7.length:Int))) fun n36=>
aP x0 fun v37=>
aB 7 v37 fun v38=>
aB 0 v38 fun v39=>
aR 1 v39 (AV.i .i64 n36) h29 fun h40=>
aP x0 fun v42=>
aB 16 v42 fun v43=>
aC v43 h40 fun v44=>
aP x0 fun v45=>
aB 16 v45 fun v46=>
aC v46 h40 fun v47=>
b6 v47 fun n48=>
aT (IntKind.wrap .i64 (n48 - 1)) fun n49=>
aZ 1 v44 (AV.i .i64 n49) h40 fun v50=>
aC v50 h40 fun v51=>
asI .i64 v51 fun n52=>
aT (IntKind.wrap .i64 (n52+(l7.length:Int))) fun n53=>
aZ 1 v44 (AV.i .i64 n49) h40 fun v54=>
aR 1 v54 (AV.i .i64 n53) h40 fun h55=>
(bif (decide ((n9:Int)=0)) then
(aP x0 fun v57=>
aB 9 v57 fun v58=>
aC v58 h55 fun v59=>
C Y25.id [v59] h55 fun v60 h61=>
asB v60 fun c62=>
J 1 [(0,x0),(4,(AV.s l7)),(5,(AV.s [])),(6,(AV.i .i64 n9)),(69,(AV.b c62))] h61)
else
(J 1 [(0,x0),(4,(AV.s l7)),(5,(AV.s [])),(6,(AV.i .i64 n9)),(69,(AV.b false))] h55))
theorem Y10.call {K x0 x1 h} (H:Y10.t (aH h K) x0 x1 h (Y10.J (aH h K))):C Y10.id [x0,(AV.s x1)] h K:=
 gC Y10.J Tryz.func26 Y10.dist H
noncomputable def Y39.body:Code:=(Tryz.f27.body).getD .skip
def Y39.ann:Ann:=(sl [0,1] (sl [0,1] (sl [1] (sl [4,5] lf))))
theorem Y39.dist:aJ (places Y39.ann Y39.body)=true:=by kernel_rfl
noncomputable def Y39.J (Q:AV→aA→Prop):JT:=bQ prog C Tryz.f27 Y39.ann Y39.body Q
def Y39.t (Q:AV→aA→Prop) (x0:AV) (x1:List UInt8) (h:aA) (J:JT):Prop:=
C Y50.id [x0] h fun v1 h2=>
aP x0 fun v4=>
aB 1 v4 fun v5=>
aC v5 h2 fun v6=>
b5 (some 5) 1 1 v6 (AV.s x1) h2 fun v7 h8=>
aP x0 fun v9=>
aB 1 v9 fun v10=>
aR 1 v10 v7 h8 fun h11=>
Q (AV.tu [(AV.i .i64 (x1.length:Int)),AV.ni]) h11
theorem Y39.call {K x0 x1 h} (H:Y39.t (aH h K) x0 x1 h (Y39.J (aH h K))):C Y39.id [x0,(AV.s x1)] h K:=
 gC Y39.J Tryz.func27 Y39.dist H
noncomputable def Y21.body:Code:=(Tryz.f28.body).getD .skip
def Y21.ann:Ann:=(sl [0,1] (sq [0] (.ord (nn 0 5 (.eff 5 (nn 6 4 (.eff 10 .done .stop)) .stop))) (.seq 1 [] (sl [0,23] (.one (sl [0,23,24] (.br (sl [0,5] (sl [40] (.br (sl [4] lf) lf))) (sl [0,41] (.br (sq [0] (sl [0,7] (sl [0,56] (.br (sl [4] lf) lf))) lf) lf)))))) (sl [4] lf))))
theorem Y21.dist:aJ (places Y21.ann Y21.body)=true:=by kernel_rfl
noncomputable def Y21.J (Q:AV→aA→Prop):JT:=bQ prog C Tryz.f28 Y21.ann Y21.body Q
def Y21.p0 (Q:AV→aA→Prop) (h:aA):Prop:=Y21.J Q 1 [] h
def Y21.t0 (Q:AV→aA→Prop) (h:aA) (J:JT):Prop:=
Q (AV.i .i64 0) h
theorem Y21.i0 {Q h} (H:Y21.t0 Q h (Y21.J Q)):Y21.p0 Q h:=gR Y21.J Tryz.f28 Y21.dist [1,1,1] H
def Y21.t (Q:AV→aA→Prop) (x0:AV) (x1:Int) (h:aA) (J:JT):Prop:=
aP x0 fun v1=>
aB 12 v1 fun v2=>
aC v2 h fun v3=>
asS v3 fun l4=>
bR 1 1 [(AV.i .u8 0)] [(0,1,(AV.i .u8 x1))] h fun v5 h6=>
aC v2 h6 fun v7=>
asS v7 fun l8=>
((AV.s l4)=(AV.s l8) ∧
(cR v5 h6 fun l9=>
aN9 l4 l9 fun l10=>
aP x0 fun v11=>
aB 12 v11 fun v12=>
aR 1 v12 (AV.s l10) h6 fun h13=>
aP x0 fun v15=>
aB 12 v15 fun v16=>
aC v16 h13 fun v17=>
asS v17 fun l18=>
(bif (decide (((l18.length:Int):Int)=4)) then
(aP x0 fun v21=>
aB 12 v21 fun v22=>
aC v22 h13 fun v23=>
asS v23 fun l24=>
C Y15.id [(AV.s l24),(AV.i .i64 0),(AV.i .i64 4)] h13 fun v25 h26=>
bC 0 v25 fun v27=>
asI .i64 v27 fun n28=>
bC 1 v25 fun v29=>
asI .i64 v29 fun n30=>
aP x0 fun v32=>
aB 10 v32 fun v33=>
aC v33 h26 fun v34=>
asI .u32 v34 fun n35=>
(bif (!decide (((IntKind.wrap .u32 n28):Int)=n35)) then
(Q (AV.i .i64 8) h26)
else
(J 1 [] h26)))
else
((bif (decide (((l18.length:Int):Int)=8)) then
(aP x0 fun v40=>
aB 12 v40 fun v41=>
aC v41 h13 fun v42=>
asS v42 fun l43=>
C Y15.id [(AV.s l43),(AV.i .i64 4),(AV.i .i64 4)] h13 fun v44 h45=>
bC 0 v44 fun v46=>
asI .i64 v46 fun n47=>
bC 1 v44 fun v48=>
asI .i64 v48 fun n49=>
aP x0 fun v51=>
aB 11 v51 fun v52=>
aC v52 h45 fun v53=>
asI .i64 v53 fun n54=>
(bif (!decide ((n47:Int)=n54)) then
(Q (AV.i .i64 8) h45)
else
(aP x0 fun v58=>
aB 13 v58 fun v59=>
aR 1 v59 (AV.b false) h45 fun h60=>
J 1 [] h60)))
else
(J 1 [] h13))))))
theorem Y21.call {K x0 x1 h} (H:Y21.t (aH h K) x0 x1 h (Y21.J (aH h K))):C Y21.id [x0,(AV.i .u8 x1)] h K:=
 gC Y21.J Tryz.func28 Y21.dist H
noncomputable def Y33.body:Code:=(Tryz.f29.body).getD .skip
def Y33.ann:Ann:=(sl [0] (sq [2] (.ord (nn 0 4 (nn 5 5 (.eff 4 (.eff 10 (.neu 11 .done) .stop) .stop)))) lf))
theorem Y33.dist:aJ (places Y33.ann Y33.body)=true:=by kernel_rfl
noncomputable def Y33.J (Q:AV→aA→Prop):JT:=bQ prog C Tryz.f29 Y33.ann Y33.body Q
def Y33.t (Q:AV→aA→Prop) (x0:AV) (h:aA) (J:JT):Prop:=
aP x0 fun v1=>
aB 1 v1 fun v2=>
aC v2 h fun v3=>
aP x0 fun v4=>
aB 1 v4 fun v5=>
aC v5 h fun v6=>
b6 v6 fun n7=>
fS v3 h fun v8 h9=>
aC v5 h9 fun v10=>
(v6=v10 ∧
(kV prog v8 (AV.i .i64 n7) h9 fun v11 h12=>
asS v11 fun l13=>
Q (AV.s l13) h12))
theorem Y33.call {K x0 h} (H:Y33.t (aH h K) x0 h (Y33.J (aH h K))):C Y33.id [x0] h K:=
 gC Y33.J Tryz.func29 Y33.dist H
noncomputable def Y36.body:Code:=(Tryz.f36.body).getD .skip
def Y36.ann:Ann:=(sl [1] (sq [3] (.ord (nn 0 2 (nn 3 2 (.eff 2 (.eff 5 (nn 6 2 (.eff 8 (.neu 9 .done) .stop)) .stop) .stop)))) (sl [3] (sl [2] lf))))
theorem Y36.dist:aJ (places Y36.ann Y36.body)=true:=by kernel_rfl
noncomputable def Y36.J (Q:AV→aA→Prop):JT:=bQ prog C Tryz.f36 Y36.ann Y36.body Q
def Y36.t (Q:AV→aA→Prop) (x0:AV) (h:aA) (J:JT):Prop:=
d7 (some 23) x0 h fun v0 h1=>
aB 0 v0 fun v3=>
aC v3 h1 fun v4=>
asI .i64 v4 fun n5=>
aB 1 v0 fun v6=>
aC v6 h1 fun v7=>
asI .i64 v7 fun n8=>
C Y35.id [(AV.i .i64 n5),(AV.i .i64 0),(AV.i .i64 65536)] h1 fun v9 h10=>
asI .i64 v9 fun n11=>
aC v6 h10 fun v12=>
asI .i64 v12 fun n13=>
((AV.i .i64 n8)=(AV.i .i64 n13) ∧
(C Y35.id [(AV.i .i64 n8),(AV.i .i64 1),(AV.i .i64 1100)] h10 fun v14 h15=>
asI .i64 v14 fun n16=>
gS [(AV.i .i64 0),(AV.i .i64 0),(AV.sl none 0 none),(AV.i .i64 0),(AV.sl none 0 none),(AV.i .i64 0),(AV.b false),(AV.b false),(AV.b false),(AV.b false),(AV.s []),(AV.i .i64 0),(AV.i .i64 0),(AV.i .i64 0),(AV.p none),AV.nf] [(0,2,(AV.ag [(AV.i .i64 n11),(AV.i .i64 n16)]))] fun v17=>
d7 (some 85) v17 h15 fun v18 h19=>
C Y29.id [v18] h19 fun v21 h22=>
asI .i64 v21 fun n23=>
Q v18 h22))
theorem Y36.call {K x0 h} (H:Y36.t (aH h K) x0 h (Y36.J (aH h K))):C Y36.id [x0] h K:=
 gC Y36.J Tryz.func36 Y36.dist H
noncomputable def Y0.body:Code:=(Tryz.f37.body).getD .skip
def Y0.ann:Ann:=(sl [0,1] (sq [0,1] (.one (sl [0,1,9] (.br (sl [4,5] lf) (.seq 1 [0,1,12] lf (.br (sl [4,5] lf) lf))))) (sl [0,1] (.seq 5 [0] (sl [0,1,27,28] (.one (.loop 2 [0,1,27,28] (sl [0,1,27,28,29] (sq [0,1,27,28] bl (sq [0,1,27,28] (.one (sl [0,1,6,27,28] (sl [0,1,6,27,28] (sl [0,1,6,27,28] (sq [0,1,6,27,28] (sl [0,1,6,7,27,28] (.one (.loop 3 [0,1,6,7,27,28] (sq [0,1,6,7,27,28] (.seq 4 [0,1,6,7,27,28,56] lf bl) (sq [0,1,6,7,27,28] (.one (sl [0,1,6,7,8,27,28] (sl [0,1,6,7,8,27,28,69] (.br (sl [0,8] (sl [4,5] lf)) lf)))) lf))))) (sl [0,1,6,27,28,82] (.br (sl [0] lf) lf))))))) lf)))))) (sl [4,5] lf)))))
theorem Y0.dist:aJ (places Y0.ann Y0.body)=true:=by kernel_rfl
noncomputable def Y0.J (Q:AV→aA→Prop):JT:=bQ prog C Tryz.f37 Y0.ann Y0.body Q
def Y0.p0 (Q:AV→aA→Prop) (x0:AV) (x1:List UInt8) (x12:Bool) (h:aA):Prop:=Y0.J Q 1 [(0,x0),(1,(AV.s x1)),(12,(AV.b x12))] h
def Y0.p3 (Q:AV→aA→Prop) (x0:AV) (x1:List UInt8) (x6 x7 x27 x28:Int) (x56:Bool) (h:aA):Prop:=Y0.J Q 4 [(0,x0),(1,(AV.s x1)),(6,(AV.i .i64 x6)),(7,(AV.i .i64 x7)),(27,(AV.i .i64 x27)),(28,(AV.i .i64 x28)),(56,(AV.b x56))] h
def Y0.p2 (Q:AV→aA→Prop) (x0:AV) (x1:List UInt8) (x6 x7 x27 x28:Int) (h:aA):Prop:=Y0.J Q 3 [(0,x0),(1,(AV.s x1)),(6,(AV.i .i64 x6)),(7,(AV.i .i64 x7)),(27,(AV.i .i64 x27)),(28,(AV.i .i64 x28))] h
def Y0.p1 (Q:AV→aA→Prop) (x0:AV) (x1:List UInt8) (x27 x28:Int) (h:aA):Prop:=Y0.J Q 2 [(0,x0),(1,(AV.s x1)),(27,(AV.i .i64 x27)),(28,(AV.i .i64 x28))] h
def Y0.p4 (Q:AV→aA→Prop) (x0:AV) (h:aA):Prop:=Y0.J Q 5 [(0,x0)] h
def Y0.t0 (Q:AV→aA→Prop) (x0:AV) (x1:List UInt8) (x12:Bool) (h:aA) (J:JT):Prop:=
(bif x12 then
(Q (AV.tu [(AV.s []),(AV.i .i64 10)]) h)
else
(aP x0 fun v17=>
aB 4 v17 fun v18=>
aR 1 v18 (AV.sl none 0 none) h fun h19=>
J 2 [(0,x0),(1,(AV.s x1)),(27,(AV.i .i64 (x1.length:Int))),(28,(AV.i .i64 0))] h19))
theorem Y0.i0 {Q x0 x1 x12 h} (H:Y0.t0 Q x0 x1 x12 h (Y0.J Q)):Y0.p0 Q x0 x1 x12 h:=gR Y0.J Tryz.f37 Y0.dist [1,0,0,1,1,1] H
def Y0.t3 (Q:AV→aA→Prop) (x0:AV) (x1:List UInt8) (x6 x7 x27 x28:Int) (x56:Bool) (h:aA) (J:JT):Prop:=
(bif x56 then
(dO (AV.s x1) (AV.i .i64 x6) fun n53=>
xW .i64 (IntKind.wrap .i64 n53) x7 fun n54=>
C Y3.id [x0,(AV.i .i64 (aX .and .i64 n54 1))] h fun v55 h56=>
asI .i64 v55 fun n57=>
(bif (!decide ((n57:Int)=0)) then
(aP x0 fun v60=>
aB 8 v60 fun v61=>
aR 1 v61 (AV.b true) h56 fun h62=>
aP x0 fun v64=>
aB 4 v64 fun v65=>
aC v65 h62 fun v66=>
cR v66 h62 fun l67=>
Q (AV.tu [(AV.s l67),(AV.i .i64 n57)]) h62)
else
(aT (IntKind.wrap .i64 (x7+1)) fun n70=>
J 3 [(0,x0),(1,(AV.s x1)),(6,(AV.i .i64 x6)),(7,(AV.i .i64 n70)),(27,(AV.i .i64 x27)),(28,(AV.i .i64 x28))] h56)))
else
(aP x0 fun v72=>
aB 7 v72 fun v73=>
aC v73 h fun v74=>
asB v74 fun c75=>
(bif c75 then
(aT (IntKind.wrap .i64 (x6+1)) fun n77=>
cA (AV.s x1) (some (AV.i .i64 n77)) none fun l78=>
aP x0 fun v79=>
aB 10 v79 fun v80=>
aR 1 v80 (AV.s l78) h fun h81=>
J 5 [(0,x0)] h81)
else
(aT (IntKind.wrap .i64 (x28+1)) fun n85=>
J 2 [(0,x0),(1,(AV.s x1)),(27,(AV.i .i64 x27)),(28,(AV.i .i64 n85))] h))))
theorem Y0.i3 {Q x0 x1 x6 x7 x27 x28 x56 h} (H:Y0.t3 Q x0 x1 x6 x7 x27 x28 x56 h (Y0.J Q)):Y0.p3 Q x0 x1 x6 x7 x27 x28 x56 h:=gR Y0.J Tryz.f37 Y0.dist [1,1,1,0,1,0,0,1,1,0,0,1,1,1,0,1,0,0,0,1] H
def Y0.t2 (Q:AV→aA→Prop) (x0:AV) (x1:List UInt8) (x6 x7 x27 x28:Int) (h:aA) (J:JT):Prop:=
(bif (decide ((x7:Int)<8)) then
(aP x0 fun v40=>
aB 9 v40 fun v41=>
aC v41 h fun v42=>
asB v42 fun c43=>
(bif (!c43) then
(aP x0 fun v44=>
aB 7 v44 fun v45=>
aC v45 h fun v46=>
asB v46 fun c47=>
J 4 [(0,x0),(1,(AV.s x1)),(6,(AV.i .i64 x6)),(7,(AV.i .i64 x7)),(27,(AV.i .i64 x27)),(28,(AV.i .i64 x28)),(56,(AV.b (!c47)))] h)
else
(J 4 [(0,x0),(1,(AV.s x1)),(6,(AV.i .i64 x6)),(7,(AV.i .i64 x7)),(27,(AV.i .i64 x27)),(28,(AV.i .i64 x28)),(56,(AV.b false))] h)))
else
(J 4 [(0,x0),(1,(AV.s x1)),(6,(AV.i .i64 x6)),(7,(AV.i .i64 x7)),(27,(AV.i .i64 x27)),(28,(AV.i .i64 x28)),(56,(AV.b false))] h))
theorem Y0.i2 {Q x0 x1 x6 x7 x27 x28 h} (H:Y0.t2 Q x0 x1 x6 x7 x27 x28 h (Y0.J Q)):Y0.p2 Q x0 x1 x6 x7 x27 x28 h:=gH Y0.J Tryz.f37 Y0.dist [1,1,1,0,1,0,0,1,1,0,0,1,1,1,0,1,0] H
def Y0.t1 (Q:AV→aA→Prop) (x0:AV) (x1:List UInt8) (x27 x28:Int) (h:aA) (J:JT):Prop:=
(bif (decide ((x28:Int)<x27)) then
(aP x0 fun v26=>
aB 5 v26 fun v27=>
aC v27 h fun v28=>
asI .i64 v28 fun n29=>
aT (IntKind.wrap .i64 (n29+1)) fun n30=>
aP x0 fun v31=>
aB 5 v31 fun v32=>
aR 1 v32 (AV.i .i64 n30) h fun h33=>
aP x0 fun v35=>
aB 9 v35 fun v36=>
aR 1 v36 (AV.b false) h33 fun h37=>
J 3 [(0,x0),(1,(AV.s x1)),(6,(AV.i .i64 x28)),(7,(AV.i .i64 0)),(27,(AV.i .i64 x27)),(28,(AV.i .i64 x28))] h37)
else
(J 5 [(0,x0)] h))
theorem Y0.i1 {Q x0 x1 x27 x28 h} (H:Y0.t1 Q x0 x1 x27 x28 h (Y0.J Q)):Y0.p1 Q x0 x1 x27 x28 h:=gH Y0.J Tryz.f37 Y0.dist [1,1,1,0,1,0] H
def Y0.t4 (Q:AV→aA→Prop) (x0:AV) (h:aA) (J:JT):Prop:=
aP x0 fun v87=>
aB 4 v87 fun v88=>
aC v88 h fun v89=>
cR v89 h fun l90=>
Q (AV.tu [(AV.s l90),(AV.i .i64 0)]) h
theorem Y0.i4 {Q x0 h} (H:Y0.t4 Q x0 h (Y0.J Q)):Y0.p4 Q x0 h:=gR Y0.J Tryz.f37 Y0.dist [1,1,1,1] H
def Y0.t (Q:AV→aA→Prop) (x0:AV) (x1:List UInt8) (h:aA) (J:JT):Prop:=
cD prog .eql 55 x0 (AV.p none) fun v1=>
asB v1 fun c2=>
(bif c2 then
(Q (AV.tu [(AV.s []),(AV.i .i64 6)]) h)
else
(aP x0 fun v5=>
aB 8 v5 fun v6=>
aC v6 h fun v7=>
asB v7 fun c8=>
(bif c8 then
(J 1 [(0,x0),(1,(AV.s x1)),(12,(AV.b true))] h)
else
(aP x0 fun v10=>
aB 7 v10 fun v11=>
aC v11 h fun v12=>
asB v12 fun c13=>
J 1 [(0,x0),(1,(AV.s x1)),(12,(AV.b c13))] h))))
theorem Y0.call {K x0 x1 h} (H:Y0.t (aH h K) x0 x1 h (Y0.J (aH h K))):C Y0.id [x0,(AV.s x1)] h K:=
 gC Y0.J Tryz.func37 Y0.dist H
noncomputable def Y17.body:Code:=(Tryz.f38.body).getD .skip
def Y17.ann:Ann:=(sl [0,1] (sl [0,1,5] (sl [1,5,6] (sq [6] (sl [1,5,6,12,13] (.one (.loop 1 [1,5,6,12,13] (sl [1,5,6,12,13,14] (sq [1,5,6,12,13] bl (sq [1,5,6,12,13] (.one (sl [1,5,6,7,12,13] lf)) lf)))))) (sl [4] lf)))))
theorem Y17.dist:aJ (places Y17.ann Y17.body)=true:=by kernel_rfl
noncomputable def Y17.J (Q:AV→aA→Prop):JT:=bQ prog C Tryz.f38 Y17.ann Y17.body Q
def Y17.p0 (Q:AV→aA→Prop) (x1:List UInt8) (x5:AV) (x6 x12 x13:Int) (h:aA):Prop:=Y17.J Q 1 [(1,(AV.s x1)),(5,x5),(6,(AV.i .u32 x6)),(12,(AV.i .i64 x12)),(13,(AV.i .i64 x13))] h
def Y17.t0 (Q:AV→aA→Prop) (x1:List UInt8) (x5:AV) (x6 x12 x13:Int) (h:aA) (J:JT):Prop:=
(bif (decide ((x13:Int)<x12)) then
(xW .u32 x6 8 fun n14=>
dO (AV.s x1) (AV.i .i64 x13) fun n15=>
aT (aX .xor .u8 (IntKind.wrap .u8 x6) n15) fun n16=>
bJ 256 1 x5 (AV.i .u8 n16) fun v17=>
aC v17 h fun v18=>
asI .u32 v18 fun n19=>
aT (aX .xor .u32 n14 n19) fun n20=>
aT (IntKind.wrap .i64 (x13+1)) fun n22=>
J 1 [(1,(AV.s x1)),(5,x5),(6,(AV.i .u32 n20)),(12,(AV.i .i64 x12)),(13,(AV.i .i64 n22))] h)
else
(aT (aX .xor .u32 (IntKind.max .u32) x6) fun n24=>
Q (AV.i .u32 n24) h))
theorem Y17.i0 {Q x1 x5 x6 x12 x13 h} (H:Y17.t0 Q x1 x5 x6 x12 x13 h (Y17.J Q)):Y17.p0 Q x1 x5 x6 x12 x13 h:=gH Y17.J Tryz.f38 Y17.dist [1,1,1,0,1,0] H
def Y17.t (Q:AV→aA→Prop) (x0:Int) (x1:List UInt8) (h:aA) (J:JT):Prop:=
C Y7.id [] h fun v1 h2=>
dV none [(AV.i .u32 0),(AV.i .u32 0),(AV.i .u32 0),(AV.i .u32 0),(AV.i .u32 0),(AV.i .u32 0),(AV.i .u32 0),(AV.i .u32 0),(AV.i .u32 0),(AV.i .u32 0),(AV.i .u32 0),(AV.i .u32 0),(AV.i .u32 0),(AV.i .u32 0),(AV.i .u32 0),(AV.i .u32 0),(AV.i .u32 0),(AV.i .u32 0),(AV.i .u32 0),(AV.i .u32 0),(AV.i .u32 0),(AV.i .u32 0),(AV.i .u32 0),(AV.i .u32 0),(AV.i .u32 0),(AV.i .u32 0),(AV.i .u32 0),(AV.i .u32 0),(AV.i .u32 0),(AV.i .u32 0),(AV.i .u32 0),(AV.i .u32 0),(AV.i .u32 0),(AV.i .u32 0),(AV.i .u32 0),(AV.i .u32 0),(AV.i .u32 0),(AV.i .u32 0),(AV.i .u32 0),(AV.i .u32 0),(AV.i .u32 0),(AV.i .u32 0),(AV.i .u32 0),(AV.i .u32 0),(AV.i .u32 0),(AV.i .u32 0),(AV.i .u32 0),(AV.i .u32 0),(AV.i .u32 0),(AV.i .u32 0),(AV.i .u32 0),(AV.i .u32 0),(AV.i .u32 0),(AV.i .u32 0),(AV.i .u32 0),(AV.i .u32 0),(AV.i .u32 0),(AV.i .u32 0),(AV.i .u32 0),(AV.i .u32 0),(AV.i .u32 0),(AV.i .u32 0),(AV.i .u32 0),(AV.i .u32 0),(AV.i .u32 0),(AV.i .u32 0),(AV.i .u32 0),(AV.i .u32 0),(AV.i .u32 0),(AV.i .u32 0),(AV.i .u32 0),(AV.i .u32 0),(AV.i .u32 0),(AV.i .u32 0),(AV.i .u32 0),(AV.i .u32 0),(AV.i .u32 0),(AV.i .u32 0),(AV.i .u32 0),(AV.i .u32 0),(AV.i .u32 0),(AV.i .u32 0),(AV.i .u32 0),(AV.i .u32 0),(AV.i .u32 0),(AV.i .u32 0),(AV.i .u32 0),(AV.i .u32 0),(AV.i .u32 0),(AV.i .u32 0),(AV.i .u32 0),(AV.i .u32 0),(AV.i .u32 0),(AV.i .u32 0),(AV.i .u32 0),(AV.i .u32 0),(AV.i .u32 0),(AV.i .u32 0),(AV.i .u32 0),(AV.i .u32 0),(AV.i .u32 0),(AV.i .u32 0),(AV.i .u32 0),(AV.i .u32 0),(AV.i .u32 0),(AV.i .u32 0),(AV.i .u32 0),(AV.i .u32 0),(AV.i .u32 0),(AV.i .u32 0),(AV.i .u32 0),(AV.i .u32 0),(AV.i .u32 0),(AV.i .u32 0),(AV.i .u32 0),(AV.i .u32 0),(AV.i .u32 0),(AV.i .u32 0),(AV.i .u32 0),(AV.i .u32 0),(AV.i .u32 0),(AV.i .u32 0),(AV.i .u32 0),(AV.i .u32 0),(AV.i .u32 0),(AV.i .u32 0),(AV.i .u32 0),(AV.i .u32 0),(AV.i .u32 0),(AV.i .u32 0),(AV.i .u32 0),(AV.i .u32 0),(AV.i .u32 0),(AV.i .u32 0),(AV.i .u32 0),(AV.i .u32 0),(AV.i .u32 0),(AV.i .u32 0),(AV.i .u32 0),(AV.i .u32 0),(AV.i .u32 0),(AV.i .u32 0),(AV.i .u32 0),(AV.i .u32 0),(AV.i .u32 0),(AV.i .u32 0),(AV.i .u32 0),(AV.i .u32 0),(AV.i .u32 0),(AV.i .u32 0),(AV.i .u32 0),(AV.i .u32 0),(AV.i .u32 0),(AV.i .u32 0),(AV.i .u32 0),(AV.i .u32 0),(AV.i .u32 0),(AV.i .u32 0),(AV.i .u32 0),(AV.i .u32 0),(AV.i .u32 0),(AV.i .u32 0),(AV.i .u32 0),(AV.i .u32 0),(AV.i .u32 0),(AV.i .u32 0),(AV.i .u32 0),(AV.i .u32 0),(AV.i .u32 0),(AV.i .u32 0),(AV.i .u32 0),(AV.i .u32 0),(AV.i .u32 0),(AV.i .u32 0),(AV.i .u32 0),(AV.i .u32 0),(AV.i .u32 0),(AV.i .u32 0),(AV.i .u32 0),(AV.i .u32 0),(AV.i .u32 0),(AV.i .u32 0),(AV.i .u32 0),(AV.i .u32 0),(AV.i .u32 0),(AV.i .u32 0),(AV.i .u32 0),(AV.i .u32 0),(AV.i .u32 0),(AV.i .u32 0),(AV.i .u32 0),(AV.i .u32 0),(AV.i .u32 0),(AV.i .u32 0),(AV.i .u32 0),(AV.i .u32 0),(AV.i .u32 0),(AV.i .u32 0),(AV.i .u32 0),(AV.i .u32 0),(AV.i .u32 0),(AV.i .u32 0),(AV.i .u32 0),(AV.i .u32 0),(AV.i .u32 0),(AV.i .u32 0),(AV.i .u32 0),(AV.i .u32 0),(AV.i .u32 0),(AV.i .u32 0),(AV.i .u32 0),(AV.i .u32 0),(AV.i .u32 0),(AV.i .u32 0),(AV.i .u32 0),(AV.i .u32 0),(AV.i .u32 0),(AV.i .u32 0),(AV.i .u32 0),(AV.i .u32 0),(AV.i .u32 0),(AV.i .u32 0),(AV.i .u32 0),(AV.i .u32 0),(AV.i .u32 0),(AV.i .u32 0),(AV.i .u32 0),(AV.i .u32 0),(AV.i .u32 0),(AV.i .u32 0),(AV.i .u32 0),(AV.i .u32 0),(AV.i .u32 0),(AV.i .u32 0),(AV.i .u32 0),(AV.i .u32 0),(AV.i .u32 0),(AV.i .u32 0),(AV.i .u32 0),(AV.i .u32 0),(AV.i .u32 0),(AV.i .u32 0),(AV.i .u32 0),(AV.i .u32 0),(AV.i .u32 0),(AV.i .u32 0),(AV.i .u32 0),(AV.i .u32 0),(AV.i .u32 0),(AV.i .u32 0),(AV.i .u32 0),(AV.i .u32 0),(AV.i .u32 0),(AV.i .u32 0),(AV.i .u32 0),(AV.i .u32 0)] h2 fun v3 h4=>
aR 256 v3 v1 h4 fun h5=>
aT (aX .xor .u32 (IntKind.max .u32) x0) fun n7=>
J 1 [(1,(AV.s x1)),(5,v3),(6,(AV.i .u32 n7)),(12,(AV.i .i64 (x1.length:Int))),(13,(AV.i .i64 0))] h5
theorem Y17.call {K x0 x1 h} (H:Y17.t (aH h K) x0 x1 h (Y17.J (aH h K))):C Y17.id [(AV.i .u32 x0),(AV.s x1)] h K:=
 gC Y17.J Tryz.func38 Y17.dist H
noncomputable def Y42.body:Code:=(Tryz.f39.body).getD .skip
def Y42.ann:Ann:=(sl [0] (sl [0] lf))
theorem Y42.dist:aJ (places Y42.ann Y42.body)=true:=by kernel_rfl
noncomputable def Y42.J (Q:AV→aA→Prop):JT:=bQ prog C Tryz.f39 Y42.ann Y42.body Q
def Y42.t (Q:AV→aA→Prop) (x0:AV) (h:aA) (J:JT):Prop:=
aP x0 fun v0=>
aB 0 v0 fun v1=>
aC v1 h fun v2=>
asI .i64 v2 fun n3=>
aT (IntKind.wrap .i64 (n3+1)) fun n4=>
aP x0 fun v5=>
aB 0 v5 fun v6=>
aR 1 v6 (AV.i .i64 n4) h fun h7=>
aP x0 fun v9=>
aB 1 v9 fun v10=>
aR 1 v10 (AV.i .i64 0) h7 fun h11=>
C Y14.id [x0] h11 fun v13 h14=>
Q (AV.tu []) h14
theorem Y42.call {K x0 h} (H:Y42.t (aH h K) x0 h (Y42.J (aH h K))):C Y42.id [x0] h K:=
 gC Y42.J Tryz.func39 Y42.dist H
noncomputable def Y25.body:Code:=(Tryz.f40.body).getD .skip
def Y25.ann:Ann:=(sl [0] (.seq 1 [2] lf lf))
theorem Y25.dist:aJ (places Y25.ann Y25.body)=true:=by kernel_rfl
noncomputable def Y25.J (Q:AV→aA→Prop):JT:=bQ prog C Tryz.f40 Y25.ann Y25.body Q
def Y25.p0 (Q:AV→aA→Prop) (x2:Bool) (h:aA):Prop:=Y25.J Q 1 [(2,(AV.b x2))] h
def Y25.t0 (Q:AV→aA→Prop) (x2:Bool) (h:aA) (J:JT):Prop:=
Q (AV.b x2) h
theorem Y25.i0 {Q x2 h} (H:Y25.t0 Q x2 h (Y25.J Q)):Y25.p0 Q x2 h:=gR Y25.J Tryz.f40 Y25.dist [1,1] H
def Y25.t (Q:AV→aA→Prop) (x0:AV) (h:aA) (J:JT):Prop:=
cD prog .neq 55 x0 (AV.p none) fun v1=>
asB v1 fun c2=>
(bif c2 then
(aP x0 fun v3=>
aB 7 v3 fun v4=>
aC v4 h fun v5=>
asB v5 fun c6=>
J 1 [(2,(AV.b c6))] h)
else
(J 1 [(2,(AV.b false))] h))
theorem Y25.call {K x0 h} (H:Y25.t (aH h K) x0 h (Y25.J (aH h K))):C Y25.id [x0] h K:=
 gC Y25.J Tryz.func40 Y25.dist H
noncomputable def Y56.body:Code:=(Tryz.f41.body).getD .skip
def Y56.ann:Ann:=(sl [0] (sq [0] (sl [0,4] (.br (sl [2] lf) lf)) (sl [2] lf)))
theorem Y56.dist:aJ (places Y56.ann Y56.body)=true:=by kernel_rfl
noncomputable def Y56.J (Q:AV→aA→Prop):JT:=bQ prog C Tryz.f41 Y56.ann Y56.body Q
def Y56.t (Q:AV→aA→Prop) (x0:AV) (h:aA) (J:JT):Prop:=
cD prog .eql 55 x0 (AV.p none) fun v1=>
asB v1 fun c2=>
(bif c2 then
(Q (AV.s []) h)
else
(aP x0 fun v6=>
aB 10 v6 fun v7=>
aC v7 h fun v8=>
asS v8 fun l9=>
Q (AV.s l9) h))
theorem Y56.call {K x0 h} (H:Y56.t (aH h K) x0 h (Y56.J (aH h K))):C Y56.id [x0] h K:=
 gC Y56.J Tryz.func41 Y56.dist H
noncomputable def Y50.body:Code:=(Tryz.f42.body).getD .skip
def Y50.ann:Ann:=(sl [0,6] (.br lf (sl [19] bl)))
theorem Y50.dist:aJ (places Y50.ann Y50.body)=true:=by kernel_rfl
noncomputable def Y50.J (Q:AV→aA→Prop):JT:=bQ prog C Tryz.f42 Y50.ann Y50.body Q
def Y50.t (Q:AV→aA→Prop) (x0:AV) (h:aA) (J:JT):Prop:=
aP x0 fun v0=>
aB 0 v0 fun v1=>
aC v1 h fun v2=>
cD prog .eql 65 v2 (AV.p none) fun v3=>
asB v3 fun c4=>
(bif c4 then
(mK x0 h fun v6=>
C Y65.id [v6] h fun v7 h8=>
dR prog 67 v7 h8 fun v9=>
aP x0 fun v10=>
aB 0 v10 fun v11=>
aR 1 v11 v9 h8 fun h12=>
Q (AV.tu []) h12)
else
(aP x0 fun v13=>
aB 0 v13 fun v14=>
aC v14 h fun v15=>
cD prog .neq 65 v15 x0 fun v16=>
asB v16 fun c17=>
(bif c17 then
(False)
else
(Q (AV.tu []) h))))
theorem Y50.call {K x0 h} (H:Y50.t (aH h K) x0 h (Y50.J (aH h K))):C Y50.id [x0] h K:=
 gC Y50.J Tryz.func42 Y50.dist H
noncomputable def Y15.body:Code:=(Tryz.f43.body).getD .skip
def Y15.ann:Ann:=(sl [0,1,2] (.seq 2 [0,1,2] (.seq 1 [0,1,2,29] lf bl) (sl [8,9] (sl [8,9] (sl [6,7] lf)))))
theorem Y15.dist:aJ (places Y15.ann Y15.body)=true:=by kernel_rfl
noncomputable def Y15.J (Q:AV→aA→Prop):JT:=bQ prog C Tryz.f43 Y15.ann Y15.body Q
def Y15.p0 (Q:AV→aA→Prop) (x0:List UInt8) (x1 x2:Int) (x29:Bool) (h:aA):Prop:=Y15.J Q 1 [(0,(AV.s x0)),(1,(AV.i .i64 x1)),(2,(AV.i .i64 x2)),(29,(AV.b x29))] h
def Y15.p1 (Q:AV→aA→Prop) (x0:List UInt8) (x1 x2:Int) (h:aA):Prop:=Y15.J Q 2 [(0,(AV.s x0)),(1,(AV.i .i64 x1)),(2,(AV.i .i64 x2))] h
def Y15.t0 (Q:AV→aA→Prop) (x0:List UInt8) (x1 x2:Int) (x29:Bool) (h:aA) (J:JT):Prop:=
(bif x29 then
(aT (IntKind.wrap .i64 (x1+x2)) fun n9=>
cA (AV.s x0) (some (AV.i .i64 x1)) (some (AV.i .i64 n9)) fun l10=>
J 2 [(0,(AV.s l10)),(1,(AV.i .i64 0)),(2,(AV.i .i64 x2))] h)
else
(J 2 [(0,(AV.s x0)),(1,(AV.i .i64 x1)),(2,(AV.i .i64 x2))] h))
theorem Y15.i0 {Q x0 x1 x2 x29 h} (H:Y15.t0 Q x0 x1 x2 x29 h (Y15.J Q)):Y15.p0 Q x0 x1 x2 x29 h:=gR Y15.J Tryz.f43 Y15.dist [1,0,1] H
def Y15.t1 (Q:AV→aA→Prop) (x0:List UInt8) (x1 x2:Int) (h:aA) (J:JT):Prop:=
C Y16.id [(AV.s x0),(AV.i .i64 x1),(AV.i .i64 x2)] h fun v13 h14=>
bC 0 v13 fun v15=>
bC 1 v13 fun v16=>
asI .i64 v16 fun n17=>
C Y19.id [v15] h14 fun v19 h20=>
C Y20.id [v15] h20 fun v22 h23=>
asI .i64 v22 fun n24=>
Q (AV.tu [(AV.i .i64 n24),(AV.i .i64 n17)]) h23
theorem Y15.i1 {Q x0 x1 x2 h} (H:Y15.t1 Q x0 x1 x2 h (Y15.J Q)):Y15.p1 Q x0 x1 x2 h:=gR Y15.J Tryz.f43 Y15.dist [1,1] H
def Y15.t (Q:AV→aA→Prop) (x0:List UInt8) (x1 x2:Int) (h:aA) (J:JT):Prop:=
C Y24.id [(AV.i .i64 x2)] h fun v1 h2=>
asB v1 fun c3=>
(bif c3 then
((bif (decide ((0:Int)≤x1)) then
((bif (decide ((x1:Int)≤(x0.length:Int))) then
(aT (IntKind.wrap .i64 ((x0.length:Int) - x1)) fun n4=>
J 1 [(0,(AV.s x0)),(1,(AV.i .i64 x1)),(2,(AV.i .i64 x2)),(29,(AV.b (decide ((x2:Int)≤n4))))] h2)
else
(J 1 [(0,(AV.s x0)),(1,(AV.i .i64 x1)),(2,(AV.i .i64 x2)),(29,(AV.b false))] h2)))
else
(J 1 [(0,(AV.s x0)),(1,(AV.i .i64 x1)),(2,(AV.i .i64 x2)),(29,(AV.b false))] h2)))
else
(J 1 [(0,(AV.s x0)),(1,(AV.i .i64 x1)),(2,(AV.i .i64 x2)),(29,(AV.b false))] h2))
theorem Y15.call {K x0 x1 x2 h} (H:Y15.t (aH h K) x0 x1 x2 h (Y15.J (aH h K))):C Y15.id [(AV.s x0),(AV.i .i64 x1),(AV.i .i64 x2)] h K:=
 gC Y15.J Tryz.func43 Y15.dist H
end Go.Proofs.YtfoekpcljhbijaaGreatDoor
namespace Go.Proofs.YtfoekpcljhbijaaGreatDoor
open Go.GAM
variable [XR]
noncomputable def Y9.body:Code:=(Tryz.f54.body).getD .skip
def Y9.ann:Ann:=(sl [0] (sq [0] (sl [0,3] (.one (.loop 1 [0,3] (sl [0,3,4] (sq [0,3] bl (.seq 3 [0,3] (.one (sl [0,2,3] (.one (.seq 2 [0,2,3,9] lf (.br lf (sl [0,3,19] bl)))))) lf)))))) (sl [0,1] lf)))
theorem Y9.dist:aJ (places Y9.ann Y9.body)=true:=by kernel_rfl
noncomputable def Y9.J (Q:AV→aA→Prop):JT:=bQ prog C Tryz.f54 Y9.ann Y9.body Q
def Y9.p1 (Q:AV→aA→Prop) (x0:AV) (x2 x3:Int) (x9:Bool) (h:aA):Prop:=Y9.J Q 2 [(0,x0),(2,(AV.i .i64 x2)),(3,(AV.i .i64 x3)),(9,(AV.b x9))] h
def Y9.p2 (Q:AV→aA→Prop) (x0:AV) (x3:Int) (h:aA):Prop:=Y9.J Q 3 [(0,x0),(3,(AV.i .i64 x3))] h
def Y9.p0 (Q:AV→aA→Prop) (x0:AV) (x3:Int) (h:aA):Prop:=Y9.J Q 1 [(0,x0),(3,(AV.i .i64 x3))] h
def Y9.t1 (Q:AV→aA→Prop) (x0:AV) (x2 x3:Int) (x9:Bool) (h:aA) (J:JT):Prop:=
(bif x9 then
(bR 1 1 [(AV.i .i64 0)] [(0,1,(AV.i .i64 8))] h fun v8 h9=>
b5 none 1 8 x0 v8 h9 fun v10 h11=>
J 3 [(0,v10),(3,(AV.i .i64 x3))] h11)
else
((bif (decide ((x2:Int)<256)) then
(bR 1 1 [(AV.i .i64 0)] [(0,1,(AV.i .i64 9))] h fun v14 h15=>
b5 none 1 8 x0 v14 h15 fun v16 h17=>
J 3 [(0,v16),(3,(AV.i .i64 x3))] h17)
else
(bR 1 1 [(AV.i .i64 0)] [(0,1,(AV.i .i64 7))] h fun v19 h20=>
b5 none 1 8 x0 v19 h20 fun v21 h22=>
J 3 [(0,v21),(3,(AV.i .i64 x3))] h22))))
theorem Y9.i1 {Q x0 x2 x3 x9 h} (H:Y9.t1 Q x0 x2 x3 x9 h (Y9.J Q)):Y9.p1 Q x0 x2 x3 x9 h:=gR Y9.J Tryz.f54 Y9.dist [1,0,1,0,0,1,1,0,0,1,0,1] H
def Y9.t2 (Q:AV→aA→Prop) (x0:AV) (x3:Int) (h:aA) (J:JT):Prop:=
aT (IntKind.wrap .i64 (x3+1)) fun n24=>
J 1 [(0,x0),(3,(AV.i .i64 n24))] h
theorem Y9.i2 {Q x0 x3 h} (H:Y9.t2 Q x0 x3 h (Y9.J Q)):Y9.p2 Q x0 x3 h:=gR Y9.J Tryz.f54 Y9.dist [1,0,1,0,0,1,1,1] H
def Y9.t0 (Q:AV→aA→Prop) (x0:AV) (x3:Int) (h:aA) (J:JT):Prop:=
(bif (decide ((x3:Int)<288)) then
((bif (decide ((x3:Int)<144)) then
(J 2 [(0,x0),(2,(AV.i .i64 x3)),(3,(AV.i .i64 x3)),(9,(AV.b true))] h)
else
(J 2 [(0,x0),(2,(AV.i .i64 x3)),(3,(AV.i .i64 x3)),(9,(AV.b (decide ((280:Int)≤x3))))] h)))
else
(bR 1 1 [(AV.i .i64 0)] [(0,1,(AV.i .i64 5))] h fun v26 h27=>
C Y13.id [v26,(AV.i .i64 32)] h27 fun v28 h29=>
Q (AV.tu [x0,v28]) h29))
theorem Y9.i0 {Q x0 x3 h} (H:Y9.t0 Q x0 x3 h (Y9.J Q)):Y9.p0 Q x0 x3 h:=gH Y9.J Tryz.f54 Y9.dist [1,0,1,0] H
def Y9.t (Q:AV→aA→Prop) (h:aA) (J:JT):Prop:=
J 1 [(0,(AV.sl none 0 none)),(3,(AV.i .i64 0))] h
theorem Y9.call {K h} (H:Y9.t (aH h K) h (Y9.J (aH h K))):C Y9.id [] h K:=
 gC Y9.J Tryz.func54 Y9.dist H
noncomputable def Y19.body:Code:=(Tryz.f66.body).getD .skip
def Y19.ann:Ann:=(sl [0,2,3] (.one (.loop 1 [0,2,3] (sq [0,2,3] (sl [0,2,3,9] bl) (sq [0,2,3] (.one (.ord (nn 0 13 (.eff 13 (.neu 14 (.eff 15 .done .stop)) .stop)))) lf)))))
theorem Y19.dist:aJ (places Y19.ann Y19.body)=true:=by kernel_rfl
noncomputable def Y19.J (Q:AV→aA→Prop):JT:=bQ prog C Tryz.f66 Y19.ann Y19.body Q
def Y19.p0 (Q:AV→aA→Prop) (x0:AV) (x2 x3:Int) (h:aA):Prop:=Y19.J Q 1 [(0,x0),(2,(AV.i .i64 x2)),(3,(AV.i .i64 x3))] h
def Y19.t0 (Q:AV→aA→Prop) (x0:AV) (x2 x3:Int) (h:aA) (J:JT):Prop:=
(bif (decide ((x2:Int)<x3)) then
(aZ 1 x0 (AV.i .i64 x3) h fun v5=>
aC v5 h fun v6=>
asI .u8 v6 fun n7=>
aZ 1 x0 (AV.i .i64 x2) h fun v8=>
aC v8 h fun v9=>
asI .u8 v9 fun n10=>
aZ 1 x0 (AV.i .i64 x2) h fun v11=>
aR 1 v11 (AV.i .u8 n7) h fun h12=>
aZ 1 x0 (AV.i .i64 x3) h12 fun v13=>
aR 1 v13 (AV.i .u8 n10) h12 fun h14=>
aT (IntKind.wrap .i64 (x2+1)) fun n16=>
aT (IntKind.wrap .i64 (x3 - 1)) fun n17=>
J 1 [(0,x0),(2,(AV.i .i64 n16)),(3,(AV.i .i64 n17))] h14)
else
(Q (AV.tu []) h))
theorem Y19.i0 {Q x0 x2 x3 h} (H:Y19.t0 Q x0 x2 x3 h (Y19.J Q)):Y19.p0 Q x0 x2 x3 h:=gH Y19.J Tryz.f66 Y19.dist [1,0] H
def Y19.t (Q:AV→aA→Prop) (x0:AV) (h:aA) (J:JT):Prop:=
b6 x0 fun n0=>
aT (IntKind.wrap .i64 (n0 - 1)) fun n1=>
J 1 [(0,x0),(2,(AV.i .i64 0)),(3,(AV.i .i64 n1))] h
theorem Y19.call {K x0 h} (H:Y19.t (aH h K) x0 h (Y19.J (aH h K))):C Y19.id [x0] h K:=
 gC Y19.J Tryz.func66 Y19.dist H
noncomputable def Y35.body:Code:=(Tryz.f67.body).getD .skip
def Y35.ann:Ann:=(sl [0,1,2] (sl [6] lf))
theorem Y35.dist:aJ (places Y35.ann Y35.body)=true:=by kernel_rfl
noncomputable def Y35.J (Q:AV→aA→Prop):JT:=bQ prog C Tryz.f67 Y35.ann Y35.body Q
def Y35.t (Q:AV→aA→Prop) (x0 x1 x2:Int) (h:aA) (J:JT):Prop:=
aT (mmI false (mmI true x0 x1) x2) fun n1=>
Q (AV.i .i64 n1) h
theorem Y35.call {K x0 x1 x2 h} (H:Y35.t (aH h K) x0 x1 x2 h (Y35.J (aH h K))):C Y35.id [(AV.i .i64 x0),(AV.i .i64 x1),(AV.i .i64 x2)] h K:=
 gC Y35.J Tryz.func67 Y35.dist H
noncomputable def Y29.body:Code:=(Tryz.f68.body).getD .skip
def Y29.ann:Ann:=(sl [1] (sq [1] (sl [1,6] (.br (sl [] (sl [2] lf)) lf)) (sl [2] lf)))
theorem Y29.dist:aJ (places Y29.ann Y29.body)=true:=by kernel_rfl
noncomputable def Y29.J (Q:AV→aA→Prop):JT:=bQ prog C Tryz.f68 Y29.ann Y29.body Q
def Y29.t (Q:AV→aA→Prop) (x0:AV) (h:aA) (J:JT):Prop:=
d7 none x0 h fun v0 h1=>
aC v0 h1 fun v3=>
aP v3 fun v4=>
aB 6 v4 fun v5=>
aC v5 h1 fun v6=>
asB v6 fun c7=>
(bif c7 then
(aC v0 h1 fun v9=>
aP v9 fun v10=>
aB 7 v10 fun v11=>
aR 1 v11 (AV.b true) h1 fun h12=>
Q (AV.i .i64 0) h12)
else
(aC v0 h1 fun v16=>
C Y26.id [v16,(AV.i .i64 3),(AV.fn (.func Y52.id) [] [v0])] h1 fun v17 h18=>
asI .i64 v17 fun n19=>
Q (AV.i .i64 n19) h18))
theorem Y29.call {K x0 h} (H:Y29.t (aH h K) x0 h (Y29.J (aH h K))):C Y29.id [x0] h K:=
 gC Y29.J Tryz.func68 Y29.dist H
noncomputable def Y3.body:Code:=(Tryz.f69.body).getD .skip
def Y3.ann:Ann:=(sl [0,1] (.one (sl [0,1] (.seq 2 [0,5] (sl [0,1,14] (.br (sl [0,6,7,8] (sq [0,6,7] (sl [0,6,7,26] (.br (sl [4] lf) lf)) (sq [0,6] (sl [0,6,28] (.br (sl [4] lf) lf)) lf))) (sq [0] (.ord (nn 0 13 (.eff 13 .done .stop))) (sl [0] (sq [0] (sq [0,58] (.ord (nn 0 9 .done)) (.br (sl [4] lf) lf)) lf))))) (.seq 1 [0,5] lf (sq [0] (sl [0,9] (.seq 3 [0,9,76] lf (.br (sl [4] lf) lf))) (sq [] (.seq 4 [0,89] lf (.br (sl [0,5] lf) lf)) (sl [4] lf))))))))
theorem Y3.dist:aJ (places Y3.ann Y3.body)=true:=by kernel_rfl
noncomputable def Y3.J (Q:AV→aA→Prop):JT:=bQ prog C Tryz.f69 Y3.ann Y3.body Q
def Y3.p2 (Q:AV→aA→Prop) (x0:AV) (x9:Int) (x76:Bool) (h:aA):Prop:=Y3.J Q 3 [(0,x0),(9,(AV.i .i64 x9)),(76,(AV.b x76))] h
def Y3.p3 (Q:AV→aA→Prop) (x0:AV) (x89:Bool) (h:aA):Prop:=Y3.J Q 4 [(0,x0),(89,(AV.b x89))] h
def Y3.p0 (Q:AV→aA→Prop) (x0:AV) (x5:Int) (h:aA):Prop:=Y3.J Q 1 [(0,x0),(5,(AV.i .i64 x5))] h
def Y3.p1 (Q:AV→aA→Prop) (x0:AV) (x5:Int) (h:aA):Prop:=Y3.J Q 2 [(0,x0),(5,(AV.i .i64 x5))] h
def Y3.t2 (Q:AV→aA→Prop) (x0:AV) (x9:Int) (x76:Bool) (h:aA) (J:JT):Prop:=
(bif x76 then
(Q (AV.i .i64 x9) h)
else
(aP x0 fun v82=>
aB 14 v82 fun v83=>
aC v83 h fun v84=>
cD prog .eql 82 v84 (AV.p none) fun v85=>
asB v85 fun c86=>
(bif c86 then
(aP x0 fun v87=>
aB 13 v87 fun v88=>
aC v88 h fun v89=>
asI .i64 v89 fun n90=>
J 4 [(0,x0),(89,(AV.b (decide ((n90:Int)=0))))] h)
else
(J 4 [(0,x0),(89,(AV.b false))] h))))
theorem Y3.i2 {Q x0 x9 x76 h} (H:Y3.t2 Q x0 x9 x76 h (Y3.J Q)):Y3.p2 Q x0 x9 x76 h:=gR Y3.J Tryz.f69 Y3.dist [1,0,1,1,1,0,1,1] H
def Y3.t3 (Q:AV→aA→Prop) (x0:AV) (x89:Bool) (h:aA) (J:JT):Prop:=
(bif x89 then
(J 1 [(0,x0),(5,(AV.i .i64 0))] h)
else
(Q (AV.i .i64 0) h))
theorem Y3.i3 {Q x0 x89 h} (H:Y3.t3 Q x0 x89 h (Y3.J Q)):Y3.p3 Q x0 x89 h:=gR Y3.J Tryz.f69 Y3.dist [1,0,1,1,1,1,0,1] H
def Y3.t0 (Q:AV→aA→Prop) (x0:AV) (x5:Int) (h:aA) (J:JT):Prop:=
aP x0 fun v67=>
aB 15 v67 fun v68=>
aC v68 h fun v69=>
b9 C v69 [(AV.i .i64 x5)] h fun v70 h71=>
asI .i64 v70 fun n72=>
(bif (!decide ((n72:Int)=0)) then
(J 3 [(0,x0),(9,(AV.i .i64 n72)),(76,(AV.b true))] h71)
else
(aP x0 fun v75=>
aB 7 v75 fun v76=>
aC v76 h71 fun v77=>
asB v77 fun c78=>
J 3 [(0,x0),(9,(AV.i .i64 n72)),(76,(AV.b c78))] h71))
theorem Y3.i0 {Q x0 x5 h} (H:Y3.t0 Q x0 x5 h (Y3.J Q)):Y3.p0 Q x0 x5 h:=gR Y3.J Tryz.f69 Y3.dist [1,0,1,1,1] H
def Y3.t1 (Q:AV→aA→Prop) (x0:AV) (x5:Int) (h:aA) (J:JT):Prop:=
J 1 [(0,x0),(5,(AV.i .i64 x5))] h
theorem Y3.i1 {Q x0 x5 h} (H:Y3.t1 Q x0 x5 h (Y3.J Q)):Y3.p1 Q x0 x5 h:=gR Y3.J Tryz.f69 Y3.dist [1,0,1,1] H
def Y3.t (Q:AV→aA→Prop) (x0:AV) (x1:Int) (h:aA) (J:JT):Prop:=
aP x0 fun v2=>
aB 14 v2 fun v3=>
aC v3 h fun v4=>
cD prog .neq 82 v4 (AV.p none) fun v5=>
asB v5 fun c6=>
(bif c6 then
(aP x0 fun v8=>
aB 14 v8 fun v9=>
aC v9 h fun v10=>
C Y11.id [v10,(AV.i .i64 x1)] h fun v11 h12=>
bC 0 v11 fun v13=>
asI .i64 v13 fun n14=>
bC 1 v11 fun v15=>
asB v15 fun c16=>
bC 2 v11 fun v17=>
asI .i64 v17 fun n18=>
(bif (!decide ((n18:Int)=0)) then
(Q (AV.i .i64 2) h12)
else
((bif (!c16) then
(Q (AV.i .i64 0) h12)
else
(J 2 [(0,x0),(5,(AV.i .i64 n14))] h12)))))
else
(aP x0 fun v27=>
aB 11 v27 fun v28=>
aC v28 h fun v29=>
asI .i64 v29 fun n30=>
aP x0 fun v31=>
aB 12 v31 fun v32=>
aC v32 h fun v33=>
asI .i64 v33 fun n34=>
pQ .i64 x1 n34 fun n35=>
aT (aX .or .i64 n30 n35) fun n36=>
aP x0 fun v37=>
aB 11 v37 fun v38=>
aR 1 v38 (AV.i .i64 n36) h fun h39=>
aP x0 fun v41=>
aB 12 v41 fun v42=>
aC v42 h39 fun v43=>
asI .i64 v43 fun n44=>
aT (IntKind.wrap .i64 (n44+1)) fun n45=>
aP x0 fun v46=>
aB 12 v46 fun v47=>
aR 1 v47 (AV.i .i64 n45) h39 fun h48=>
aP x0 fun v50=>
aB 12 v50 fun v51=>
aC v51 h48 fun v52=>
asI .i64 v52 fun n53=>
aP x0 fun v54=>
aB 13 v54 fun v55=>
aC v55 h48 fun v56=>
asI .i64 v56 fun n57=>
(bif (decide ((n53:Int)<n57)) then
(Q (AV.i .i64 0) h48)
else
(aP x0 fun v61=>
aB 11 v61 fun v62=>
aC v62 h48 fun v63=>
asI .i64 v63 fun n64=>
J 2 [(0,x0),(5,(AV.i .i64 n64))] h48))))
theorem Y3.call {K x0 x1 h} (H:Y3.t (aH h K) x0 x1 h (Y3.J (aH h K))):C Y3.id [x0,(AV.i .i64 x1)] h K:=
 gC Y3.J Tryz.func69 Y3.dist H
noncomputable def Y7.body:Code:=(Tryz.f70.body).getD .skip
def Y7.ann:Ann:=(sl [0] (sl [0,1] (sq [0,1] (sl [0,1,5] (.one (.loop 1 [0,1,5] (sl [0,1,5,6] (sq [0,1,5] bl (sq [0,1,5] (.one (sl [0,1,2,5] (sl [0,1,2,3,5] (sq [0,1,2,3,5] (sl [0,1,2,3,5,10] (.one (.loop 2 [0,1,2,3,5,10] (sl [0,1,2,3,5,10,11] (sq [0,1,2,3,5,10] bl (.seq 3 [0,1,2,3,5,10] (.one (sl [0,1,2,3,4,5,10] (sl [0,1,2,3,4,5,10] (sl [0,1,2,3,5,10,17] bl)))) lf)))))) lf)))) lf)))))) (sl [0] lf))))
theorem Y7.dist:aJ (places Y7.ann Y7.body)=true:=by kernel_rfl
noncomputable def Y7.J (Q:AV→aA→Prop):JT:=bQ prog C Tryz.f70 Y7.ann Y7.body Q
def Y7.p2 (Q:AV→aA→Prop) (x0 x1:AV) (x2 x3 x5 x10:Int) (h:aA):Prop:=Y7.J Q 3 [(0,x0),(1,x1),(2,(AV.i .i64 x2)),(3,(AV.i .u32 x3)),(5,(AV.i .i64 x5)),(10,(AV.i .i64 x10))] h
def Y7.p1 (Q:AV→aA→Prop) (x0 x1:AV) (x2 x3 x5 x10:Int) (h:aA):Prop:=Y7.J Q 2 [(0,x0),(1,x1),(2,(AV.i .i64 x2)),(3,(AV.i .u32 x3)),(5,(AV.i .i64 x5)),(10,(AV.i .i64 x10))] h
def Y7.p0 (Q:AV→aA→Prop) (x0 x1:AV) (x5:Int) (h:aA):Prop:=Y7.J Q 1 [(0,x0),(1,x1),(5,(AV.i .i64 x5))] h
def Y7.t2 (Q:AV→aA→Prop) (x0 x1:AV) (x2 x3 x5 x10:Int) (h:aA) (J:JT):Prop:=
aT (IntKind.wrap .i64 (x10+1)) fun n23=>
J 2 [(0,x0),(1,x1),(2,(AV.i .i64 x2)),(3,(AV.i .u32 x3)),(5,(AV.i .i64 x5)),(10,(AV.i .i64 n23))] h
theorem Y7.i2 {Q x0 x1 x2 x3 x5 x10 h} (H:Y7.t2 Q x0 x1 x2 x3 x5 x10 h (Y7.J Q)):Y7.p2 Q x0 x1 x2 x3 x5 x10 h:=gR Y7.J Tryz.f70 Y7.dist [1,1,0,1,0,0,1,1,0,0,1,1,0,1,0,0,1,1,1] H
def Y7.t1 (Q:AV→aA→Prop) (x0 x1:AV) (x2 x3 x5 x10:Int) (h:aA) (J:JT):Prop:=
(bif (decide ((x10:Int)<8)) then
(xW .u32 x3 1 fun n17=>
(bif (decide (((aX .and .u32 x3 1):Int)=1)) then
(aT (aX .xor .u32 n17 3988292384) fun n20=>
J 3 [(0,x0),(1,x1),(2,(AV.i .i64 x2)),(3,(AV.i .u32 n20)),(5,(AV.i .i64 x5)),(10,(AV.i .i64 x10))] h)
else
(J 3 [(0,x0),(1,x1),(2,(AV.i .i64 x2)),(3,(AV.i .u32 n17)),(5,(AV.i .i64 x5)),(10,(AV.i .i64 x10))] h)))
else
(bJ 256 1 x1 (AV.i .i64 x2) fun v25=>
aR 1 v25 (AV.i .u32 x3) h fun h26=>
aT (IntKind.wrap .i64 (x5+1)) fun n28=>
J 1 [(0,x0),(1,x1),(5,(AV.i .i64 n28))] h26))
theorem Y7.i1 {Q x0 x1 x2 x3 x5 x10 h} (H:Y7.t1 Q x0 x1 x2 x3 x5 x10 h (Y7.J Q)):Y7.p1 Q x0 x1 x2 x3 x5 x10 h:=gH Y7.J Tryz.f70 Y7.dist [1,1,0,1,0,0,1,1,0,0,1,1,0,1,0] H
def Y7.t0 (Q:AV→aA→Prop) (x0 x1:AV) (x5:Int) (h:aA) (J:JT):Prop:=
(bif (decide ((x5:Int)<256)) then
(J 2 [(0,x0),(1,x1),(2,(AV.i .i64 x5)),(3,(AV.i .u32 (IntKind.wrap .u32 x5))),(5,(AV.i .i64 x5)),(10,(AV.i .i64 0))] h)
else
(dF 256 x1 h fun v30=>
aR 256 x0 v30 h fun h31=>
dF 256 x0 h31 fun v33=>
Q v33 h31))
theorem Y7.i0 {Q x0 x1 x5 h} (H:Y7.t0 Q x0 x1 x5 h (Y7.J Q)):Y7.p0 Q x0 x1 x5 h:=gH Y7.J Tryz.f70 Y7.dist [1,1,0,1,0] H
def Y7.t (Q:AV→aA→Prop) (h:aA) (J:JT):Prop:=
dV none [(AV.i .u32 0),(AV.i .u32 0),(AV.i .u32 0),(AV.i .u32 0),(AV.i .u32 0),(AV.i .u32 0),(AV.i .u32 0),(AV.i .u32 0),(AV.i .u32 0),(AV.i .u32 0),(AV.i .u32 0),(AV.i .u32 0),(AV.i .u32 0),(AV.i .u32 0),(AV.i .u32 0),(AV.i .u32 0),(AV.i .u32 0),(AV.i .u32 0),(AV.i .u32 0),(AV.i .u32 0),(AV.i .u32 0),(AV.i .u32 0),(AV.i .u32 0),(AV.i .u32 0),(AV.i .u32 0),(AV.i .u32 0),(AV.i .u32 0),(AV.i .u32 0),(AV.i .u32 0),(AV.i .u32 0),(AV.i .u32 0),(AV.i .u32 0),(AV.i .u32 0),(AV.i .u32 0),(AV.i .u32 0),(AV.i .u32 0),(AV.i .u32 0),(AV.i .u32 0),(AV.i .u32 0),(AV.i .u32 0),(AV.i .u32 0),(AV.i .u32 0),(AV.i .u32 0),(AV.i .u32 0),(AV.i .u32 0),(AV.i .u32 0),(AV.i .u32 0),(AV.i .u32 0),(AV.i .u32 0),(AV.i .u32 0),(AV.i .u32 0),(AV.i .u32 0),(AV.i .u32 0),(AV.i .u32 0),(AV.i .u32 0),(AV.i .u32 0),(AV.i .u32 0),(AV.i .u32 0),(AV.i .u32 0),(AV.i .u32 0),(AV.i .u32 0),(AV.i .u32 0),(AV.i .u32 0),(AV.i .u32 0),(AV.i .u32 0),(AV.i .u32 0),(AV.i .u32 0),(AV.i .u32 0),(AV.i .u32 0),(AV.i .u32 0),(AV.i .u32 0),(AV.i .u32 0),(AV.i .u32 0),(AV.i .u32 0),(AV.i .u32 0),(AV.i .u32 0),(AV.i .u32 0),(AV.i .u32 0),(AV.i .u32 0),(AV.i .u32 0),(AV.i .u32 0),(AV.i .u32 0),(AV.i .u32 0),(AV.i .u32 0),(AV.i .u32 0),(AV.i .u32 0),(AV.i .u32 0),(AV.i .u32 0),(AV.i .u32 0),(AV.i .u32 0),(AV.i .u32 0),(AV.i .u32 0),(AV.i .u32 0),(AV.i .u32 0),(AV.i .u32 0),(AV.i .u32 0),(AV.i .u32 0),(AV.i .u32 0),(AV.i .u32 0),(AV.i .u32 0),(AV.i .u32 0),(AV.i .u32 0),(AV.i .u32 0),(AV.i .u32 0),(AV.i .u32 0),(AV.i .u32 0),(AV.i .u32 0),(AV.i .u32 0),(AV.i .u32 0),(AV.i .u32 0),(AV.i .u32 0),(AV.i .u32 0),(AV.i .u32 0),(AV.i .u32 0),(AV.i .u32 0),(AV.i .u32 0),(AV.i .u32 0),(AV.i .u32 0),(AV.i .u32 0),(AV.i .u32 0),(AV.i .u32 0),(AV.i .u32 0),(AV.i .u32 0),(AV.i .u32 0),(AV.i .u32 0),(AV.i .u32 0),(AV.i .u32 0),(AV.i .u32 0),(AV.i .u32 0),(AV.i .u32 0),(AV.i .u32 0),(AV.i .u32 0),(AV.i .u32 0),(AV.i .u32 0),(AV.i .u32 0),(AV.i .u32 0),(AV.i .u32 0),(AV.i .u32 0),(AV.i .u32 0),(AV.i .u32 0),(AV.i .u32 0),(AV.i .u32 0),(AV.i .u32 0),(AV.i .u32 0),(AV.i .u32 0),(AV.i .u32 0),(AV.i .u32 0),(AV.i .u32 0),(AV.i .u32 0),(AV.i .u32 0),(AV.i .u32 0),(AV.i .u32 0),(AV.i .u32 0),(AV.i .u32 0),(AV.i .u32 0),(AV.i .u32 0),(AV.i .u32 0),(AV.i .u32 0),(AV.i .u32 0),(AV.i .u32 0),(AV.i .u32 0),(AV.i .u32 0),(AV.i .u32 0),(AV.i .u32 0),(AV.i .u32 0),(AV.i .u32 0),(AV.i .u32 0),(AV.i .u32 0),(AV.i .u32 0),(AV.i .u32 0),(AV.i .u32 0),(AV.i .u32 0),(AV.i .u32 0),(AV.i .u32 0),(AV.i .u32 0),(AV.i .u32 0),(AV.i .u32 0),(AV.i .u32 0),(AV.i .u32 0),(AV.i .u32 0),(AV.i .u32 0),(AV.i .u32 0),(AV.i .u32 0),(AV.i .u32 0),(AV.i .u32 0),(AV.i .u32 0),(AV.i .u32 0),(AV.i .u32 0),(AV.i .u32 0),(AV.i .u32 0),(AV.i .u32 0),(AV.i .u32 0),(AV.i .u32 0),(AV.i .u32 0),(AV.i .u32 0),(AV.i .u32 0),(AV.i .u32 0),(AV.i .u32 0),(AV.i .u32 0),(AV.i .u32 0),(AV.i .u32 0),(AV.i .u32 0),(AV.i .u32 0),(AV.i .u32 0),(AV.i .u32 0),(AV.i .u32 0),(AV.i .u32 0),(AV.i .u32 0),(AV.i .u32 0),(AV.i .u32 0),(AV.i .u32 0),(AV.i .u32 0),(AV.i .u32 0),(AV.i .u32 0),(AV.i .u32 0),(AV.i .u32 0),(AV.i .u32 0),(AV.i .u32 0),(AV.i .u32 0),(AV.i .u32 0),(AV.i .u32 0),(AV.i .u32 0),(AV.i .u32 0),(AV.i .u32 0),(AV.i .u32 0),(AV.i .u32 0),(AV.i .u32 0),(AV.i .u32 0),(AV.i .u32 0),(AV.i .u32 0),(AV.i .u32 0),(AV.i .u32 0),(AV.i .u32 0),(AV.i .u32 0),(AV.i .u32 0),(AV.i .u32 0),(AV.i .u32 0),(AV.i .u32 0),(AV.i .u32 0),(AV.i .u32 0),(AV.i .u32 0),(AV.i .u32 0),(AV.i .u32 0),(AV.i .u32 0),(AV.i .u32 0),(AV.i .u32 0),(AV.i .u32 0),(AV.i .u32 0),(AV.i .u32 0),(AV.i .u32 0),(AV.i .u32 0),(AV.i .u32 0),(AV.i .u32 0),(AV.i .u32 0),(AV.i .u32 0),(AV.i .u32 0)] h fun v0 h1=>
dV none [(AV.i .u32 0),(AV.i .u32 0),(AV.i .u32 0),(AV.i .u32 0),(AV.i .u32 0),(AV.i .u32 0),(AV.i .u32 0),(AV.i .u32 0),(AV.i .u32 0),(AV.i .u32 0),(AV.i .u32 0),(AV.i .u32 0),(AV.i .u32 0),(AV.i .u32 0),(AV.i .u32 0),(AV.i .u32 0),(AV.i .u32 0),(AV.i .u32 0),(AV.i .u32 0),(AV.i .u32 0),(AV.i .u32 0),(AV.i .u32 0),(AV.i .u32 0),(AV.i .u32 0),(AV.i .u32 0),(AV.i .u32 0),(AV.i .u32 0),(AV.i .u32 0),(AV.i .u32 0),(AV.i .u32 0),(AV.i .u32 0),(AV.i .u32 0),(AV.i .u32 0),(AV.i .u32 0),(AV.i .u32 0),(AV.i .u32 0),(AV.i .u32 0),(AV.i .u32 0),(AV.i .u32 0),(AV.i .u32 0),(AV.i .u32 0),(AV.i .u32 0),(AV.i .u32 0),(AV.i .u32 0),(AV.i .u32 0),(AV.i .u32 0),(AV.i .u32 0),(AV.i .u32 0),(AV.i .u32 0),(AV.i .u32 0),(AV.i .u32 0),(AV.i .u32 0),(AV.i .u32 0),(AV.i .u32 0),(AV.i .u32 0),(AV.i .u32 0),(AV.i .u32 0),(AV.i .u32 0),(AV.i .u32 0),(AV.i .u32 0),(AV.i .u32 0),(AV.i .u32 0),(AV.i .u32 0),(AV.i .u32 0),(AV.i .u32 0),(AV.i .u32 0),(AV.i .u32 0),(AV.i .u32 0),(AV.i .u32 0),(AV.i .u32 0),(AV.i .u32 0),(AV.i .u32 0),(AV.i .u32 0),(AV.i .u32 0),(AV.i .u32 0),(AV.i .u32 0),(AV.i .u32 0),(AV.i .u32 0),(AV.i .u32 0),(AV.i .u32 0),(AV.i .u32 0),(AV.i .u32 0),(AV.i .u32 0),(AV.i .u32 0),(AV.i .u32 0),(AV.i .u32 0),(AV.i .u32 0),(AV.i .u32 0),(AV.i .u32 0),(AV.i .u32 0),(AV.i .u32 0),(AV.i .u32 0),(AV.i .u32 0),(AV.i .u32 0),(AV.i .u32 0),(AV.i .u32 0),(AV.i .u32 0),(AV.i .u32 0),(AV.i .u32 0),(AV.i .u32 0),(AV.i .u32 0),(AV.i .u32 0),(AV.i .u32 0),(AV.i .u32 0),(AV.i .u32 0),(AV.i .u32 0),(AV.i .u32 0),(AV.i .u32 0),(AV.i .u32 0),(AV.i .u32 0),(AV.i .u32 0),(AV.i .u32 0),(AV.i .u32 0),(AV.i .u32 0),(AV.i .u32 0),(AV.i .u32 0),(AV.i .u32 0),(AV.i .u32 0),(AV.i .u32 0),(AV.i .u32 0),(AV.i .u32 0),(AV.i .u32 0),(AV.i .u32 0),(AV.i .u32 0),(AV.i .u32 0),(AV.i .u32 0),(AV.i .u32 0),(AV.i .u32 0),(AV.i .u32 0),(AV.i .u32 0),(AV.i .u32 0),(AV.i .u32 0),(AV.i .u32 0),(AV.i .u32 0),(AV.i .u32 0),(AV.i .u32 0),(AV.i .u32 0),(AV.i .u32 0),(AV.i .u32 0),(AV.i .u32 0),(AV.i .u32 0),(AV.i .u32 0),(AV.i .u32 0),(AV.i .u32 0),(AV.i .u32 0),(AV.i .u32 0),(AV.i .u32 0),(AV.i .u32 0),(AV.i .u32 0),(AV.i .u32 0),(AV.i .u32 0),(AV.i .u32 0),(AV.i .u32 0),(AV.i .u32 0),(AV.i .u32 0),(AV.i .u32 0),(AV.i .u32 0),(AV.i .u32 0),(AV.i .u32 0),(AV.i .u32 0),(AV.i .u32 0),(AV.i .u32 0),(AV.i .u32 0),(AV.i .u32 0),(AV.i .u32 0),(AV.i .u32 0),(AV.i .u32 0),(AV.i .u32 0),(AV.i .u32 0),(AV.i .u32 0),(AV.i .u32 0),(AV.i .u32 0),(AV.i .u32 0),(AV.i .u32 0),(AV.i .u32 0),(AV.i .u32 0),(AV.i .u32 0),(AV.i .u32 0),(AV.i .u32 0),(AV.i .u32 0),(AV.i .u32 0),(AV.i .u32 0),(AV.i .u32 0),(AV.i .u32 0),(AV.i .u32 0),(AV.i .u32 0),(AV.i .u32 0),(AV.i .u32 0),(AV.i .u32 0),(AV.i .u32 0),(AV.i .u32 0),(AV.i .u32 0),(AV.i .u32 0),(AV.i .u32 0),(AV.i .u32 0),(AV.i .u32 0),(AV.i .u32 0),(AV.i .u32 0),(AV.i .u32 0),(AV.i .u32 0),(AV.i .u32 0),(AV.i .u32 0),(AV.i .u32 0),(AV.i .u32 0),(AV.i .u32 0),(AV.i .u32 0),(AV.i .u32 0),(AV.i .u32 0),(AV.i .u32 0),(AV.i .u32 0),(AV.i .u32 0),(AV.i .u32 0),(AV.i .u32 0),(AV.i .u32 0),(AV.i .u32 0),(AV.i .u32 0),(AV.i .u32 0),(AV.i .u32 0),(AV.i .u32 0),(AV.i .u32 0),(AV.i .u32 0),(AV.i .u32 0),(AV.i .u32 0),(AV.i .u32 0),(AV.i .u32 0),(AV.i .u32 0),(AV.i .u32 0),(AV.i .u32 0),(AV.i .u32 0),(AV.i .u32 0),(AV.i .u32 0),(AV.i .u32 0),(AV.i .u32 0),(AV.i .u32 0),(AV.i .u32 0),(AV.i .u32 0),(AV.i .u32 0),(AV.i .u32 0),(AV.i .u32 0),(AV.i .u32 0),(AV.i .u32 0),(AV.i .u32 0),(AV.i .u32 0),(AV.i .u32 0),(AV.i .u32 0),(AV.i .u32 0),(AV.i .u32 0),(AV.i .u32 0),(AV.i .u32 0),(AV.i .u32 0),(AV.i .u32 0),(AV.i .u32 0),(AV.i .u32 0),(AV.i .u32 0),(AV.i .u32 0),(AV.i .u32 0)] h1 fun v3 h4=>
J 1 [(0,v0),(1,v3),(5,(AV.i .i64 0))] h4
theorem Y7.call {K h} (H:Y7.t (aH h K) h (Y7.J (aH h K))):C Y7.id [] h K:=
 gC Y7.J Tryz.func70 Y7.dist H
noncomputable def Y14.body:Code:=(Tryz.f71.body).getD .skip
def Y14.ann:Ann:=(.one (.loop 1 [0] (.one (sl [0,2] (.seq 2 [0,2] (sl [0,2,6] (.one (sl [0,2,6,7] (.br lf (sl [0,2,6,15] (.br lf (sl [0,2,6,22] (.br lf (sl [0,2,6,30] (.br lf (sl [0,2,38] bl))))))))))) (sq [0] (sl [0,46] bl) lf))))))
theorem Y14.dist:aJ (places Y14.ann Y14.body)=true:=by kernel_rfl
noncomputable def Y14.J (Q:AV→aA→Prop):JT:=bQ prog C Tryz.f71 Y14.ann Y14.body Q
def Y14.p1 (Q:AV→aA→Prop) (x0:AV) (x2:Bool) (h:aA):Prop:=Y14.J Q 2 [(0,x0),(2,(AV.b x2))] h
def Y14.p0 (Q:AV→aA→Prop) (x0:AV) (h:aA):Prop:=Y14.J Q 1 [(0,x0)] h
def Y14.t1 (Q:AV→aA→Prop) (x0:AV) (x2:Bool) (h:aA) (J:JT):Prop:=
(bif x2 then
(Q (AV.tu []) h)
else
(aP x0 fun v40=>
aB 0 v40 fun v41=>
aC v41 h fun v42=>
asI .i64 v42 fun n43=>
aT (IntKind.wrap .i64 (n43+1)) fun n44=>
aP x0 fun v45=>
aB 0 v45 fun v46=>
aR 1 v46 (AV.i .i64 n44) h fun h47=>
J 1 [(0,x0)] h47))
theorem Y14.i1 {Q x0 x2 h} (H:Y14.t1 Q x0 x2 h (Y14.J Q)):Y14.p1 Q x0 x2 h:=gR Y14.J Tryz.f71 Y14.dist [0,0,0,1,1] H
def Y14.t0 (Q:AV→aA→Prop) (x0:AV) (h:aA) (J:JT):Prop:=
aP x0 fun v1=>
aB 0 v1 fun v2=>
aC v2 h fun v3=>
asI .i64 v3 fun n4=>
(bif (decide ((n4:Int)=3)) then
(aP x0 fun v7=>
aB 2 v7 fun v8=>
aC v8 h fun v9=>
asI .i64 v9 fun n10=>
J 2 [(0,x0),(2,(AV.b (!decide (((aX .and .i64 n10 4):Int)=0))))] h)
else
((bif (decide ((n4:Int)=4)) then
(aP x0 fun v13=>
aB 3 v13 fun v14=>
aC v14 h fun v15=>
asI .i64 v15 fun n16=>
J 2 [(0,x0),(2,(AV.b (decide ((0:Int)<n16))))] h)
else
((bif (decide ((n4:Int)=5)) then
(aP x0 fun v19=>
aB 2 v19 fun v20=>
aC v20 h fun v21=>
asI .i64 v21 fun n22=>
J 2 [(0,x0),(2,(AV.b (!decide (((aX .and .i64 n22 8):Int)=0))))] h)
else
((bif (decide ((n4:Int)=6)) then
(aP x0 fun v25=>
aB 2 v25 fun v26=>
aC v26 h fun v27=>
asI .i64 v27 fun n28=>
aT (aX .and .i64 n28 16) fun n29=>
J 2 [(0,x0),(2,(AV.b (!decide ((n29:Int)=0))))] h)
else
((bif (decide ((n4:Int)=7)) then
(aP x0 fun v32=>
aB 2 v32 fun v33=>
aC v33 h fun v34=>
asI .i64 v34 fun n35=>
J 2 [(0,x0),(2,(AV.b (!decide (((aX .and .i64 n35 2):Int)=0))))] h)
else
(J 2 [(0,x0),(2,(AV.b true))] h))))))))))
theorem Y14.i0 {Q x0 h} (H:Y14.t0 Q x0 h (Y14.J Q)):Y14.p0 Q x0 h:=gH Y14.J Tryz.f71 Y14.dist [0] H
def Y14.t (Q:AV→aA→Prop) (x0:AV) (h:aA) (J:JT):Prop:=
J 1 [(0,x0)] h
theorem Y14.call {K x0 h} (H:Y14.t (aH h K) x0 h (Y14.J (aH h K))):C Y14.id [x0] h K:=
 gC Y14.J Tryz.func71 Y14.dist H
noncomputable def Y24.body:Code:=(Tryz.f73.body).getD .skip
def Y24.ann:Ann:=(sl [0] (.seq 1 [2] lf lf))
theorem Y24.dist:aJ (places Y24.ann Y24.body)=true:=by kernel_rfl
noncomputable def Y24.J (Q:AV→aA→Prop):JT:=bQ prog C Tryz.f73 Y24.ann Y24.body Q
def Y24.p0 (Q:AV→aA→Prop) (x2:Bool) (h:aA):Prop:=Y24.J Q 1 [(2,(AV.b x2))] h
def Y24.t0 (Q:AV→aA→Prop) (x2:Bool) (h:aA) (J:JT):Prop:=
Q (AV.b x2) h
theorem Y24.i0 {Q x2 h} (H:Y24.t0 Q x2 h (Y24.J Q)):Y24.p0 Q x2 h:=gR Y24.J Tryz.f73 Y24.dist [1,1] H
def Y24.t (Q:AV→aA→Prop) (x0:Int) (h:aA) (J:JT):Prop:=
(bif (decide ((1:Int)≤x0)) then
(J 1 [(2,(AV.b (decide ((x0:Int)≤7))))] h)
else
(J 1 [(2,(AV.b false))] h))
theorem Y24.call {K x0 h} (H:Y24.t (aH h K) x0 h (Y24.J (aH h K))):C Y24.id [(AV.i .i64 x0)] h K:=
 gC Y24.J Tryz.func73 Y24.dist H
noncomputable def Y16.body:Code:=(Tryz.f74.body).getD .skip
def Y16.ann:Ann:=(sl [0,1,2] (sq [0,1,2] (.one (.seq 1 [0,1,2,9] lf (.br (sl [6,7] lf) (.seq 2 [0,1,2,17] lf (.br (sl [6,7] lf) lf))))) (sl [1,2,8] (sl [6,7] lf))))
theorem Y16.dist:aJ (places Y16.ann Y16.body)=true:=by kernel_rfl
noncomputable def Y16.J (Q:AV→aA→Prop):JT:=bQ prog C Tryz.f74 Y16.ann Y16.body Q
def Y16.p1 (Q:AV→aA→Prop) (x0:List UInt8) (x1 x2:Int) (x17:Bool) (h:aA):Prop:=Y16.J Q 2 [(0,(AV.s x0)),(1,(AV.i .i64 x1)),(2,(AV.i .i64 x2)),(17,(AV.b x17))] h
def Y16.p0 (Q:AV→aA→Prop) (x0:List UInt8) (x1 x2:Int) (x9:Bool) (h:aA):Prop:=Y16.J Q 1 [(0,(AV.s x0)),(1,(AV.i .i64 x1)),(2,(AV.i .i64 x2)),(9,(AV.b x9))] h
def Y16.t1 (Q:AV→aA→Prop) (x0:List UInt8) (x1 x2:Int) (x17:Bool) (h:aA) (J:JT):Prop:=
(bif x17 then
(Q (AV.tu [(AV.sl none 0 none),(AV.i .i64 1)]) h)
else
(fW (AV.s x0) h fun v12 h13=>
aT (IntKind.wrap .i64 (x1+x2)) fun n15=>
aT (IntKind.wrap .i64 (x1+x2)) fun n16=>
bZ 1 v12 (some (AV.i .i64 x1)) (some (AV.i .i64 n15)) (some (AV.i .i64 n16)) h13 fun v17=>
Q (AV.tu [v17,(AV.i .i64 0)]) h13))
theorem Y16.i1 {Q x0 x1 x2 x17 h} (H:Y16.t1 Q x0 x1 x2 x17 h (Y16.J Q)):Y16.p1 Q x0 x1 x2 x17 h:=gR Y16.J Tryz.f74 Y16.dist [1,0,0,1,1,1] H
def Y16.t0 (Q:AV→aA→Prop) (x0:List UInt8) (x1 x2:Int) (x9:Bool) (h:aA) (J:JT):Prop:=
(bif x9 then
(Q (AV.tu [(AV.sl none 0 none),(AV.i .i64 4)]) h)
else
((bif (decide (((x0.length:Int):Int)<x1)) then
(J 2 [(0,(AV.s x0)),(1,(AV.i .i64 x1)),(2,(AV.i .i64 x2)),(17,(AV.b true))] h)
else
(aT (IntKind.wrap .i64 ((x0.length:Int) - x1)) fun n8=>
J 2 [(0,(AV.s x0)),(1,(AV.i .i64 x1)),(2,(AV.i .i64 x2)),(17,(AV.b (decide ((n8:Int)<x2))))] h))))
theorem Y16.i0 {Q x0 x1 x2 x9 h} (H:Y16.t0 Q x0 x1 x2 x9 h (Y16.J Q)):Y16.p0 Q x0 x1 x2 x9 h:=gR Y16.J Tryz.f74 Y16.dist [1,0,0,1] H
def Y16.t (Q:AV→aA→Prop) (x0:List UInt8) (x1 x2:Int) (h:aA) (J:JT):Prop:=
C Y24.id [(AV.i .i64 x2)] h fun v1 h2=>
asB v1 fun c3=>
(bif (!c3) then
(J 1 [(0,(AV.s x0)),(1,(AV.i .i64 x1)),(2,(AV.i .i64 x2)),(9,(AV.b true))] h2)
else
(J 1 [(0,(AV.s x0)),(1,(AV.i .i64 x1)),(2,(AV.i .i64 x2)),(9,(AV.b (decide ((x1:Int)<0))))] h2))
theorem Y16.call {K x0 x1 x2 h} (H:Y16.t (aH h K) x0 x1 x2 h (Y16.J (aH h K))):C Y16.id [(AV.s x0),(AV.i .i64 x1),(AV.i .i64 x2)] h K:=
 gC Y16.J Tryz.func74 Y16.dist H
noncomputable def Y20.body:Code:=(Tryz.f75.body).getD .skip
def Y20.ann:Ann:=(sl [0] (sl [0,3] (sq [3] (sl [3,6,7,8] (.one (.loop 1 [3,6,7,8] (sl [3,6,7,8,9] (sq [3,6,7,8] bl (sq [3,6,7,8] (.one (sl [3,5,6,7,8] lf)) lf)))))) (sl [2] lf))))
theorem Y20.dist:aJ (places Y20.ann Y20.body)=true:=by kernel_rfl
noncomputable def Y20.J (Q:AV→aA→Prop):JT:=bQ prog C Tryz.f75 Y20.ann Y20.body Q
def Y20.p0 (Q:AV→aA→Prop) (x3:Int) (x6:AV) (x7 x8:Int) (h:aA):Prop:=Y20.J Q 1 [(3,(AV.i .i64 x3)),(6,x6),(7,(AV.i .i64 x7)),(8,(AV.i .i64 x8))] h
def Y20.t0 (Q:AV→aA→Prop) (x3:Int) (x6:AV) (x7 x8:Int) (h:aA) (J:JT):Prop:=
(bif (decide ((x8:Int)<x7)) then
(aZ 1 x6 (AV.i .i64 x8) h fun v7=>
aC v7 h fun v8=>
asI .u8 v8 fun n9=>
pQ .i64 x3 8 fun n11=>
aT (aX .or .i64 n11 (IntKind.wrap .i64 n9)) fun n12=>
aT (IntKind.wrap .i64 (x8+1)) fun n14=>
J 1 [(3,(AV.i .i64 n12)),(6,x6),(7,(AV.i .i64 x7)),(8,(AV.i .i64 n14))] h)
else
(Q (AV.i .i64 x3) h))
theorem Y20.i0 {Q x3 x6 x7 x8 h} (H:Y20.t0 Q x3 x6 x7 x8 h (Y20.J Q)):Y20.p0 Q x3 x6 x7 x8 h:=gH Y20.J Tryz.f75 Y20.dist [1,1,0,1,0] H
def Y20.t (Q:AV→aA→Prop) (x0:AV) (h:aA) (J:JT):Prop:=
b6 x0 fun n2=>
J 1 [(3,(AV.i .i64 0)),(6,x0),(7,(AV.i .i64 n2)),(8,(AV.i .i64 0))] h
theorem Y20.call {K x0 h} (H:Y20.t (aH h K) x0 h (Y20.J (aH h K))):C Y20.id [x0] h K:=
 gC Y20.J Tryz.func75 Y20.dist H
end Go.Proofs.YtfoekpcljhbijaaGreatDoor
namespace Go.Proofs.YtfoekpcljhbijaaGreatDoor
open Go.GAM
variable [XR]
noncomputable def Y13.body:Code:=(Tryz.f83.body).getD .skip
def Y13.ann:Ann:=(sl [0,1] (sq [0,1] (sl [0,1,10] bl) (sl [0,5,6] (sq [0,6] (.seq 1 [0,6,26] lf bl) (sl [0,7] (sl [7,8] (sq [7] (.one (.loop 2 [7,8] (sq [7,8] (sl [7,8,37] bl) (.one (.ord (nn 0 7 (.eff 7 (.neu 8 (.eff 9 .done .stop)) .stop))))))) (sl [4] lf))))))))
theorem Y13.dist:aJ (places Y13.ann Y13.body)=true:=by kernel_rfl
noncomputable def Y13.J (Q:AV→aA→Prop):JT:=bQ prog C Tryz.f83 Y13.ann Y13.body Q
def Y13.p0 (Q:AV→aA→Prop) (x0:AV) (x6:Int) (x26:Bool) (h:aA):Prop:=Y13.J Q 1 [(0,x0),(6,(AV.i .u64 x6)),(26,(AV.b x26))] h
def Y13.p1 (Q:AV→aA→Prop) (x7:AV) (x8:Int) (h:aA):Prop:=Y13.J Q 2 [(7,x7),(8,(AV.i .i64 x8))] h
def Y13.t0 (Q:AV→aA→Prop) (x0:AV) (x6:Int) (x26:Bool) (h:aA) (J:JT):Prop:=
(bif x26 then
(False)
else
(wN 1 8 [(AV.i .i64 0)] (AV.i .i64 (IntKind.wrap .i64 x6)) (AV.i .i64 (IntKind.wrap .i64 x6)) h fun v14 h15=>
xQ 1 v14 x0 h15 fun v17 h18=>
asI .i64 v17 fun n19=>
J 2 [(7,v14),(8,(AV.i .i64 n19))] h18))
theorem Y13.i0 {Q x0 x6 x26 h} (H:Y13.t0 Q x0 x6 x26 h (Y13.J Q)):Y13.p0 Q x0 x6 x26 h:=gR Y13.J Tryz.f83 Y13.dist [1,1,1,0,1] H
def Y13.t1 (Q:AV→aA→Prop) (x7:AV) (x8:Int) (h:aA) (J:JT):Prop:=
b6 x7 fun n21=>
(bif (decide ((x8:Int)<n21)) then
(bZ 1 x7 (some (AV.i .i64 x8)) none none h fun v25=>
bZ 1 x7 none (some (AV.i .i64 x8)) none h fun v26=>
xQ 1 v25 v26 h fun v27 h28=>
asI .i64 v27 fun n29=>
aT (IntKind.wrap .i64 (x8+n29)) fun n30=>
J 2 [(7,x7),(8,(AV.i .i64 n30))] h28)
else
(Q x7 h))
theorem Y13.i1 {Q x7 x8 h} (H:Y13.t1 Q x7 x8 h (Y13.J Q)):Y13.p1 Q x7 x8 h:=gH Y13.J Tryz.f83 Y13.dist [1,1,1,1,1,1,0,0] H
def Y13.t (Q:AV→aA→Prop) (x0:AV) (x1:Int) (h:aA) (J:JT):Prop:=
(bif (decide ((x1:Int)<0)) then
(False)
else
(b6 x0 fun n3=>
C Y59.id [(AV.i .u64 (IntKind.wrap .u64 n3)),(AV.i .u64 (IntKind.wrap .u64 x1))] h fun v4 h5=>
bC 0 v4 fun v6=>
asI .u64 v6 fun n7=>
bC 1 v4 fun v8=>
asI .u64 v8 fun n9=>
(bif (decide ((0:Int)<n7)) then
(J 1 [(0,x0),(6,(AV.i .u64 n9)),(26,(AV.b true))] h5)
else
(J 1 [(0,x0),(6,(AV.i .u64 n9)),(26,(AV.b (decide ((9223372036854775807:Int)<n9))))] h5))))
theorem Y13.call {K x0 x1 h} (H:Y13.t (aH h K) x0 x1 h (Y13.J (aH h K))):C Y13.id [x0,(AV.i .i64 x1)] h K:=
 gC Y13.J Tryz.func83 Y13.dist H
noncomputable def Y44.body:Code:=(Tryz.f84.body).getD .skip
def Y44.ann:Ann:=(sl [0] (sq [0] (.one (sl [0,5] (.br (sl [2,3] lf) (sl [0,10] (.br (sl [2,3] lf) lf))))) (sl [0,4] (sl [2,3] lf))))
theorem Y44.dist:aJ (places Y44.ann Y44.body)=true:=by kernel_rfl
noncomputable def Y44.J (Q:AV→aA→Prop):JT:=bQ prog C Tryz.f84 Y44.ann Y44.body Q
def Y44.t (Q:AV→aA→Prop) (x0:Int) (h:aA) (J:JT):Prop:=
(bif (decide ((x0:Int)≤264)) then
(aT (IntKind.wrap .i64 (x0 - 254)) fun n2=>
Q (AV.tu [(AV.i .i64 n2),(AV.i .i64 0)]) h)
else
((bif (decide ((x0:Int)=285)) then
(Q (AV.tu [(AV.i .i64 258),(AV.i .i64 0)]) h)
else
(aT (IntKind.wrap .i64 (x0 - 261)) fun n7=>
aLQ .i64 n7 4 fun n8=>
aT (IntKind.wrap .i64 (x0 - 265)) fun n10=>
aMD n10 4 fun n11=>
aT (IntKind.wrap .i64 (4+n11)) fun n12=>
pQ .i64 n12 n8 fun n13=>
aT (IntKind.wrap .i64 (n13+3)) fun n14=>
Q (AV.tu [(AV.i .i64 n14),(AV.i .i64 n8)]) h))))
theorem Y44.call {K x0 h} (H:Y44.t (aH h K) x0 h (Y44.J (aH h K))):C Y44.id [(AV.i .i64 x0)] h K:=
 gC Y44.J Tryz.func84 Y44.dist H
noncomputable def Y58.body:Code:=(Tryz.f85.body).getD .skip
def Y58.ann:Ann:=(sl [0] (sq [0] (sl [0,6] (.br (sl [2,3] lf) lf)) (sl [0,4] (sl [2,3] lf))))
theorem Y58.dist:aJ (places Y58.ann Y58.body)=true:=by kernel_rfl
noncomputable def Y58.J (Q:AV→aA→Prop):JT:=bQ prog C Tryz.f85 Y58.ann Y58.body Q
def Y58.t (Q:AV→aA→Prop) (x0:Int) (h:aA) (J:JT):Prop:=
(bif (decide ((x0:Int)<4)) then
(aT (IntKind.wrap .i64 (x0+1)) fun n2=>
Q (AV.tu [(AV.i .i64 n2),(AV.i .i64 0)]) h)
else
(aLQ .i64 x0 2 fun n5=>
aT (IntKind.wrap .i64 (n5 - 1)) fun n6=>
aMD x0 2 fun n8=>
aT (IntKind.wrap .i64 (2+n8)) fun n9=>
pQ .i64 n9 n6 fun n10=>
aT (IntKind.wrap .i64 (n10+1)) fun n11=>
Q (AV.tu [(AV.i .i64 n11),(AV.i .i64 n6)]) h))
theorem Y58.call {K x0 h} (H:Y58.t (aH h K) x0 h (Y58.J (aH h K))):C Y58.id [(AV.i .i64 x0)] h K:=
 gC Y58.J Tryz.func85 Y58.dist H
noncomputable def Y5.body:Code:=(Tryz.f91.body).getD .skip
def Y5.ann:Ann:=(sl [0] (sq [0] (sl [0,10] (.br (sl [2] lf) lf)) (sl [0,3,4,5] (sq [3,4,5] (sl [3,4,5,11,12,13] (.one (.loop 1 [3,4,5,11,12,13] (sl [3,4,5,11,12,13,14] (sq [3,4,5,11,12,13] bl (.seq 3 [3,4,5,11,12,13] (.one (sl [3,4,5,7,11,12,13] (sq [3,4,5,7,11,12,13] (.seq 2 [3,4,5,7,11,12,13,22] lf (.br (sl [2] lf) lf)) (sl [3,4,5,7,11,12,13,24] (.br (sl [3,4,5,7,11,12,13] (sl [3,4,5,7,11,12,13] lf)) lf))))) lf)))))) (sq [] (.one (sl [3,4,5,36] (.br (sl [2] lf) (.seq 4 [39] lf (.br (sl [2] lf) lf))))) (sl [2] lf))))))
theorem Y5.dist:aJ (places Y5.ann Y5.body)=true:=by kernel_rfl
noncomputable def Y5.J (Q:AV→aA→Prop):JT:=bQ prog C Tryz.f91 Y5.ann Y5.body Q
def Y5.p1 (Q:AV→aA→Prop) (x3 x4 x5 x7:Int) (x11:AV) (x12 x13:Int) (x22:Bool) (h:aA):Prop:=Y5.J Q 2 [(3,(AV.i .i64 x3)),(4,(AV.i .i64 x4)),(5,(AV.i .i64 x5)),(7,(AV.i .i64 x7)),(11,x11),(12,(AV.i .i64 x12)),(13,(AV.i .i64 x13)),(22,(AV.b x22))] h
def Y5.p2 (Q:AV→aA→Prop) (x3 x4 x5:Int) (x11:AV) (x12 x13:Int) (h:aA):Prop:=Y5.J Q 3 [(3,(AV.i .i64 x3)),(4,(AV.i .i64 x4)),(5,(AV.i .i64 x5)),(11,x11),(12,(AV.i .i64 x12)),(13,(AV.i .i64 x13))] h
def Y5.p0 (Q:AV→aA→Prop) (x3 x4 x5:Int) (x11:AV) (x12 x13:Int) (h:aA):Prop:=Y5.J Q 1 [(3,(AV.i .i64 x3)),(4,(AV.i .i64 x4)),(5,(AV.i .i64 x5)),(11,x11),(12,(AV.i .i64 x12)),(13,(AV.i .i64 x13))] h
def Y5.p3 (Q:AV→aA→Prop) (x39:Bool) (h:aA):Prop:=Y5.J Q 4 [(39,(AV.b x39))] h
def Y5.t1 (Q:AV→aA→Prop) (x3 x4 x5 x7:Int) (x11:AV) (x12 x13:Int) (x22:Bool) (h:aA) (J:JT):Prop:=
(bif x22 then
(Q (AV.i .i64 4) h)
else
((bif (decide ((0:Int)<x7)) then
(aT (IntKind.wrap .i64 (15 - x7)) fun n20=>
pQ .i64 1 n20 fun n21=>
aT (IntKind.wrap .i64 (x3+n21)) fun n22=>
aT (IntKind.wrap .i64 (x4+1)) fun n24=>
J 3 [(3,(AV.i .i64 n22)),(4,(AV.i .i64 n24)),(5,(AV.i .i64 (mmI true x5 x7))),(11,x11),(12,(AV.i .i64 x12)),(13,(AV.i .i64 x13))] h)
else
(J 3 [(3,(AV.i .i64 x3)),(4,(AV.i .i64 x4)),(5,(AV.i .i64 x5)),(11,x11),(12,(AV.i .i64 x12)),(13,(AV.i .i64 x13))] h))))
theorem Y5.i1 {Q x3 x4 x5 x7 x11 x12 x13 x22 h} (H:Y5.t1 Q x3 x4 x5 x7 x11 x12 x13 x22 h (Y5.J Q)):Y5.p1 Q x3 x4 x5 x7 x11 x12 x13 x22 h:=gR Y5.J Tryz.f91 Y5.dist [1,1,1,0,1,0,0,1,1,0,0,1,0,1] H
def Y5.t2 (Q:AV→aA→Prop) (x3 x4 x5:Int) (x11:AV) (x12 x13:Int) (h:aA) (J:JT):Prop:=
aT (IntKind.wrap .i64 (x13+1)) fun n28=>
J 1 [(3,(AV.i .i64 x3)),(4,(AV.i .i64 x4)),(5,(AV.i .i64 x5)),(11,x11),(12,(AV.i .i64 x12)),(13,(AV.i .i64 n28))] h
theorem Y5.i2 {Q x3 x4 x5 x11 x12 x13 h} (H:Y5.t2 Q x3 x4 x5 x11 x12 x13 h (Y5.J Q)):Y5.p2 Q x3 x4 x5 x11 x12 x13 h:=gR Y5.J Tryz.f91 Y5.dist [1,1,1,0,1,0,0,1,1,1] H
def Y5.t0 (Q:AV→aA→Prop) (x3 x4 x5:Int) (x11:AV) (x12 x13:Int) (h:aA) (J:JT):Prop:=
(bif (decide ((x13:Int)<x12)) then
(aZ 1 x11 (AV.i .i64 x13) h fun v11=>
aC v11 h fun v12=>
asI .i64 v12 fun n13=>
(bif (decide ((n13:Int)<0)) then
(J 2 [(3,(AV.i .i64 x3)),(4,(AV.i .i64 x4)),(5,(AV.i .i64 x5)),(7,(AV.i .i64 n13)),(11,x11),(12,(AV.i .i64 x12)),(13,(AV.i .i64 x13)),(22,(AV.b true))] h)
else
(J 2 [(3,(AV.i .i64 x3)),(4,(AV.i .i64 x4)),(5,(AV.i .i64 x5)),(7,(AV.i .i64 n13)),(11,x11),(12,(AV.i .i64 x12)),(13,(AV.i .i64 x13)),(22,(AV.b (decide ((15:Int)<n13))))] h)))
else
((bif (decide ((32768:Int)<x3)) then
(Q (AV.i .i64 2) h)
else
((bif (decide ((x3:Int)<32768)) then
((bif (decide ((0:Int)<x4)) then
((bif (decide ((1:Int)<x4)) then
(J 4 [(39,(AV.b true))] h)
else
(J 4 [(39,(AV.b (decide ((1:Int)<x5))))] h)))
else
(J 4 [(39,(AV.b false))] h)))
else
(J 4 [(39,(AV.b false))] h))))))
theorem Y5.i0 {Q x3 x4 x5 x11 x12 x13 h} (H:Y5.t0 Q x3 x4 x5 x11 x12 x13 h (Y5.J Q)):Y5.p0 Q x3 x4 x5 x11 x12 x13 h:=gH Y5.J Tryz.f91 Y5.dist [1,1,1,0,1,0] H
def Y5.t3 (Q:AV→aA→Prop) (x39:Bool) (h:aA) (J:JT):Prop:=
(bif x39 then
(Q (AV.i .i64 1) h)
else
(Q (AV.i .i64 0) h))
theorem Y5.i3 {Q x39 h} (H:Y5.t3 Q x39 h (Y5.J Q)):Y5.p3 Q x39 h:=gR Y5.J Tryz.f91 Y5.dist [1,1,1,1,0,0,1,1,1] H
def Y5.t (Q:AV→aA→Prop) (x0:AV) (h:aA) (J:JT):Prop:=
b6 x0 fun n1=>
(bif (decide ((320:Int)<n1)) then
(Q (AV.i .i64 3) h)
else
(b6 x0 fun n6=>
J 1 [(3,(AV.i .i64 0)),(4,(AV.i .i64 0)),(5,(AV.i .i64 0)),(11,x0),(12,(AV.i .i64 n6)),(13,(AV.i .i64 0))] h))
theorem Y5.call {K x0 h} (H:Y5.t (aH h K) x0 h (Y5.J (aH h K))):C Y5.id [x0] h K:=
 gC Y5.J Tryz.func91 Y5.dist H
noncomputable def Y8.body:Code:=(Tryz.f92.body).getD .skip
def Y8.ann:Ann:=(sl [0,2] (sl [0,2,3] (sq [2,3] (sl [2,3,7,8,9] (.one (.loop 1 [2,3,7,8,9] (sl [2,3,7,8,9,10] (sq [2,3,7,8,9] bl (.seq 2 [2,3,7,8,9] (.one (sl [2,3,5,7,8,9] (sl [2,3,5,7,8,9,14] bl))) lf)))))) (sq [2,3] (sl [2,3,6] (.one (.loop 3 [2,3,6] (sq [2,3,6] (sl [2,3,6,24] bl) (sq [2,3,6] (.one (.ord (nn 0 15 (.eff 15 .done .stop)))) lf))))) (sl [2] lf)))))
theorem Y8.dist:aJ (places Y8.ann Y8.body)=true:=by kernel_rfl
noncomputable def Y8.J (Q:AV→aA→Prop):JT:=bQ prog C Tryz.f92 Y8.ann Y8.body Q
def Y8.p1 (Q:AV→aA→Prop) (x2 x3 x7:AV) (x8 x9:Int) (h:aA):Prop:=Y8.J Q 2 [(2,x2),(3,x3),(7,x7),(8,(AV.i .i64 x8)),(9,(AV.i .i64 x9))] h
def Y8.p0 (Q:AV→aA→Prop) (x2 x3 x7:AV) (x8 x9:Int) (h:aA):Prop:=Y8.J Q 1 [(2,x2),(3,x3),(7,x7),(8,(AV.i .i64 x8)),(9,(AV.i .i64 x9))] h
def Y8.p2 (Q:AV→aA→Prop) (x2 x3:AV) (x6:Int) (h:aA):Prop:=Y8.J Q 3 [(2,x2),(3,x3),(6,(AV.i .i64 x6))] h
def Y8.t1 (Q:AV→aA→Prop) (x2 x3 x7:AV) (x8 x9:Int) (h:aA) (J:JT):Prop:=
aT (IntKind.wrap .i64 (x9+1)) fun n26=>
J 1 [(2,x2),(3,x3),(7,x7),(8,(AV.i .i64 x8)),(9,(AV.i .i64 n26))] h
theorem Y8.i1 {Q x2 x3 x7 x8 x9 h} (H:Y8.t1 Q x2 x3 x7 x8 x9 h (Y8.J Q)):Y8.p1 Q x2 x3 x7 x8 x9 h:=gR Y8.J Tryz.f92 Y8.dist [1,1,0,1,0,0,1,1,1] H
def Y8.t0 (Q:AV→aA→Prop) (x2 x3 x7:AV) (x8 x9:Int) (h:aA) (J:JT):Prop:=
(bif (decide ((x9:Int)<x8)) then
(aZ 1 x7 (AV.i .i64 x9) h fun v11=>
aC v11 h fun v12=>
asI .i64 v12 fun n13=>
(bif (decide ((0:Int)<n13)) then
(aB 0 x3 fun v16=>
bJ 16 1 v16 (AV.i .i64 n13) fun v17=>
aC v17 h fun v18=>
asI .i64 v18 fun n19=>
aT (IntKind.wrap .i64 (n19+1)) fun n20=>
aB 0 x3 fun v21=>
bJ 16 1 v21 (AV.i .i64 n13) fun v22=>
aR 1 v22 (AV.i .i64 n20) h fun h23=>
J 2 [(2,x2),(3,x3),(7,x7),(8,(AV.i .i64 x8)),(9,(AV.i .i64 x9))] h23)
else
(J 2 [(2,x2),(3,x3),(7,x7),(8,(AV.i .i64 x8)),(9,(AV.i .i64 x9))] h)))
else
(J 3 [(2,x2),(3,x3),(6,(AV.i .i64 1))] h))
theorem Y8.i0 {Q x2 x3 x7 x8 x9 h} (H:Y8.t0 Q x2 x3 x7 x8 x9 h (Y8.J Q)):Y8.p0 Q x2 x3 x7 x8 x9 h:=gH Y8.J Tryz.f92 Y8.dist [1,1,0,1,0] H
def Y8.t2 (Q:AV→aA→Prop) (x2 x3:AV) (x6:Int) (h:aA) (J:JT):Prop:=
(bif (decide ((x6:Int)≤15)) then
(aT (IntKind.wrap .i64 (x6 - 1)) fun n32=>
aB 16 x3 fun v33=>
bJ 16 1 v33 (AV.i .i64 n32) fun v34=>
aC v34 h fun v35=>
asI .i64 v35 fun n36=>
aT (IntKind.wrap .i64 (x6 - 1)) fun n37=>
aB 0 x3 fun v38=>
bJ 16 1 v38 (AV.i .i64 n37) fun v39=>
aC v39 h fun v40=>
asI .i64 v40 fun n41=>
aT (IntKind.wrap .i64 (n36+n41)) fun n42=>
pQ .i64 n42 1 fun n43=>
aB 16 x3 fun v44=>
bJ 16 1 v44 (AV.i .i64 x6) fun v45=>
aR 1 v45 (AV.i .i64 n43) h fun h46=>
aT (IntKind.wrap .i64 (x6+1)) fun n48=>
J 3 [(2,x2),(3,x3),(6,(AV.i .i64 n48))] h46)
else
(dF 32 x3 h fun v50=>
aR 32 x2 v50 h fun h51=>
dF 32 x2 h51 fun v53=>
Q v53 h51))
theorem Y8.i2 {Q x2 x3 x6 h} (H:Y8.t2 Q x2 x3 x6 h (Y8.J Q)):Y8.p2 Q x2 x3 x6 h:=gH Y8.J Tryz.f92 Y8.dist [1,1,1,0,1,0] H
def Y8.t (Q:AV→aA→Prop) (x0:AV) (h:aA) (J:JT):Prop:=
dV (some 156) [(AV.i .i64 0),(AV.i .i64 0),(AV.i .i64 0),(AV.i .i64 0),(AV.i .i64 0),(AV.i .i64 0),(AV.i .i64 0),(AV.i .i64 0),(AV.i .i64 0),(AV.i .i64 0),(AV.i .i64 0),(AV.i .i64 0),(AV.i .i64 0),(AV.i .i64 0),(AV.i .i64 0),(AV.i .i64 0),(AV.i .i64 0),(AV.i .i64 0),(AV.i .i64 0),(AV.i .i64 0),(AV.i .i64 0),(AV.i .i64 0),(AV.i .i64 0),(AV.i .i64 0),(AV.i .i64 0),(AV.i .i64 0),(AV.i .i64 0),(AV.i .i64 0),(AV.i .i64 0),(AV.i .i64 0),(AV.i .i64 0),(AV.i .i64 0)] h fun v0 h1=>
dV (some 156) [(AV.i .i64 0),(AV.i .i64 0),(AV.i .i64 0),(AV.i .i64 0),(AV.i .i64 0),(AV.i .i64 0),(AV.i .i64 0),(AV.i .i64 0),(AV.i .i64 0),(AV.i .i64 0),(AV.i .i64 0),(AV.i .i64 0),(AV.i .i64 0),(AV.i .i64 0),(AV.i .i64 0),(AV.i .i64 0),(AV.i .i64 0),(AV.i .i64 0),(AV.i .i64 0),(AV.i .i64 0),(AV.i .i64 0),(AV.i .i64 0),(AV.i .i64 0),(AV.i .i64 0),(AV.i .i64 0),(AV.i .i64 0),(AV.i .i64 0),(AV.i .i64 0),(AV.i .i64 0),(AV.i .i64 0),(AV.i .i64 0),(AV.i .i64 0)] h1 fun v3 h4=>
b6 x0 fun n6=>
J 1 [(2,v0),(3,v3),(7,x0),(8,(AV.i .i64 n6)),(9,(AV.i .i64 0))] h4
theorem Y8.call {K x0 h} (H:Y8.t (aH h K) x0 h (Y8.J (aH h K))):C Y8.id [x0] h K:=
 gC Y8.J Tryz.func92 Y8.dist H
noncomputable def Y26.body:Code:=(Tryz.f93.body).getD .skip
def Y26.ann:Ann:=(sl [0,1,2] (sl [] (sl [6] lf)))
theorem Y26.dist:aJ (places Y26.ann Y26.body)=true:=by kernel_rfl
noncomputable def Y26.J (Q:AV→aA→Prop):JT:=bQ prog C Tryz.f93 Y26.ann Y26.body Q
def Y26.t (Q:AV→aA→Prop) (x0:AV) (x1:Int) (x2:AV) (h:aA) (J:JT):Prop:=
aP x0 fun v1=>
aB 11 v1 fun v2=>
aR 1 v2 (AV.i .i64 0) h fun h3=>
aP x0 fun v4=>
aB 12 v4 fun v5=>
aR 1 v5 (AV.i .i64 0) h3 fun h6=>
aP x0 fun v7=>
aB 13 v7 fun v8=>
aR 1 v8 (AV.i .i64 x1) h6 fun h9=>
aP x0 fun v10=>
aB 14 v10 fun v11=>
aR 1 v11 (AV.p none) h9 fun h12=>
aP x0 fun v13=>
aB 15 v13 fun v14=>
aR 1 v14 x2 h12 fun h15=>
Q (AV.i .i64 0) h15
theorem Y26.call {K x0 x1 x2 h} (H:Y26.t (aH h K) x0 x1 x2 h (Y26.J (aH h K))):C Y26.id [x0,(AV.i .i64 x1),x2] h K:=
 gC Y26.J Tryz.func93 Y26.dist H
noncomputable def Y52.body:Code:=(Tryz.f94.body).getD .skip
def Y52.ann:Ann:=(sl [0,1] (sl [0,1] (sq [] (sl [1,11] (.one (sl [1,11,12] (.br (sl [1] (sl [3] lf)) (sl [1,11,19] (.br (sl [3] lf) (sl [1,23] (.br (sl [3] lf) lf)))))))) (sl [3] lf))))
theorem Y52.dist:aJ (places Y52.ann Y52.body)=true:=by kernel_rfl
noncomputable def Y52.J (Q:AV→aA→Prop):JT:=bQ prog C Tryz.f94 Y52.ann Y52.body Q
def Y52.t (Q:AV→aA→Prop) (x0:Int) (x1:AV) (h:aA) (J:JT):Prop:=
aC x1 h fun v1=>
aP v1 fun v2=>
aB 6 v2 fun v3=>
aR 1 v3 (AV.b (decide (((aX .and .i64 x0 1):Int)=1))) h fun h4=>
xW .i64 x0 1 fun n6=>
(bif (decide ((n6:Int)=0)) then
(aC x1 h4 fun v9=>
aP v9 fun v10=>
aB 9 v10 fun v11=>
aR 1 v11 (AV.b true) h4 fun h12=>
aC x1 h12 fun v14=>
C Y41.id [v14] h12 fun v15 h16=>
asI .i64 v15 fun n17=>
Q (AV.i .i64 n17) h16)
else
((bif (decide ((n6:Int)=1)) then
(aC x1 h4 fun v20=>
C Y60.id [v20] h4 fun v21 h22=>
asI .i64 v21 fun n23=>
Q (AV.i .i64 n23) h22)
else
((bif (decide ((n6:Int)=2)) then
(aC x1 h4 fun v26=>
C Y43.id [v26] h4 fun v27 h28=>
asI .i64 v27 fun n29=>
Q (AV.i .i64 n29) h28)
else
(Q (AV.i .i64 2) h4))))))
theorem Y52.call {K x0 x1 h} (H:Y52.t (aH h K) x0 x1 h (Y52.J (aH h K))):C Y52.id [(AV.i .i64 x0),x1] h K:=
 gC Y52.J Tryz.func94 Y52.dist H
noncomputable def Y41.body:Code:=(Tryz.f95.body).getD .skip
def Y41.ann:Ann:=(sl [1] (sl [2] lf))
theorem Y41.dist:aJ (places Y41.ann Y41.body)=true:=by kernel_rfl
noncomputable def Y41.J (Q:AV→aA→Prop):JT:=bQ prog C Tryz.f95 Y41.ann Y41.body Q
def Y41.t (Q:AV→aA→Prop) (x0:AV) (h:aA) (J:JT):Prop:=
d7 none x0 h fun v0 h1=>
aC v0 h1 fun v3=>
C Y26.id [v3,(AV.i .i64 16),(AV.fn (.func Y61.id) [] [v0])] h1 fun v4 h5=>
asI .i64 v4 fun n6=>
Q (AV.i .i64 n6) h5
theorem Y41.call {K x0 h} (H:Y41.t (aH h K) x0 h (Y41.J (aH h K))):C Y41.id [x0] h K:=
 gC Y41.J Tryz.func95 Y41.dist H
noncomputable def Y60.body:Code:=(Tryz.f96.body).getD .skip
def Y60.ann:Ann:=(sl [0] (sl [0,3,4] (sl [2] lf)))
theorem Y60.dist:aJ (places Y60.ann Y60.body)=true:=by kernel_rfl
noncomputable def Y60.J (Q:AV→aA→Prop):JT:=bQ prog C Tryz.f96 Y60.ann Y60.body Q
def Y60.t (Q:AV→aA→Prop) (x0:AV) (h:aA) (J:JT):Prop:=
C Y9.id [] h fun v1 h2=>
bC 0 v1 fun v3=>
bC 1 v1 fun v4=>
C Y34.id [x0,v3,v4] h2 fun v6 h7=>
asI .i64 v6 fun n8=>
Q (AV.i .i64 n8) h7
theorem Y60.call {K x0 h} (H:Y60.t (aH h K) x0 h (Y60.J (aH h K))):C Y60.id [x0] h K:=
 gC Y60.J Tryz.func96 Y60.dist H
noncomputable def Y43.body:Code:=(Tryz.f97.body).getD .skip
def Y43.ann:Ann:=(sl [1] (sl [2] lf))
theorem Y43.dist:aJ (places Y43.ann Y43.body)=true:=by kernel_rfl
noncomputable def Y43.J (Q:AV→aA→Prop):JT:=bQ prog C Tryz.f97 Y43.ann Y43.body Q
def Y43.t (Q:AV→aA→Prop) (x0:AV) (h:aA) (J:JT):Prop:=
d7 none x0 h fun v0 h1=>
aC v0 h1 fun v3=>
C Y26.id [v3,(AV.i .i64 5),(AV.fn (.func Y48.id) [] [v0])] h1 fun v4 h5=>
asI .i64 v4 fun n6=>
Q (AV.i .i64 n6) h5
theorem Y43.call {K x0 h} (H:Y43.t (aH h K) x0 h (Y43.J (aH h K))):C Y43.id [x0] h K:=
 gC Y43.J Tryz.func97 Y43.dist H
noncomputable def Y11.body:Code:=(Tryz.f98.body).getD .skip
def Y11.ann:Ann:=(sl [0,1,4,5,6] (sq [0,1,4,5,6] (sl [0,1,4,5,6,9] (.br (sl [4,5,6] lf) lf)) (sq [0,4,5,6] (.ord (nn 0 17 (.eff 17 (nn 18 2 (.eff 20 .done .stop)) .stop))) (.seq 2 [0,4,5,6] (sl [0,4,5,6,7] (.seq 1 [0,4,5,6,7,74] (.ord (nn 0 42 .done)) (.br (.ord (nn 0 27 .done)) (sl [0,4,5,105] (.br (sl [4,5,6] lf) lf))))) (sl [4,5,6] (sl [4,5,6] lf))))))
theorem Y11.dist:aJ (places Y11.ann Y11.body)=true:=by kernel_rfl
noncomputable def Y11.J (Q:AV→aA→Prop):JT:=bQ prog C Tryz.f98 Y11.ann Y11.body Q
def Y11.p0 (Q:AV→aA→Prop) (x0:AV) (x4:Int) (x5:Bool) (x6 x7:Int) (x74:Bool) (h:aA):Prop:=Y11.J Q 1 [(0,x0),(4,(AV.i .i64 x4)),(5,(AV.b x5)),(6,(AV.i .i64 x6)),(7,(AV.i .i64 x7)),(74,(AV.b x74))] h
def Y11.p1 (Q:AV→aA→Prop) (x0:AV) (x4:Int) (x5:Bool) (x6:Int) (h:aA):Prop:=Y11.J Q 2 [(0,x0),(4,(AV.i .i64 x4)),(5,(AV.b x5)),(6,(AV.i .i64 x6))] h
def Y11.t0 (Q:AV→aA→Prop) (x0:AV) (x4:Int) (x5:Bool) (x6 x7:Int) (x74:Bool) (h:aA) (J:JT):Prop:=
(bif x74 then
(aP x0 fun v63=>
aB 32 v63 fun v64=>
aC v64 h fun v65=>
aP x0 fun v66=>
aB 33 v66 fun v67=>
bJ 16 1 v67 (AV.i .i64 x7) fun v68=>
aC v68 h fun v69=>
asI .i64 v69 fun n70=>
aP x0 fun v71=>
aB 50 v71 fun v72=>
aC v72 h fun v73=>
asI .i64 v73 fun n74=>
aT (IntKind.wrap .i64 (n70+n74)) fun n75=>
aP x0 fun v76=>
aB 0 v76 fun v77=>
aB 16 v77 fun v78=>
bJ 16 1 v78 (AV.i .i64 x7) fun v79=>
aC v79 h fun v80=>
asI .i64 v80 fun n81=>
aT (IntKind.wrap .i64 (n75 - n81)) fun n82=>
aZ 1 v65 (AV.i .i64 n82) h fun v83=>
aC v83 h fun v84=>
asI .i64 v84 fun n85=>
J 2 [(0,x0),(4,(AV.i .i64 n85)),(5,(AV.b true)),(6,(AV.i .i64 x6))] h)
else
(aP x0 fun v87=>
aB 49 v87 fun v88=>
aC v88 h fun v89=>
asI .i64 v89 fun n90=>
(bif (decide ((x7:Int)<n90)) then
(Q (AV.tu [(AV.i .i64 0),(AV.b false),(AV.i .i64 0)]) h)
else
(J 2 [(0,x0),(4,(AV.i .i64 x4)),(5,(AV.b x5)),(6,(AV.i .i64 2))] h))))
theorem Y11.i0 {Q x0 x4 x5 x6 x7 x74 h} (H:Y11.t0 Q x0 x4 x5 x6 x7 x74 h (Y11.J Q)):Y11.p0 Q x0 x4 x5 x6 x7 x74 h:=gR Y11.J Tryz.f98 Y11.dist [1,1,1,0,1,1] H
def Y11.t1 (Q:AV→aA→Prop) (x0:AV) (x4:Int) (x5:Bool) (x6:Int) (h:aA) (J:JT):Prop:=
aP x0 fun v94=>
aB 50 v94 fun v95=>
aR 1 v95 (AV.i .i64 0) h fun h96=>
aP x0 fun v97=>
aB 51 v97 fun v98=>
aR 1 v98 (AV.i .i64 0) h96 fun h99=>
Q (AV.tu [(AV.i .i64 x4),(AV.b x5),(AV.i .i64 x6)]) h99
theorem Y11.i1 {Q x0 x4 x5 x6 h} (H:Y11.t1 Q x0 x4 x5 x6 h (Y11.J Q)):Y11.p1 Q x0 x4 x5 x6 h:=gR Y11.J Tryz.f98 Y11.dist [1,1,1,1] H
def Y11.t (Q:AV→aA→Prop) (x0:AV) (x1:Int) (h:aA) (J:JT):Prop:=
cD prog .eql 82 x0 (AV.p none) fun v1=>
asB v1 fun c2=>
(bif c2 then
(Q (AV.tu [(AV.i .i64 0),(AV.b false),(AV.i .i64 6)]) h)
else
(aP x0 fun v6=>
aB 50 v6 fun v7=>
aC v7 h fun v8=>
asI .i64 v8 fun n9=>
pQ .i64 n9 1 fun n10=>
aT (aX .or .i64 n10 (aX .and .i64 x1 1)) fun n11=>
aP x0 fun v12=>
aB 51 v12 fun v13=>
aC v13 h fun v14=>
asI .i64 v14 fun n15=>
aT (IntKind.wrap .i64 (n15+1)) fun n16=>
aP x0 fun v17=>
aB 50 v17 fun v18=>
aR 1 v18 (AV.i .i64 n11) h fun h19=>
aP x0 fun v20=>
aB 51 v20 fun v21=>
aR 1 v21 (AV.i .i64 n16) h19 fun h22=>
aP x0 fun v24=>
aB 51 v24 fun v25=>
aC v25 h22 fun v26=>
asI .i64 v26 fun n27=>
aP x0 fun v29=>
aB 49 v29 fun v30=>
aC v30 h22 fun v31=>
asI .i64 v31 fun n32=>
(bif (decide ((n27:Int)≤n32)) then
(aP x0 fun v33=>
aB 50 v33 fun v34=>
aC v34 h22 fun v35=>
asI .i64 v35 fun n36=>
aP x0 fun v37=>
aB 0 v37 fun v38=>
aB 16 v38 fun v39=>
bJ 16 1 v39 (AV.i .i64 n27) fun v40=>
aC v40 h22 fun v41=>
asI .i64 v41 fun n42=>
aT (IntKind.wrap .i64 (n36 - n42)) fun n43=>
aP x0 fun v44=>
aB 0 v44 fun v45=>
aB 0 v45 fun v46=>
bJ 16 1 v46 (AV.i .i64 n27) fun v47=>
aC v47 h22 fun v48=>
asI .i64 v48 fun n49=>
(bif (decide ((n43:Int)<n49)) then
(aP x0 fun v50=>
aB 50 v50 fun v51=>
aC v51 h22 fun v52=>
asI .i64 v52 fun n53=>
aP x0 fun v54=>
aB 0 v54 fun v55=>
aB 16 v55 fun v56=>
bJ 16 1 v56 (AV.i .i64 n27) fun v57=>
aC v57 h22 fun v58=>
asI .i64 v58 fun n59=>
J 1 [(0,x0),(4,(AV.i .i64 0)),(5,(AV.b false)),(6,(AV.i .i64 0)),(7,(AV.i .i64 n27)),(74,(AV.b (decide ((n59:Int)≤n53))))] h22)
else
(J 1 [(0,x0),(4,(AV.i .i64 0)),(5,(AV.b false)),(6,(AV.i .i64 0)),(7,(AV.i .i64 n27)),(74,(AV.b false))] h22)))
else
(J 1 [(0,x0),(4,(AV.i .i64 0)),(5,(AV.b false)),(6,(AV.i .i64 0)),(7,(AV.i .i64 n27)),(74,(AV.b false))] h22))))
theorem Y11.call {K x0 x1 h} (H:Y11.t (aH h K) x0 x1 h (Y11.J (aH h K))):C Y11.id [x0,(AV.i .i64 x1)] h K:=
 gC Y11.J Tryz.func98 Y11.dist H
noncomputable def Y59.body:Code:=(Tryz.f122.body).getD .skip
def Y59.ann:Ann:=(sl [0,1] (sq [0,1] (.br (sl [6,7] (sl [4,5] lf)) lf) (sl [8,9] (sl [4,5] lf))))
theorem Y59.dist:aJ (places Y59.ann Y59.body)=true:=by kernel_rfl
noncomputable def Y59.J (Q:AV→aA→Prop):JT:=bQ prog C Tryz.f122 Y59.ann Y59.body Q
def Y59.t (Q:AV→aA→Prop) (x0 x1:Int) (h:aA) (J:JT):Prop:=
C Y64.id [(AV.i .u64 x0),(AV.i .u64 x1)] h fun v2 h3=>
bC 0 v2 fun v4=>
asI .u64 v4 fun n5=>
bC 1 v2 fun v6=>
asI .u64 v6 fun n7=>
Q (AV.tu [(AV.i .u64 n5),(AV.i .u64 n7)]) h3
theorem Y59.call {K x0 x1 h} (H:Y59.t (aH h K) x0 x1 h (Y59.J (aH h K))):C Y59.id [(AV.i .u64 x0),(AV.i .u64 x1)] h K:=
 gC Y59.J Tryz.func122 Y59.dist H
end Go.Proofs.YtfoekpcljhbijaaGreatDoor
