/- Lemmas (several texts in one). -/
import Derived.Test.YtfoekpcljhbijaaGreatDoorProg
import Derived.KernelRfl
import Derived.Test.YtfoekpcljhbijaaGreatDoorMg1
set_option linter.unusedVariables false
set_option linter.unusedSectionVars false
set_option maxRecDepth 100000
namespace Go.Proofs.YtfoekpcljhbijaaGreatDoor
open Go.GAM
noncomputable abbrev prog:Program:=Tryz.prog
class XR where
 X:a0
abbrev X [XR]:a0:=XR.X
abbrev C [XR]:a0:=fA prog X
abbrev lf:Ann:=.leaf
def nn:Nat→Nat→Go.GAM.Ord→Go.GAM.Ord
 | _,0,o=>o
 | i,k+1,o=>.neu i (nn (i+1) k o)
abbrev bl:Ann:=.br .leaf .leaf
abbrev sl (l:List Nat) (x:Ann):Ann:=.seq 0 l .leaf x
abbrev sq (l:List Nat) (x y:Ann):Ann:=.seq 0 l x y
theorem gR [XR] {ann:Ann} {body:Code} (J:(AV→aA→Prop)→JT) (fn:Func) (hd:aL (places ann body)=true) {Q:AV→aA→Prop} {k:Nat} (p:List Nat) {e:Env} {h:aA} {a:JT→Prop} (H:a (J Q)) (hJ:J=bJ prog C fn ann body:=by exact rfl) (hl:xN (places ann body) k=some (p,false):=by kernel_rfl) (he:∀ j,a j=atJ prog C fn.ntmps j false p ann body e h (zH prog fn Q):=by intro j; kernel_rfl):J Q k e h:=by
 subst hJ
 exact aQZ (o9 X) hd hl (he _ ▸ H)
theorem gH [XR] {ann:Ann} {body:Code} (J:(AV→aA→Prop)→JT) (fn:Func) (hd:aL (places ann body)=true) {Q:AV→aA→Prop} {k:Nat} (p:List Nat) {e:Env} {h:aA} {a:JT→Prop} (H:a (J Q)) (hJ:J=bJ prog C fn ann body:=by exact rfl) (hl:xN (places ann body) k=some (p,true):=by kernel_rfl) (he:∀ j,a j=atJ prog C fn.ntmps j true p ann body e h (zH prog fn Q):=by intro j; kernel_rfl):J Q k e h:=by
 subst hJ
 exact aO1 (o9 X) hd hl (he _ ▸ H)
theorem gC [XR] {f:FuncId} {fn:Func} {ann:Ann} {body:Code} (J:(AV→aA→Prop)→JT) (hf:prog.funcs[f]? = some fn) (hd:aL (places ann body)=true) {args:List AV} {h:aA} {K:AV→aA→Prop} {a:JT→Prop} (H:a (J (aH h K))) (hJ:J=bJ prog C fn ann body:=by exact rfl) (hb:fn.body=some body:=by kernel_rfl) (hn:(fn.name == "runtime.NumGoroutine")=false:=by kernel_rfl) (ha:Nat.ble args.length fn.ntmps=true:=by kernel_rfl) (he:∀ j,a j=exJ prog C fn.ntmps j ann body (fE 0 args) h (zH prog fn (aH h K)):=by intro j; kernel_rfl):C f args h K:=by
 subst hJ
 exact aUW hf hb hn hd ha (he _ ▸ H)
abbrev Y26.id:FuncId:=3
abbrev Y103.id:FuncId:=9
abbrev Y85.id:FuncId:=10
abbrev Y87.id:FuncId:=11
abbrev Y8.id:FuncId:=12
abbrev Y21.id:FuncId:=13
abbrev Y40.id:FuncId:=14
abbrev Y39.id:FuncId:=15
abbrev Y152.id:FuncId:=16
abbrev Y125.id:FuncId:=17
abbrev Y138.id:FuncId:=18
abbrev Y134.id:FuncId:=19
abbrev Y147.id:FuncId:=20
abbrev Y132.id:FuncId:=21
abbrev Y110.id:FuncId:=22
abbrev Y77.id:FuncId:=23
abbrev Y4.id:FuncId:=24
abbrev Y93.id:FuncId:=25
abbrev Y22.id:FuncId:=26
abbrev Y91.id:FuncId:=27
abbrev Y46.id:FuncId:=28
abbrev Y63.id:FuncId:=29
abbrev Y47.id:FuncId:=30
abbrev Y135.id:FuncId:=31
abbrev Y149.id:FuncId:=32
abbrev Y118.id:FuncId:=33
abbrev Y146.id:FuncId:=34
abbrev Y123.id:FuncId:=35
abbrev Y65.id:FuncId:=36
abbrev Y1.id:FuncId:=37
abbrev Y36.id:FuncId:=38
abbrev Y95.id:FuncId:=39
abbrev Y51.id:FuncId:=40
abbrev Y100.id:FuncId:=41
abbrev Y89.id:FuncId:=42
abbrev Y31.id:FuncId:=43
abbrev Y96.id:FuncId:=44
abbrev Y52.id:FuncId:=45
abbrev Y16.id:FuncId:=46
abbrev Y86.id:FuncId:=47
abbrev Y3.id:FuncId:=48
abbrev Y145.id:FuncId:=49
abbrev Y128.id:FuncId:=50
abbrev Y122.id:FuncId:=51
abbrev Y140.id:FuncId:=52
abbrev Y107.id:FuncId:=53
abbrev Y19.id:FuncId:=54
abbrev Y131.id:FuncId:=55
abbrev Y115.id:FuncId:=56
abbrev Y112.id:FuncId:=57
abbrev Y150.id:FuncId:=58
abbrev Y139.id:FuncId:=59
abbrev Y136.id:FuncId:=60
abbrev Y130.id:FuncId:=61
abbrev Y137.id:FuncId:=62
abbrev Y114.id:FuncId:=63
abbrev Y154.id:FuncId:=64
abbrev Y148.id:FuncId:=65
abbrev Y37.id:FuncId:=66
abbrev Y61.id:FuncId:=67
abbrev Y58.id:FuncId:=68
abbrev Y5.id:FuncId:=69
abbrev Y17.id:FuncId:=70
abbrev Y30.id:FuncId:=71
abbrev Y104.id:FuncId:=72
abbrev Y48.id:FuncId:=73
abbrev Y33.id:FuncId:=74
abbrev Y42.id:FuncId:=75
abbrev Y10.id:FuncId:=76
abbrev Y20.id:FuncId:=77
abbrev Y99.id:FuncId:=78
abbrev Y54.id:FuncId:=79
abbrev Y111.id:FuncId:=80
abbrev Y116.id:FuncId:=81
abbrev Y109.id:FuncId:=82
abbrev Y29.id:FuncId:=83
abbrev Y82.id:FuncId:=84
abbrev Y81.id:FuncId:=85
abbrev Y153.id:FuncId:=86
abbrev Y117.id:FuncId:=87
abbrev Y141.id:FuncId:=88
abbrev Y133.id:FuncId:=89
abbrev Y126.id:FuncId:=90
abbrev Y11.id:FuncId:=91
abbrev Y18.id:FuncId:=92
abbrev Y53.id:FuncId:=93
abbrev Y101.id:FuncId:=94
abbrev Y73.id:FuncId:=95
abbrev Y68.id:FuncId:=96
abbrev Y70.id:FuncId:=97
abbrev Y25.id:FuncId:=98
abbrev Y66.id:FuncId:=99
abbrev Y24.id:FuncId:=100
abbrev Y27.id:FuncId:=101
abbrev Y14.id:FuncId:=102
abbrev Y6.id:FuncId:=103
abbrev Y2.id:FuncId:=104
abbrev Y84.id:FuncId:=105
abbrev Y32.id:FuncId:=106
abbrev Y0.id:FuncId:=107
abbrev Y50.id:FuncId:=108
abbrev Y13.id:FuncId:=109
abbrev Y38.id:FuncId:=110
abbrev Y78.id:FuncId:=111
abbrev Y35.id:FuncId:=112
abbrev Y41.id:FuncId:=113
abbrev Y45.id:FuncId:=114
abbrev Y142.id:FuncId:=115
abbrev Y108.id:FuncId:=117
abbrev Y119.id:FuncId:=118
abbrev Y143.id:FuncId:=119
abbrev Y129.id:FuncId:=120
abbrev Y121.id:FuncId:=121
abbrev Y71.id:FuncId:=122
abbrev Y113.id:FuncId:=123
abbrev Y144.id:FuncId:=124
abbrev Y120.id:FuncId:=125
abbrev Y72.id:FuncId:=126
abbrev Y83.id:FuncId:=127
abbrev Y67.id:FuncId:=128
abbrev Y60.id:FuncId:=129
abbrev Y88.id:FuncId:=130
abbrev Y74.id:FuncId:=131
abbrev Y80.id:FuncId:=132
abbrev Y62.id:FuncId:=133
abbrev Y44.id:FuncId:=134
abbrev Y55.id:FuncId:=135
abbrev Y34.id:FuncId:=136
abbrev Y76.id:FuncId:=137
abbrev Y90.id:FuncId:=138
abbrev Y7.id:FuncId:=139
abbrev Y105.id:FuncId:=140
abbrev Y124.id:FuncId:=141
abbrev Y155.id:FuncId:=142
abbrev Y127.id:FuncId:=143
abbrev Y102.id:FuncId:=144
abbrev Y151.id:FuncId:=145
abbrev Y98.id:FuncId:=146
abbrev Y28.id:FuncId:=147
abbrev Y15.id:FuncId:=148
abbrev Y59.id:FuncId:=149
abbrev Y56.id:FuncId:=150
abbrev Y75.id:FuncId:=151
abbrev Y9.id:FuncId:=152
abbrev Y12.id:FuncId:=153
abbrev Y23.id:FuncId:=154
abbrev Y106.id:FuncId:=155
abbrev Y57.id:FuncId:=156
abbrev Y79.id:FuncId:=157
abbrev Y97.id:FuncId:=158
abbrev Y94.id:FuncId:=159
abbrev Y92.id:FuncId:=160
abbrev Y43.id:FuncId:=161
abbrev Y64.id:FuncId:=162
abbrev Y69.id:FuncId:=163
abbrev Y49.id:FuncId:=164
variable [XR]
noncomputable def Y85.body:Code:=(Tryz.f10.body).getD .skip
def Y85.ann:Ann:=(sl [1] (sl [1] (sl [2] lf)))
theorem Y85.dist:aL (places Y85.ann Y85.body)=true:=by kernel_rfl
noncomputable def Y85.J (Q:AV→aA→Prop):JT:=bJ prog C Tryz.f10 Y85.ann Y85.body Q
def Y85.t (Q:AV→aA→Prop) (x0:AV) (h:aA) (J:JT):Prop:=
dS (some 23) x0 h fun v0 h1=>
aB 0 v0 fun v3=>
aD v3 h1 fun v4=>
asI .i64 v4 fun n5=>
aM (mmI false (mmI true n5 0) 65536) fun n6=>
aB 1 v0 fun v7=>
aD v7 h1 fun v8=>
asI .i64 v8 fun n9=>
aM (mmI false (mmI true n9 1) 1100) fun n10=>
aB 0 v0 fun v11=>
aP 1 v11 (AV.i .i64 n6) h1 fun h12=>
aB 1 v0 fun v13=>
aP 1 v13 (AV.i .i64 n10) h12 fun h14=>
dC 2 v0 h14 fun v16=>
f9 [(AV.i .i64 0),(AV.i .i64 0),(AV.i .i64 0),(AV.i .i64 0),(AV.i .u32 0),(AV.i .i64 0),(AV.sl none 0 none),(AV.i .i64 0),(AV.i .i64 0),(AV.p none),(AV.i .u32 0),(AV.i .i64 0),(AV.s []),(AV.b false),(AV.b false),(AV.sl none 0 none),(AV.sl none 0 none)] [(7,2,v16)] fun v17=>
dS (some 58) v17 h14 fun v18 h19=>
Q v18 h19
theorem Y85.call {K x0 h} (H:Y85.t (aH h K) x0 h (Y85.J (aH h K))):C Y85.id [x0] h K:=
 gC Y85.J Tryz.func10 Y85.dist H
noncomputable def Y87.body:Code:=(Tryz.f11.body).getD .skip
def Y87.ann:Ann:=(sl [1] (sl [2] lf))
theorem Y87.dist:aL (places Y87.ann Y87.body)=true:=by kernel_rfl
noncomputable def Y87.J (Q:AV→aA→Prop):JT:=bJ prog C Tryz.f11 Y87.ann Y87.body Q
def Y87.t (Q:AV→aA→Prop) (x0:AV) (h:aA) (J:JT):Prop:=
dS (some 23) x0 h fun v0 h1=>
aB 1 v0 fun v3=>
aD v3 h1 fun v4=>
asI .i64 v4 fun n5=>
aB 0 v0 fun v6=>
aD v6 h1 fun v7=>
asI .i64 v7 fun n8=>
aM (mmI false (mmI true n8 0) 65536) fun n9=>
dS (some 64) (AV.ag [(AV.sl none 0 none),(AV.sl none 0 none),(AV.i .i64 0),(AV.i .i64 0),(AV.i .i64 n5),(AV.i .i64 n9),(AV.s []),(AV.p none),(AV.s []),(AV.i .u32 0),(AV.i .i64 0),(AV.b false),(AV.b false)]) h1 fun v10 h11=>
Q v10 h11
theorem Y87.call {K x0 h} (H:Y87.t (aH h K) x0 h (Y87.J (aH h K))):C Y87.id [x0] h K:=
 gC Y87.J Tryz.func11 Y87.dist H
noncomputable def Y8.body:Code:=(Tryz.f12.body).getD .skip
def Y8.ann:Ann:=(sl [0,1] (sq [0,1] (.one (sl [0,1,9] (.br (sl [4,5] lf) (sl [0,1,12] (.br (sl [4,5] lf) lf))))) (sl [0,1,6] (sq [6] (.one (.loop 1 [0,1,6] (sq [0,1,6] (sl [0,1,6,18] bl) (.one (sl [0,1,6] (sl [0,1,6] (.seq 3 [0,1,6,8] (.one (sl [0,1,6,25] (.br lf (sl [0,1,6,35] (.br (sq [0,1,6,8] (.ord (nn 0 5 (.eff 5 (.neu 6 .done) .stop))) (sl [0,1,6,8] (.seq 2 [0,1,6,8,59] lf bl))) (sl [0,1,6,62] (.br (sl [0,1,6,7,8] lf) (sl [0,1,6,8] lf)))))))) (sl [0,1,6,8,78] (.br (sl [6,8] (sl [4,5] lf)) lf))))))))) (sl [4,5] lf)))))
theorem Y8.dist:aL (places Y8.ann Y8.body)=true:=by kernel_rfl
noncomputable def Y8.J (Q:AV→aA→Prop):JT:=bJ prog C Tryz.f12 Y8.ann Y8.body Q
def Y8.p1 (Q:AV→aA→Prop) (x0:AV) (x1:List UInt8) (x6:AV) (x8:Int) (x59:Bool) (h:aA):Prop:=Y8.J Q 2 [(0,x0),(1,(AV.s x1)),(6,x6),(8,(AV.i .i64 x8)),(59,(AV.b x59))] h
def Y8.p2 (Q:AV→aA→Prop) (x0:AV) (x1:List UInt8) (x6:AV) (x8:Int) (h:aA):Prop:=Y8.J Q 3 [(0,x0),(1,(AV.s x1)),(6,x6),(8,(AV.i .i64 x8))] h
def Y8.p0 (Q:AV→aA→Prop) (x0:AV) (x1:List UInt8) (x6:AV) (h:aA):Prop:=Y8.J Q 1 [(0,x0),(1,(AV.s x1)),(6,x6)] h
def Y8.t1 (Q:AV→aA→Prop) (x0:AV) (x1:List UInt8) (x6:AV) (x8:Int) (x59:Bool) (h:aA) (J:JT):Prop:=
(bif x59 then
(C Y93.id [x0] h fun v52 h53=>
J 3 [(0,x0),(1,(AV.s x1)),(6,x6),(8,(AV.i .i64 x8))] h53)
else
(J 3 [(0,x0),(1,(AV.s x1)),(6,x6),(8,(AV.i .i64 x8))] h))
theorem Y8.i1 {Q x0 x1 x6 x8 x59 h} (H:Y8.t1 Q x0 x1 x6 x8 x59 h (Y8.J Q)):Y8.p1 Q x0 x1 x6 x8 x59 h:=gR Y8.J Tryz.f12 Y8.dist [1,1,1,0,0,0,1,0,1,1,0,0,1,1,1,0,1,1,1] H
def Y8.t2 (Q:AV→aA→Prop) (x0:AV) (x1:List UInt8) (x6:AV) (x8:Int) (h:aA) (J:JT):Prop:=
(bif (!decide ((x8:Int)=0)) then
(aK x0 fun v82=>
aB 14 v82 fun v83=>
aP 1 v83 (AV.b true) h fun h84=>
C Y63.id [x6] h84 fun v86 h87=>
asS v86 fun l88=>
Q (AV.tu [(AV.s l88),(AV.i .i64 x8)]) h87)
else
(J 1 [(0,x0),(1,(AV.s x1)),(6,x6)] h))
theorem Y8.i2 {Q x0 x1 x6 x8 h} (H:Y8.t2 Q x0 x1 x6 x8 h (Y8.J Q)):Y8.p2 Q x0 x1 x6 x8 h:=gR Y8.J Tryz.f12 Y8.dist [1,1,1,0,0,0,1,0,1,1,1] H
def Y8.t0 (Q:AV→aA→Prop) (x0:AV) (x1:List UInt8) (x6:AV) (h:aA) (J:JT):Prop:=
(bif (!(decide ((x1:List UInt8)=[]))) then
(aK x0 fun v20=>
aB 13 v20 fun v21=>
aD v21 h fun v22=>
asB v22 fun c23=>
(bif (!c23) then
(cK (AV.s x1) (AV.i .i64 0) fun n25=>
C Y77.id [x0,(AV.i .u8 n25)] h fun v26 h27=>
asI .i64 v26 fun n28=>
J 3 [(0,x0),(1,(AV.s x1)),(6,x6),(8,(AV.i .i64 n28))] h27)
else
(aK x0 fun v30=>
aB 0 v30 fun v31=>
aB 0 v31 fun v32=>
aD v32 h fun v33=>
asI .i64 v33 fun n34=>
(bif (decide ((n34:Int)<8)) then
(aK x0 fun v36=>
aB 0 v36 fun v37=>
cK (AV.s x1) (AV.i .i64 0) fun n38=>
C Y4.id [v37,(AV.i .u8 n38)] h fun v39 h40=>
asI .i64 v39 fun n41=>
bV (AV.s x1) (some (AV.i .i64 1)) none fun l43=>
(bif (decide ((n41:Int)=0)) then
(aK x0 fun v45=>
aB 0 v45 fun v46=>
aB 0 v46 fun v47=>
aD v47 h40 fun v48=>
asI .i64 v48 fun n49=>
J 2 [(0,x0),(1,(AV.s l43)),(6,x6),(8,(AV.i .i64 n41)),(59,(AV.b (decide ((n49:Int)=8))))] h40)
else
(J 2 [(0,x0),(1,(AV.s l43)),(6,x6),(8,(AV.i .i64 n41)),(59,(AV.b false))] h40)))
else
(aK x0 fun v56=>
aB 9 v56 fun v57=>
aD v57 h fun v58=>
cI prog .neq 55 v58 (AV.p none) fun v59=>
asB v59 fun c60=>
(bif c60 then
(C Y22.id [x0,(AV.s x1)] h fun v62 h63=>
aO 0 v62 fun v64=>
asS v64 fun l65=>
aO 1 v62 fun v66=>
asS v66 fun l67=>
aO 2 v62 fun v68=>
asI .i64 v68 fun n69=>
C Y91.id [x6,(AV.s l65)] h63 fun v71 h72=>
J 3 [(0,x0),(1,(AV.s l67)),(6,x6),(8,(AV.i .i64 n69))] h72)
else
(cK (AV.s x1) (AV.i .i64 0) fun n74=>
C Y46.id [x0,(AV.i .u8 n74)] h fun v75 h76=>
asI .i64 v75 fun n77=>
bV (AV.s x1) (some (AV.i .i64 1)) none fun l79=>
J 3 [(0,x0),(1,(AV.s l79)),(6,x6),(8,(AV.i .i64 n77))] h76)))))))
else
(C Y63.id [x6] h fun v91 h92=>
asS v91 fun l93=>
Q (AV.tu [(AV.s l93),(AV.i .i64 0)]) h92))
theorem Y8.i0 {Q x0 x1 x6 h} (H:Y8.t0 Q x0 x1 x6 h (Y8.J Q)):Y8.p0 Q x0 x1 x6 h:=gH Y8.J Tryz.f12 Y8.dist [1,1,1,0,0] H
def Y8.t (Q:AV→aA→Prop) (x0:AV) (x1:List UInt8) (h:aA) (J:JT):Prop:=
cI prog .eql 26 x0 (AV.p none) fun v1=>
asB v1 fun c2=>
(bif c2 then
(Q (AV.tu [(AV.s []),(AV.i .i64 6)]) h)
else
(aK x0 fun v5=>
aB 14 v5 fun v6=>
aD v6 h fun v7=>
asB v7 fun c8=>
(bif c8 then
(Q (AV.tu [(AV.s []),(AV.i .i64 10)]) h)
else
(eK (some 67) [(AV.p none),(AV.sl none 0 none)] h fun v12 h13=>
J 1 [(0,x0),(1,(AV.s x1)),(6,v12)] h13))))
theorem Y8.call {K x0 x1 h} (H:Y8.t (aH h K) x0 x1 h (Y8.J (aH h K))):C Y8.id [x0,(AV.s x1)] h K:=
 gC Y8.J Tryz.func12 Y8.dist H
noncomputable def Y21.body:Code:=(Tryz.f13.body).getD .skip
def Y21.ann:Ann:=(sl [0,1] (sq [0,1] (sl [0,1,11] (.br (sl [4,5] lf) lf)) (sq [0,1] (sl [0,1,15] (.br (sl [4,5] lf) lf)) (sl [0,1,6] (sq [6] (.one (.loop 1 [0,1,6] (sq [0,1,6] (sl [0,1,6,18] bl) (.one (sl [0,1,6,7,8,9] (sl [0,1,6,7,8,9] (sq [0,1,6,7,8] (sl [0,1,6,7,8,9,30] (.br (sl [6,9] (sl [4,5] lf)) lf)) (sl [0,1,6,7,8] (sq [0,1,6] (.ord (nn 0 19 (.eff 19 .done .stop))) (.seq 2 [0,1,6,69] lf (.br (.ord (nn 0 9 (.eff 9 (.eff 10 (nn 11 2 (.eff 13 .done .stop)) .stop) .stop))) lf))))))))))) (sl [4,5] lf))))))
theorem Y21.dist:aL (places Y21.ann Y21.body)=true:=by kernel_rfl
noncomputable def Y21.J (Q:AV→aA→Prop):JT:=bJ prog C Tryz.f13 Y21.ann Y21.body Q
def Y21.p1 (Q:AV→aA→Prop) (x0:AV) (x1 x6:List UInt8) (x69:Bool) (h:aA):Prop:=Y21.J Q 2 [(0,x0),(1,(AV.s x1)),(6,(AV.s x6)),(69,(AV.b x69))] h
def Y21.p0 (Q:AV→aA→Prop) (x0:AV) (x1 x6:List UInt8) (h:aA):Prop:=Y21.J Q 1 [(0,x0),(1,(AV.s x1)),(6,(AV.s x6))] h
def Y21.t1 (Q:AV→aA→Prop) (x0:AV) (x1 x6:List UInt8) (x69:Bool) (h:aA) (J:JT):Prop:=
(bif x69 then
(aK x0 fun v64=>
aB 1 v64 fun v65=>
aD v65 h fun v66=>
aK x0 fun v67=>
aB 2 v67 fun v68=>
dC 2 v68 h fun v69=>
bP 2 1 [(AV.i .i64 0),(AV.i .i64 0)] [(0,2,v69)] h fun v70 h71=>
aD v65 h71 fun v72=>
(v66=v72 ∧
(bU none 2 16 v66 v70 h71 fun v73 h74=>
aK x0 fun v75=>
aB 1 v75 fun v76=>
aP 1 v76 v73 h74 fun h77=>
J 1 [(0,x0),(1,(AV.s x1)),(6,(AV.s x6))] h77)))
else
(J 1 [(0,x0),(1,(AV.s x1)),(6,(AV.s x6))] h))
theorem Y21.i1 {Q x0 x1 x6 x69 h} (H:Y21.t1 Q x0 x1 x6 x69 h (Y21.J Q)):Y21.p1 Q x0 x1 x6 x69 h:=gR Y21.J Tryz.f13 Y21.dist [1,1,1,1,0,0,0,1,0,1,1,1,1,1,1] H
def Y21.t0 (Q:AV→aA→Prop) (x0:AV) (x1 x6:List UInt8) (h:aA) (J:JT):Prop:=
(bif (decide ((0:Int)<(x1.length:Int))) then
(C Y47.id [x0,(AV.s x1)] h fun v17 h18=>
aO 0 v17 fun v19=>
asS v19 fun l20=>
aO 1 v17 fun v21=>
asI .i64 v21 fun n22=>
aO 2 v17 fun v23=>
asI .i64 v23 fun n24=>
aHX x6 l20 fun l26=>
(bif (!decide ((n24:Int)=0)) then
(aK x0 fun v29=>
aB 11 v29 fun v30=>
aP 1 v30 (AV.b true) h18 fun h31=>
Q (AV.tu [(AV.s l26),(AV.i .i64 n24)]) h31)
else
(bV (AV.s x1) (some (AV.i .i64 n22)) none fun l35=>
aK x0 fun v37=>
aB 2 v37 fun v38=>
aB 0 v38 fun v39=>
aD v39 h18 fun v40=>
asI .i64 v40 fun n41=>
aM (IntKind.wrap .i64 (n41+n22)) fun n42=>
aK x0 fun v43=>
aB 2 v43 fun v44=>
aB 1 v44 fun v45=>
aD v45 h18 fun v46=>
asI .i64 v46 fun n47=>
aM (IntKind.wrap .i64 (n47+(l20.length:Int))) fun n48=>
aK x0 fun v49=>
aB 2 v49 fun v50=>
aP 2 v50 (AV.ag [(AV.i .i64 n42),(AV.i .i64 n48)]) h18 fun h51=>
aK x0 fun v53=>
aB 7 v53 fun v54=>
aD v54 h51 fun v55=>
cI prog .eql 62 v55 (AV.p none) fun v56=>
asB v56 fun c57=>
(bif c57 then
(aK x0 fun v58=>
aB 6 v58 fun v59=>
aD v59 h51 fun v60=>
asS v60 fun l61=>
J 2 [(0,x0),(1,(AV.s l35)),(6,(AV.s l26)),(69,(AV.b (decide ((l61:List UInt8)=[]))))] h51)
else
(J 2 [(0,x0),(1,(AV.s l35)),(6,(AV.s l26)),(69,(AV.b false))] h51)))))
else
(Q (AV.tu [(AV.s x6),(AV.i .i64 0)]) h))
theorem Y21.i0 {Q x0 x1 x6 h} (H:Y21.t0 Q x0 x1 x6 h (Y21.J Q)):Y21.p0 Q x0 x1 x6 h:=gH Y21.J Tryz.f13 Y21.dist [1,1,1,1,0,0] H
def Y21.t (Q:AV→aA→Prop) (x0:AV) (x1:List UInt8) (h:aA) (J:JT):Prop:=
cI prog .eql 28 x0 (AV.p none) fun v1=>
asB v1 fun c2=>
(bif c2 then
(Q (AV.tu [(AV.s []),(AV.i .i64 6)]) h)
else
(aK x0 fun v6=>
aB 11 v6 fun v7=>
aD v7 h fun v8=>
asB v8 fun c9=>
(bif c9 then
(Q (AV.tu [(AV.s []),(AV.i .i64 10)]) h)
else
(J 1 [(0,x0),(1,(AV.s x1)),(6,(AV.s []))] h))))
theorem Y21.call {K x0 x1 h} (H:Y21.t (aH h K) x0 x1 h (Y21.J (aH h K))):C Y21.id [x0,(AV.s x1)] h K:=
 gC Y21.J Tryz.func13 Y21.dist H
noncomputable def Y40.body:Code:=(Tryz.f14.body).getD .skip
def Y40.ann:Ann:=(sl [0] (sq [] (.one (sl [0,3] (.br (sl [2] lf) (sl [0,6] (.br (sl [2] lf) (.seq 1 [11] lf (.br (sl [2] lf) lf))))))) (sl [2] lf)))
theorem Y40.dist:aL (places Y40.ann Y40.body)=true:=by kernel_rfl
noncomputable def Y40.J (Q:AV→aA→Prop):JT:=bJ prog C Tryz.f14 Y40.ann Y40.body Q
def Y40.p0 (Q:AV→aA→Prop) (x11:Bool) (h:aA):Prop:=Y40.J Q 1 [(11,(AV.b x11))] h
def Y40.t0 (Q:AV→aA→Prop) (x11:Bool) (h:aA) (J:JT):Prop:=
(bif x11 then
(Q (AV.i .i64 1) h)
else
(Q (AV.i .i64 0) h))
theorem Y40.i0 {Q x11 h} (H:Y40.t0 Q x11 h (Y40.J Q)):Y40.p0 Q x11 h:=gR Y40.J Tryz.f14 Y40.dist [1,0,0,1,1,1,1,1] H
def Y40.t (Q:AV→aA→Prop) (x0:AV) (h:aA) (J:JT):Prop:=
cI prog .eql 26 x0 (AV.p none) fun v1=>
asB v1 fun c2=>
(bif c2 then
(Q (AV.i .i64 6) h)
else
(aK x0 fun v5=>
aB 14 v5 fun v6=>
aD v6 h fun v7=>
asB v7 fun c8=>
(bif c8 then
(Q (AV.i .i64 10) h)
else
(aK x0 fun v11=>
aB 13 v11 fun v12=>
aD v12 h fun v13=>
asB v13 fun c14=>
(bif c14 then
(J 1 [(11,(AV.b true))] h)
else
(aK x0 fun v16=>
aB 15 v16 fun v17=>
aD v17 h fun v18=>
bR v18 fun n19=>
J 1 [(11,(AV.b (decide ((n19:Int)=0))))] h))))))
theorem Y40.call {K x0 h} (H:Y40.t (aH h K) x0 h (Y40.J (aH h K))):C Y40.id [x0] h K:=
 gC Y40.J Tryz.func14 Y40.dist H
noncomputable def Y39.body:Code:=(Tryz.f15.body).getD .skip
def Y39.ann:Ann:=(sl [0] (sq [0] (sl [0,4] (.br (sl [2] lf) lf)) (sq [0] (sl [0,8] (.br (sl [2] lf) lf)) (sq [] (.seq 1 [27] lf (.br (sl [2] lf) lf)) (sl [2] lf)))))
theorem Y39.dist:aL (places Y39.ann Y39.body)=true:=by kernel_rfl
noncomputable def Y39.J (Q:AV→aA→Prop):JT:=bJ prog C Tryz.f15 Y39.ann Y39.body Q
def Y39.p0 (Q:AV→aA→Prop) (x27:Bool) (h:aA):Prop:=Y39.J Q 1 [(27,(AV.b x27))] h
def Y39.t0 (Q:AV→aA→Prop) (x27:Bool) (h:aA) (J:JT):Prop:=
(bif x27 then
(Q (AV.i .i64 1) h)
else
(Q (AV.i .i64 0) h))
theorem Y39.i0 {Q x27 h} (H:Y39.t0 Q x27 h (Y39.J Q)):Y39.p0 Q x27 h:=gR Y39.J Tryz.f15 Y39.dist [1,1,1,0,1] H
def Y39.t (Q:AV→aA→Prop) (x0:AV) (h:aA) (J:JT):Prop:=
cI prog .eql 28 x0 (AV.p none) fun v1=>
asB v1 fun c2=>
(bif c2 then
(Q (AV.i .i64 6) h)
else
(aK x0 fun v6=>
aB 11 v6 fun v7=>
aD v7 h fun v8=>
asB v8 fun c9=>
(bif c9 then
(Q (AV.i .i64 10) h)
else
(aK x0 fun v13=>
aB 12 v13 fun v14=>
aD v14 h fun v15=>
asB v15 fun c16=>
(bif (!c16) then
(J 1 [(27,(AV.b true))] h)
else
(aK x0 fun v18=>
aB 7 v18 fun v19=>
aD v19 h fun v20=>
cI prog .neq 62 v20 (AV.p none) fun v21=>
asB v21 fun c22=>
(bif c22 then
(J 1 [(27,(AV.b true))] h)
else
(aK x0 fun v24=>
aB 6 v24 fun v25=>
aD v25 h fun v26=>
asS v26 fun l27=>
J 1 [(27,(AV.b (!(decide ((l27:List UInt8)=[])))))] h))))))))
theorem Y39.call {K x0 h} (H:Y39.t (aH h K) x0 h (Y39.J (aH h K))):C Y39.id [x0] h K:=
 gC Y39.J Tryz.func15 Y39.dist H
noncomputable def Y77.body:Code:=(Tryz.f23.body).getD .skip
def Y77.ann:Ann:=(sl [0,1] (sq [0] (.one (sl [0,5] (.br (sl [4] lf) (sl [0,9] (.br (sl [4] lf) lf))))) (sl [] (sl [4] lf))))
theorem Y77.dist:aL (places Y77.ann Y77.body)=true:=by kernel_rfl
noncomputable def Y77.J (Q:AV→aA→Prop):JT:=bJ prog C Tryz.f23 Y77.ann Y77.body Q
def Y77.t (Q:AV→aA→Prop) (x0:AV) (x1:Int) (h:aA) (J:JT):Prop:=
cK (AV.s [31,139,8]) (AV.i .i64 0) fun n1=>
(bif (!decide ((x1:Int)=n1)) then
(Q (AV.i .i64 2) h)
else
(aK x0 fun v4=>
aB 15 v4 fun v5=>
aD v5 h fun v6=>
bR v6 fun n7=>
(bif (decide ((n7:Int)=16)) then
(Q (AV.i .i64 3) h)
else
(aK x0 fun v11=>
aB 0 v11 fun v12=>
aP 7 v12 (AV.ag [(AV.i .i64 0),(AV.i .i64 0),(AV.i .i64 0),(AV.i .i64 0),(AV.i .u32 0),(AV.i .i64 0),(AV.sl none 0 none)]) h fun h13=>
aK x0 fun v14=>
aB 13 v14 fun v15=>
aP 1 v15 (AV.b true) h13 fun h16=>
Q (AV.i .i64 0) h16))))
theorem Y77.call {K x0 x1 h} (H:Y77.t (aH h K) x0 x1 h (Y77.J (aH h K))):C Y77.id [x0,(AV.i .u8 x1)] h K:=
 gC Y77.J Tryz.func23 Y77.dist H
noncomputable def Y4.body:Code:=(Tryz.f24.body).getD .skip
def Y4.ann:Ann:=(sl [0,1] (sl [0,1,5] (sq [0,1,5] (.ord (nn 0 6 (.eff 6 (.neu 7 (.eff 8 (nn 9 2 (.eff 11 .done .stop)) .stop)) .stop))) (sl [0,1,5] (sl [0,1,5,6] (.seq 4 [0,6] (sl [0,1,5,6,32] (.one (sl [0,1,5,6,32,33] (.br (sq [0] (sl [0,42] (.br (sl [4] lf) lf)) lf) (sl [0,1,5,6,32,48] (.br (sq [0,1] (sl [0,1,52] (.br (sl [4] lf) lf)) lf) (sl [0,1,5,6,32,58] (.br lf (sl [0,1,5,6,32,65] (.br (sq [0] (.ord (nn 0 16 (.eff 16 .done .stop))) lf) (sl [0,1,5,6,32,88] (.br (.ord (nn 0 10 .done)) (sl [0,1,5,6,32,99] (.br (sl [0,1,6] (sq [0,1,6] (.seq 1 [0,1,6,111] lf (.br (sl [4] lf) lf)) (sl [0,1,6,113] bl))) (sl [0,1,5,6,32,124] (.br lf (sl [0,1,5,6,128] (.br (.seq 2 [0,1] (sl [0,1,5,134] bl) (sq [0] (.ord (nn 0 16 (.eff 16 .done .stop))) (sl [0,6] (.seq 3 [0,6,169] lf (.br (sl [4] lf) lf))))) lf)))))))))))))))))) (.seq 5 [] (sl [0,170] bl) (sl [4] lf))))))))
theorem Y4.dist:aL (places Y4.ann Y4.body)=true:=by kernel_rfl
noncomputable def Y4.J (Q:AV→aA→Prop):JT:=bJ prog C Tryz.f24 Y4.ann Y4.body Q
def Y4.p0 (Q:AV→aA→Prop) (x0:AV) (x1:Int) (x6 x111:Bool) (h:aA):Prop:=Y4.J Q 1 [(0,x0),(1,(AV.i .u8 x1)),(6,(AV.b x6)),(111,(AV.b x111))] h
def Y4.p2 (Q:AV→aA→Prop) (x0:AV) (x6 x169:Bool) (h:aA):Prop:=Y4.J Q 3 [(0,x0),(6,(AV.b x6)),(169,(AV.b x169))] h
def Y4.p1 (Q:AV→aA→Prop) (x0:AV) (x1:Int) (h:aA):Prop:=Y4.J Q 2 [(0,x0),(1,(AV.i .u8 x1))] h
def Y4.p4 (Q:AV→aA→Prop) (h:aA):Prop:=Y4.J Q 5 [] h
def Y4.p3 (Q:AV→aA→Prop) (x0:AV) (x6:Bool) (h:aA):Prop:=Y4.J Q 4 [(0,x0),(6,(AV.b x6))] h
def Y4.t0 (Q:AV→aA→Prop) (x0:AV) (x1:Int) (x6 x111:Bool) (h:aA) (J:JT):Prop:=
(bif x111 then
(Q (AV.i .i64 3) h)
else
((bif (!x6) then
(aK x0 fun v109=>
aB 6 v109 fun v110=>
aD v110 h fun v111=>
bP 1 1 [(AV.i .u8 0)] [(0,1,(AV.i .u8 x1))] h fun v112 h113=>
bU (some 5) 1 1 v111 v112 h113 fun v114 h115=>
aK x0 fun v116=>
aB 6 v116 fun v117=>
aP 1 v117 v114 h115 fun h118=>
J 4 [(0,x0),(6,(AV.b x6))] h118)
else
(J 4 [(0,x0),(6,(AV.b x6))] h))))
theorem Y4.i0 {Q x0 x1 x6 x111 h} (H:Y4.t0 Q x0 x1 x6 x111 h (Y4.J Q)):Y4.p0 Q x0 x1 x6 x111 h:=gR Y4.J Tryz.f24 Y4.dist [1,1,1,1,1,0,1,0,1,1,1,1,1,1,1,1,1,1,1,0,1,0,1] H
def Y4.t2 (Q:AV→aA→Prop) (x0:AV) (x6 x169:Bool) (h:aA) (J:JT):Prop:=
(bif x169 then
(Q (AV.i .i64 8) h)
else
(J 4 [(0,x0),(6,(AV.b x6))] h))
theorem Y4.i2 {Q x0 x6 x169 h} (H:Y4.t2 Q x0 x6 x169 h (Y4.J Q)):Y4.p2 Q x0 x6 x169 h:=gR Y4.J Tryz.f24 Y4.dist [1,1,1,1,1,0,1,0,1,1,1,1,1,1,1,1,1,1,1,1,1,1,1,0,1,1,1,1] H
def Y4.t1 (Q:AV→aA→Prop) (x0:AV) (x1:Int) (h:aA) (J:JT):Prop:=
aK x0 fun v135=>
aB 5 v135 fun v136=>
aD v136 h fun v137=>
asI .i64 v137 fun n138=>
aK x0 fun v139=>
aB 1 v139 fun v140=>
aD v140 h fun v141=>
asI .i64 v141 fun n142=>
aM (IntKind.wrap .i64 (n142 - 1)) fun n143=>
aM (IntKind.wrap .i64 (8 * n143)) fun n144=>
mU .i64 (IntKind.wrap .i64 x1) n144 fun n145=>
aM (bA .xor .i64 n138 n145) fun n146=>
aK x0 fun v147=>
aB 5 v147 fun v148=>
aP 1 v148 (AV.i .i64 n146) h fun h149=>
aK x0 fun v151=>
aB 1 v151 fun v152=>
aD v152 h149 fun v153=>
asI .i64 v153 fun n154=>
(bif (decide ((n154:Int)=2)) then
(aK x0 fun v156=>
aB 5 v156 fun v157=>
aD v157 h149 fun v158=>
asI .i64 v158 fun n159=>
J 3 [(0,x0),(6,(AV.b (decide ((n154:Int)=2)))),(169,(AV.b (!decide ((n159:Int)=0))))] h149)
else
(J 3 [(0,x0),(6,(AV.b (decide ((n154:Int)=2)))),(169,(AV.b false))] h149))
theorem Y4.i1 {Q x0 x1 h} (H:Y4.t1 Q x0 x1 h (Y4.J Q)):Y4.p1 Q x0 x1 h:=gR Y4.J Tryz.f24 Y4.dist [1,1,1,1,1,0,1,0,1,1,1,1,1,1,1,1,1,1,1,1,1,1,1,0,1] H
def Y4.t4 (Q:AV→aA→Prop) (h:aA) (J:JT):Prop:=
Q (AV.i .i64 0) h
theorem Y4.i4 {Q h} (H:Y4.t4 Q h (Y4.J Q)):Y4.p4 Q h:=gR Y4.J Tryz.f24 Y4.dist [1,1,1,1,1,1,1] H
def Y4.t3 (Q:AV→aA→Prop) (x0:AV) (x6:Bool) (h:aA) (J:JT):Prop:=
(bif x6 then
(C Y95.id [x0] h fun v166 h167=>
J 5 [] h167)
else
(J 5 [] h))
theorem Y4.i3 {Q x0 x6 h} (H:Y4.t3 Q x0 x6 h (Y4.J Q)):Y4.p3 Q x0 x6 h:=gR Y4.J Tryz.f24 Y4.dist [1,1,1,1,1,1] H
def Y4.t (Q:AV→aA→Prop) (x0:AV) (x1:Int) (h:aA) (J:JT):Prop:=
aK x0 fun v1=>
aB 4 v1 fun v2=>
aD v2 h fun v3=>
asI .u32 v3 fun n4=>
aK x0 fun v6=>
aB 4 v6 fun v7=>
aD v7 h fun v8=>
asI .u32 v8 fun n9=>
bP 1 1 [(AV.i .u8 0)] [(0,1,(AV.i .u8 x1))] h fun v10 h11=>
aD v7 h11 fun v12=>
asI .u32 v12 fun n13=>
((AV.i .u32 n9)=(AV.i .u32 n13) ∧
(cJ v10 h11 fun l14=>
C Y36.id [(AV.i .u32 n9),(AV.s l14)] h11 fun v15 h16=>
asI .u32 v15 fun n17=>
aK x0 fun v18=>
aB 4 v18 fun v19=>
aP 1 v19 (AV.i .u32 n17) h16 fun h20=>
aK x0 fun v22=>
aB 1 v22 fun v23=>
aD v23 h20 fun v24=>
asI .i64 v24 fun n25=>
aM (IntKind.wrap .i64 (n25+1)) fun n26=>
aK x0 fun v27=>
aB 1 v27 fun v28=>
aP 1 v28 (AV.i .i64 n26) h20 fun h29=>
aK x0 fun v32=>
aB 0 v32 fun v33=>
aD v33 h29 fun v34=>
asI .i64 v34 fun n35=>
(bif (decide ((n35:Int)=0)) then
(aK x0 fun v38=>
aB 1 v38 fun v39=>
aD v39 h29 fun v40=>
asI .i64 v40 fun n41=>
aM (IntKind.wrap .i64 (n41 - 1)) fun n42=>
cK (AV.s [31,139,8]) (AV.i .i64 n42) fun n43=>
(bif (!decide ((x1:Int)=n43)) then
(Q (AV.i .i64 2) h29)
else
(aK x0 fun v47=>
aB 1 v47 fun v48=>
aD v48 h29 fun v49=>
asI .i64 v49 fun n50=>
J 4 [(0,x0),(6,(AV.b (decide ((n50:Int)=3))))] h29)))
else
((bif (decide ((n35:Int)=1)) then
((bif (decide ((31:Int)<(IntKind.wrap .i64 x1))) then
(Q (AV.i .i64 2) h29)
else
(aK x0 fun v56=>
aB 2 v56 fun v57=>
aP 1 v57 (AV.i .i64 (IntKind.wrap .i64 x1)) h29 fun h58=>
J 4 [(0,x0),(6,(AV.b true))] h58)))
else
((bif (decide ((n35:Int)=2)) then
(aK x0 fun v61=>
aB 1 v61 fun v62=>
aD v62 h29 fun v63=>
asI .i64 v63 fun n64=>
J 4 [(0,x0),(6,(AV.b (decide ((n64:Int)=6))))] h29)
else
((bif (decide ((n35:Int)=3)) then
(aK x0 fun v67=>
aB 3 v67 fun v68=>
aD v68 h29 fun v69=>
asI .i64 v69 fun n70=>
aK x0 fun v71=>
aB 1 v71 fun v72=>
aD v72 h29 fun v73=>
asI .i64 v73 fun n74=>
aM (IntKind.wrap .i64 (n74 - 1)) fun n75=>
aM (IntKind.wrap .i64 (8 * n75)) fun n76=>
mU .i64 (IntKind.wrap .i64 x1) n76 fun n77=>
aM (bA .or .i64 n70 n77) fun n78=>
aK x0 fun v79=>
aB 3 v79 fun v80=>
aP 1 v80 (AV.i .i64 n78) h29 fun h81=>
aK x0 fun v83=>
aB 1 v83 fun v84=>
aD v84 h81 fun v85=>
asI .i64 v85 fun n86=>
J 4 [(0,x0),(6,(AV.b (decide ((n86:Int)=2))))] h81)
else
((bif (decide ((n35:Int)=4)) then
(aK x0 fun v89=>
aB 1 v89 fun v90=>
aD v90 h29 fun v91=>
asI .i64 v91 fun n92=>
aK x0 fun v93=>
aB 3 v93 fun v94=>
aD v94 h29 fun v95=>
asI .i64 v95 fun n96=>
J 4 [(0,x0),(6,(AV.b (decide ((n92:Int)=n96))))] h29)
else
((bif (decide ((n35:Int)=5)) then
((bif (!(decide ((x1:Int)=0))) then
(aK x0 fun v100=>
aB 1 v100 fun v101=>
aD v101 h29 fun v102=>
asI .i64 v102 fun n103=>
J 1 [(0,x0),(1,(AV.i .u8 x1)),(6,(AV.b (decide ((x1:Int)=0)))),(111,(AV.b (decide ((256:Int)<n103))))] h29)
else
(J 1 [(0,x0),(1,(AV.i .u8 x1)),(6,(AV.b (decide ((x1:Int)=0)))),(111,(AV.b false))] h29)))
else
((bif (decide ((n35:Int)=6)) then
(J 4 [(0,x0),(6,(AV.b (decide ((x1:Int)=0))))] h29)
else
((bif (decide ((n35:Int)=7)) then
(aK x0 fun v124=>
aB 1 v124 fun v125=>
aD v125 h29 fun v126=>
asI .i64 v126 fun n127=>
(bif (decide ((n127:Int)=1)) then
(aM (bA .and .u32 n4 65535) fun n129=>
aK x0 fun v130=>
aB 5 v130 fun v131=>
aP 1 v131 (AV.i .i64 (IntKind.wrap .i64 n129)) h29 fun h132=>
J 2 [(0,x0),(1,(AV.i .u8 x1))] h132)
else
(J 2 [(0,x0),(1,(AV.i .u8 x1))] h29)))
else
(J 4 [(0,x0),(6,(AV.b false))] h29))))))))))))))))))
theorem Y4.call {K x0 x1 h} (H:Y4.t (aH h K) x0 x1 h (Y4.J (aH h K))):C Y4.id [x0,(AV.i .u8 x1)] h K:=
 gC Y4.J Tryz.func24 Y4.dist H
noncomputable def Y93.body:Code:=(Tryz.f25.body).getD .skip
def Y93.ann:Ann:=(sl [0] (sl [0] (sq [0] (.ord (nn 0 11 (.eff 11 (.eff 12 (nn 13 2 (.eff 15 .done .stop)) .stop) .stop))) lf)))
theorem Y93.dist:aL (places Y93.ann Y93.body)=true:=by kernel_rfl
noncomputable def Y93.J (Q:AV→aA→Prop):JT:=bJ prog C Tryz.f25 Y93.ann Y93.body Q
def Y93.t (Q:AV→aA→Prop) (x0:AV) (h:aA) (J:JT):Prop:=
aK x0 fun v0=>
aB 7 v0 fun v1=>
dC 2 v1 h fun v2=>
C Y65.id [v2] h fun v3 h4=>
aK x0 fun v5=>
aB 9 v5 fun v6=>
aP 1 v6 v3 h4 fun h7=>
aK x0 fun v9=>
aB 10 v9 fun v10=>
aP 1 v10 (AV.i .u32 0) h7 fun h11=>
aK x0 fun v12=>
aB 11 v12 fun v13=>
aP 1 v13 (AV.i .i64 0) h11 fun h14=>
aK x0 fun v15=>
aB 12 v15 fun v16=>
aP 1 v16 (AV.s []) h14 fun h17=>
aK x0 fun v19=>
aB 15 v19 fun v20=>
aD v20 h17 fun v21=>
aK x0 fun v22=>
aB 0 v22 fun v23=>
aB 6 v23 fun v24=>
aD v24 h17 fun v25=>
cJ v25 h17 fun l26=>
bP 1 1 [(AV.s [])] [(0,1,(AV.s l26))] h17 fun v27 h28=>
aD v20 h28 fun v29=>
(v21=v29 ∧
(bU none 1 16 v21 v27 h28 fun v30 h31=>
aK x0 fun v32=>
aB 15 v32 fun v33=>
aP 1 v33 v30 h31 fun h34=>
aK x0 fun v36=>
aB 16 v36 fun v37=>
aD v37 h34 fun v38=>
bP 1 1 [(AV.i .i64 0)] [(0,1,(AV.i .i64 0))] h34 fun v39 h40=>
bU none 1 8 v38 v39 h40 fun v41 h42=>
aK x0 fun v43=>
aB 16 v43 fun v44=>
aP 1 v44 v41 h42 fun h45=>
Q (AV.tu []) h45))
theorem Y93.call {K x0 h} (H:Y93.t (aH h K) x0 h (Y93.J (aH h K))):C Y93.id [x0] h K:=
 gC Y93.J Tryz.func25 Y93.dist H
noncomputable def Y22.body:Code:=(Tryz.f26.body).getD .skip
def Y22.ann:Ann:=(sl [0,1,5] (sl [0,4,5,6] (sl [0,4,5,6] (sl [0,4,5,6] (sl [0,4,5,6] (sq [0,4,5,6] (.ord (nn 0 16 (.eff 16 .done .stop))) (.seq 2 [4,5,6] (.seq 1 [0,4,5,6,69] lf (.br (sl [0,4,5,6] lf) lf)) (sl [4,5,6] lf))))))))
theorem Y22.dist:aL (places Y22.ann Y22.body)=true:=by kernel_rfl
noncomputable def Y22.J (Q:AV→aA→Prop):JT:=bJ prog C Tryz.f26 Y22.ann Y22.body Q
def Y22.p0 (Q:AV→aA→Prop) (x0:AV) (x4 x5:List UInt8) (x6:Int) (x69:Bool) (h:aA):Prop:=Y22.J Q 1 [(0,x0),(4,(AV.s x4)),(5,(AV.s x5)),(6,(AV.i .i64 x6)),(69,(AV.b x69))] h
def Y22.p1 (Q:AV→aA→Prop) (x4 x5:List UInt8) (x6:Int) (h:aA):Prop:=Y22.J Q 2 [(4,(AV.s x4)),(5,(AV.s x5)),(6,(AV.i .i64 x6))] h
def Y22.t0 (Q:AV→aA→Prop) (x0:AV) (x4 x5:List UInt8) (x6:Int) (x69:Bool) (h:aA) (J:JT):Prop:=
(bif x69 then
(aK x0 fun v65=>
aB 9 v65 fun v66=>
aD v66 h fun v67=>
C Y100.id [v67] h fun v68 h69=>
asS v68 fun l70=>
aK x0 fun v72=>
aB 9 v72 fun v73=>
aP 1 v73 (AV.p none) h69 fun h74=>
J 2 [(4,(AV.s x4)),(5,(AV.s l70)),(6,(AV.i .i64 x6))] h74)
else
(J 2 [(4,(AV.s x4)),(5,(AV.s x5)),(6,(AV.i .i64 x6))] h))
theorem Y22.i0 {Q x0 x4 x5 x6 x69 h} (H:Y22.t0 Q x0 x4 x5 x6 x69 h (Y22.J Q)):Y22.p0 Q x0 x4 x5 x6 x69 h:=gR Y22.J Tryz.f26 Y22.dist [1,1,1,1,1,1,0,1] H
def Y22.t1 (Q:AV→aA→Prop) (x4 x5:List UInt8) (x6:Int) (h:aA) (J:JT):Prop:=
Q (AV.tu [(AV.s x4),(AV.s x5),(AV.i .i64 x6)]) h
theorem Y22.i1 {Q x4 x5 x6 h} (H:Y22.t1 Q x4 x5 x6 h (Y22.J Q)):Y22.p1 Q x4 x5 x6 h:=gR Y22.J Tryz.f26 Y22.dist [1,1,1,1,1,1,1] H
def Y22.t (Q:AV→aA→Prop) (x0:AV) (x1:List UInt8) (h:aA) (J:JT):Prop:=
aK x0 fun v1=>
aB 9 v1 fun v2=>
aD v2 h fun v3=>
C Y1.id [v3,(AV.s x1)] h fun v4 h5=>
aO 0 v4 fun v6=>
asS v6 fun l7=>
aO 1 v4 fun v8=>
asI .i64 v8 fun n9=>
aK x0 fun v11=>
aB 10 v11 fun v12=>
aD v12 h5 fun v13=>
asI .u32 v13 fun n14=>
C Y36.id [(AV.i .u32 n14),(AV.s l7)] h5 fun v15 h16=>
asI .u32 v15 fun n17=>
aK x0 fun v18=>
aB 10 v18 fun v19=>
aP 1 v19 (AV.i .u32 n17) h16 fun h20=>
aK x0 fun v22=>
aB 11 v22 fun v23=>
aD v23 h20 fun v24=>
asI .i64 v24 fun n25=>
aM (IntKind.wrap .i64 (n25+(l7.length:Int))) fun n26=>
aK x0 fun v27=>
aB 11 v27 fun v28=>
aP 1 v28 (AV.i .i64 n26) h20 fun h29=>
aK x0 fun v31=>
aB 7 v31 fun v32=>
aB 0 v32 fun v33=>
aD v33 h29 fun v34=>
asI .i64 v34 fun n35=>
aM (IntKind.wrap .i64 (n35 - (l7.length:Int))) fun n36=>
aK x0 fun v37=>
aB 7 v37 fun v38=>
aB 0 v38 fun v39=>
aP 1 v39 (AV.i .i64 n36) h29 fun h40=>
aK x0 fun v42=>
aB 16 v42 fun v43=>
aD v43 h40 fun v44=>
aK x0 fun v45=>
aB 16 v45 fun v46=>
aD v46 h40 fun v47=>
bR v47 fun n48=>
aM (IntKind.wrap .i64 (n48 - 1)) fun n49=>
aU 1 v44 (AV.i .i64 n49) h40 fun v50=>
aD v50 h40 fun v51=>
asI .i64 v51 fun n52=>
aM (IntKind.wrap .i64 (n52+(l7.length:Int))) fun n53=>
aU 1 v44 (AV.i .i64 n49) h40 fun v54=>
aP 1 v54 (AV.i .i64 n53) h40 fun h55=>
(bif (decide ((n9:Int)=0)) then
(aK x0 fun v57=>
aB 9 v57 fun v58=>
aD v58 h55 fun v59=>
C Y51.id [v59] h55 fun v60 h61=>
asB v60 fun c62=>
J 1 [(0,x0),(4,(AV.s l7)),(5,(AV.s [])),(6,(AV.i .i64 n9)),(69,(AV.b c62))] h61)
else
(J 1 [(0,x0),(4,(AV.s l7)),(5,(AV.s [])),(6,(AV.i .i64 n9)),(69,(AV.b false))] h55))
theorem Y22.call {K x0 x1 h} (H:Y22.t (aH h K) x0 x1 h (Y22.J (aH h K))):C Y22.id [x0,(AV.s x1)] h K:=
 gC Y22.J Tryz.func26 Y22.dist H
noncomputable def Y91.body:Code:=(Tryz.f27.body).getD .skip
def Y91.ann:Ann:=(sl [0,1] (sl [0,1] (sl [1] (sl [4,5] lf))))
theorem Y91.dist:aL (places Y91.ann Y91.body)=true:=by kernel_rfl
noncomputable def Y91.J (Q:AV→aA→Prop):JT:=bJ prog C Tryz.f27 Y91.ann Y91.body Q
def Y91.t (Q:AV→aA→Prop) (x0:AV) (x1:List UInt8) (h:aA) (J:JT):Prop:=
C Y89.id [x0] h fun v1 h2=>
aK x0 fun v4=>
aB 1 v4 fun v5=>
aD v5 h2 fun v6=>
bU (some 5) 1 1 v6 (AV.s x1) h2 fun v7 h8=>
aK x0 fun v9=>
aB 1 v9 fun v10=>
aP 1 v10 v7 h8 fun h11=>
Q (AV.tu [(AV.i .i64 (x1.length:Int)),AV.ni]) h11
theorem Y91.call {K x0 x1 h} (H:Y91.t (aH h K) x0 x1 h (Y91.J (aH h K))):C Y91.id [x0,(AV.s x1)] h K:=
 gC Y91.J Tryz.func27 Y91.dist H
noncomputable def Y46.body:Code:=(Tryz.f28.body).getD .skip
def Y46.ann:Ann:=(sl [0,1] (sq [0] (.ord (nn 0 5 (.eff 5 (nn 6 4 (.eff 10 .done .stop)) .stop))) (.seq 1 [] (sl [0,23] (.one (sl [0,23,24] (.br (sl [0,5] (sl [40] (.br (sl [4] lf) lf))) (sl [0,41] (.br (sq [0] (sl [0,7] (sl [0,56] (.br (sl [4] lf) lf))) lf) lf)))))) (sl [4] lf))))
theorem Y46.dist:aL (places Y46.ann Y46.body)=true:=by kernel_rfl
noncomputable def Y46.J (Q:AV→aA→Prop):JT:=bJ prog C Tryz.f28 Y46.ann Y46.body Q
def Y46.p0 (Q:AV→aA→Prop) (h:aA):Prop:=Y46.J Q 1 [] h
def Y46.t0 (Q:AV→aA→Prop) (h:aA) (J:JT):Prop:=
Q (AV.i .i64 0) h
theorem Y46.i0 {Q h} (H:Y46.t0 Q h (Y46.J Q)):Y46.p0 Q h:=gR Y46.J Tryz.f28 Y46.dist [1,1,1] H
def Y46.t (Q:AV→aA→Prop) (x0:AV) (x1:Int) (h:aA) (J:JT):Prop:=
aK x0 fun v1=>
aB 12 v1 fun v2=>
aD v2 h fun v3=>
asS v3 fun l4=>
bP 1 1 [(AV.i .u8 0)] [(0,1,(AV.i .u8 x1))] h fun v5 h6=>
aD v2 h6 fun v7=>
asS v7 fun l8=>
((AV.s l4)=(AV.s l8) ∧
(cJ v5 h6 fun l9=>
aHX l4 l9 fun l10=>
aK x0 fun v11=>
aB 12 v11 fun v12=>
aP 1 v12 (AV.s l10) h6 fun h13=>
aK x0 fun v15=>
aB 12 v15 fun v16=>
aD v16 h13 fun v17=>
asS v17 fun l18=>
(bif (decide (((l18.length:Int):Int)=4)) then
(aK x0 fun v21=>
aB 12 v21 fun v22=>
aD v22 h13 fun v23=>
asS v23 fun l24=>
C Y31.id [(AV.s l24),(AV.i .i64 0),(AV.i .i64 4)] h13 fun v25 h26=>
aO 0 v25 fun v27=>
asI .i64 v27 fun n28=>
aO 1 v25 fun v29=>
asI .i64 v29 fun n30=>
aK x0 fun v32=>
aB 10 v32 fun v33=>
aD v33 h26 fun v34=>
asI .u32 v34 fun n35=>
(bif (!decide (((IntKind.wrap .u32 n28):Int)=n35)) then
(Q (AV.i .i64 8) h26)
else
(J 1 [] h26)))
else
((bif (decide (((l18.length:Int):Int)=8)) then
(aK x0 fun v40=>
aB 12 v40 fun v41=>
aD v41 h13 fun v42=>
asS v42 fun l43=>
C Y31.id [(AV.s l43),(AV.i .i64 4),(AV.i .i64 4)] h13 fun v44 h45=>
aO 0 v44 fun v46=>
asI .i64 v46 fun n47=>
aO 1 v44 fun v48=>
asI .i64 v48 fun n49=>
aK x0 fun v51=>
aB 11 v51 fun v52=>
aD v52 h45 fun v53=>
asI .i64 v53 fun n54=>
(bif (!decide ((n47:Int)=n54)) then
(Q (AV.i .i64 8) h45)
else
(aK x0 fun v58=>
aB 13 v58 fun v59=>
aP 1 v59 (AV.b false) h45 fun h60=>
J 1 [] h60)))
else
(J 1 [] h13))))))
theorem Y46.call {K x0 x1 h} (H:Y46.t (aH h K) x0 x1 h (Y46.J (aH h K))):C Y46.id [x0,(AV.i .u8 x1)] h K:=
 gC Y46.J Tryz.func28 Y46.dist H
noncomputable def Y63.body:Code:=(Tryz.f29.body).getD .skip
def Y63.ann:Ann:=(sl [0] (sq [2] (.ord (nn 0 4 (nn 5 5 (.eff 4 (.eff 10 (.neu 11 .done) .stop) .stop)))) lf))
theorem Y63.dist:aL (places Y63.ann Y63.body)=true:=by kernel_rfl
noncomputable def Y63.J (Q:AV→aA→Prop):JT:=bJ prog C Tryz.f29 Y63.ann Y63.body Q
def Y63.t (Q:AV→aA→Prop) (x0:AV) (h:aA) (J:JT):Prop:=
aK x0 fun v1=>
aB 1 v1 fun v2=>
aD v2 h fun v3=>
aK x0 fun v4=>
aB 1 v4 fun v5=>
aD v5 h fun v6=>
bR v6 fun n7=>
iA v3 h fun v8 h9=>
aD v5 h9 fun v10=>
(v6=v10 ∧
(mH prog v8 (AV.i .i64 n7) h9 fun v11 h12=>
asS v11 fun l13=>
Q (AV.s l13) h12))
theorem Y63.call {K x0 h} (H:Y63.t (aH h K) x0 h (Y63.J (aH h K))):C Y63.id [x0] h K:=
 gC Y63.J Tryz.func29 Y63.dist H
noncomputable def Y47.body:Code:=(Tryz.f30.body).getD .skip
def Y47.ann:Ann:=(sl [0,1] (sq [0,1] (.seq 1 [0,1,21] lf (.br (sl [0,1,7,8] (sl [0,1,7,8] (sl [0,1,7,8] (sl [0,1,7,8] (sq [0,1,7,8] (.ord (nn 0 27 (.eff 27 .done .stop))) (sl [4,5,6] lf)))))) lf)) (sl [4,5,6] lf)))
theorem Y47.dist:aL (places Y47.ann Y47.body)=true:=by kernel_rfl
noncomputable def Y47.J (Q:AV→aA→Prop):JT:=bJ prog C Tryz.f30 Y47.ann Y47.body Q
def Y47.p0 (Q:AV→aA→Prop) (x0:AV) (x1:List UInt8) (x21:Bool) (h:aA):Prop:=Y47.J Q 1 [(0,x0),(1,(AV.s x1)),(21,(AV.b x21))] h
def Y47.t0 (Q:AV→aA→Prop) (x0:AV) (x1:List UInt8) (x21:Bool) (h:aA) (J:JT):Prop:=
(bif x21 then
(aK x0 fun v14=>
aB 7 v14 fun v15=>
aD v15 h fun v16=>
C Y52.id [v16,(AV.s x1)] h fun v17 h18=>
aO 0 v17 fun v19=>
asS v19 fun l20=>
aO 1 v17 fun v21=>
asI .i64 v21 fun n22=>
aK x0 fun v24=>
aB 5 v24 fun v25=>
aD v25 h18 fun v26=>
asI .i64 v26 fun n27=>
aM (IntKind.wrap .i64 (n27 - (l20.length:Int))) fun n28=>
aK x0 fun v29=>
aB 5 v29 fun v30=>
aP 1 v30 (AV.i .i64 n28) h18 fun h31=>
aK x0 fun v33=>
aB 9 v33 fun v34=>
aD v34 h31 fun v35=>
asI .u32 v35 fun n36=>
C Y16.id [(AV.i .u32 n36),(AV.s l20)] h31 fun v37 h38=>
asI .u32 v37 fun n39=>
aK x0 fun v40=>
aB 9 v40 fun v41=>
aP 1 v41 (AV.i .u32 n39) h38 fun h42=>
aK x0 fun v44=>
aB 10 v44 fun v45=>
aD v45 h42 fun v46=>
asI .i64 v46 fun n47=>
aM (IntKind.wrap .i64 (n47+(l20.length:Int))) fun n48=>
aK x0 fun v49=>
aB 10 v49 fun v50=>
aP 1 v50 (AV.i .i64 n48) h42 fun h51=>
aK x0 fun v53=>
aB 0 v53 fun v54=>
aD v54 h51 fun v55=>
aK x0 fun v56=>
aB 0 v56 fun v57=>
aD v57 h51 fun v58=>
bR v58 fun n59=>
aM (IntKind.wrap .i64 (n59 - 1)) fun n60=>
aK x0 fun v61=>
aB 0 v61 fun v62=>
aD v62 h51 fun v63=>
aK x0 fun v64=>
aB 0 v64 fun v65=>
aD v65 h51 fun v66=>
bR v66 fun n67=>
aM (IntKind.wrap .i64 (n67 - 1)) fun n68=>
aU 2 v63 (AV.i .i64 n68) h51 fun v69=>
aB 1 v69 fun v70=>
aD v70 h51 fun v71=>
asS v71 fun l72=>
aHX l72 l20 fun l73=>
aU 2 v55 (AV.i .i64 n60) h51 fun v74=>
aB 1 v74 fun v75=>
aP 1 v75 (AV.s l73) h51 fun h76=>
aK x0 fun v78=>
aB 7 v78 fun v79=>
aD v79 h76 fun v80=>
C Y86.id [v80] h76 fun v81 h82=>
asS v81 fun l83=>
aM (IntKind.wrap .i64 ((x1.length:Int) - (l83.length:Int))) fun n84=>
Q (AV.tu [(AV.s l20),(AV.i .i64 n84),(AV.i .i64 n22)]) h82)
else
(bV (AV.s x1) none (some (AV.i .i64 1)) fun l87=>
C Y3.id [x0,(AV.s l87)] h fun v88 h89=>
asI .i64 v88 fun n90=>
Q (AV.tu [(AV.s []),(AV.i .i64 1),(AV.i .i64 n90)]) h89))
theorem Y47.i0 {Q x0 x1 x21 h} (H:Y47.t0 Q x0 x1 x21 h (Y47.J Q)):Y47.p0 Q x0 x1 x21 h:=gR Y47.J Tryz.f30 Y47.dist [1,0,1] H
def Y47.t (Q:AV→aA→Prop) (x0:AV) (x1:List UInt8) (h:aA) (J:JT):Prop:=
aK x0 fun v1=>
aB 7 v1 fun v2=>
aD v2 h fun v3=>
cI prog .neq 62 v3 (AV.p none) fun v4=>
asB v4 fun c5=>
(bif c5 then
(aK x0 fun v6=>
aB 7 v6 fun v7=>
aD v7 h fun v8=>
C Y96.id [v8] h fun v9 h10=>
asB v9 fun c11=>
J 1 [(0,x0),(1,(AV.s x1)),(21,(AV.b (!c11)))] h10)
else
(J 1 [(0,x0),(1,(AV.s x1)),(21,(AV.b false))] h))
theorem Y47.call {K x0 x1 h} (H:Y47.t (aH h K) x0 x1 h (Y47.J (aH h K))):C Y47.id [x0,(AV.s x1)] h K:=
 gC Y47.J Tryz.func30 Y47.dist H
noncomputable def Y65.body:Code:=(Tryz.f36.body).getD .skip
def Y65.ann:Ann:=(sl [1] (sq [3] (.ord (nn 0 2 (nn 3 2 (.eff 2 (.eff 5 (nn 6 2 (.eff 8 (.neu 9 .done) .stop)) .stop) .stop)))) (sl [3] (sl [2] lf))))
theorem Y65.dist:aL (places Y65.ann Y65.body)=true:=by kernel_rfl
noncomputable def Y65.J (Q:AV→aA→Prop):JT:=bJ prog C Tryz.f36 Y65.ann Y65.body Q
def Y65.t (Q:AV→aA→Prop) (x0:AV) (h:aA) (J:JT):Prop:=
dS (some 23) x0 h fun v0 h1=>
aB 0 v0 fun v3=>
aD v3 h1 fun v4=>
asI .i64 v4 fun n5=>
aB 1 v0 fun v6=>
aD v6 h1 fun v7=>
asI .i64 v7 fun n8=>
C Y61.id [(AV.i .i64 n5),(AV.i .i64 0),(AV.i .i64 65536)] h1 fun v9 h10=>
asI .i64 v9 fun n11=>
aD v6 h10 fun v12=>
asI .i64 v12 fun n13=>
((AV.i .i64 n8)=(AV.i .i64 n13) ∧
(C Y61.id [(AV.i .i64 n8),(AV.i .i64 1),(AV.i .i64 1100)] h10 fun v14 h15=>
asI .i64 v14 fun n16=>
f9 [(AV.i .i64 0),(AV.i .i64 0),(AV.sl none 0 none),(AV.i .i64 0),(AV.sl none 0 none),(AV.i .i64 0),(AV.b false),(AV.b false),(AV.b false),(AV.b false),(AV.s []),(AV.i .i64 0),(AV.i .i64 0),(AV.i .i64 0),(AV.p none),AV.nf] [(0,2,(AV.ag [(AV.i .i64 n11),(AV.i .i64 n16)]))] fun v17=>
dS (some 85) v17 h15 fun v18 h19=>
C Y58.id [v18] h19 fun v21 h22=>
asI .i64 v21 fun n23=>
Q v18 h22))
theorem Y65.call {K x0 h} (H:Y65.t (aH h K) x0 h (Y65.J (aH h K))):C Y65.id [x0] h K:=
 gC Y65.J Tryz.func36 Y65.dist H
noncomputable def Y1.body:Code:=(Tryz.f37.body).getD .skip
def Y1.ann:Ann:=(sl [0,1] (sq [0,1] (.one (sl [0,1,9] (.br (sl [4,5] lf) (.seq 1 [0,1,12] lf (.br (sl [4,5] lf) lf))))) (sl [0,1] (.seq 5 [0] (sl [0,1,27,28] (.one (.loop 2 [0,1,27,28] (sl [0,1,27,28,29] (sq [0,1,27,28] bl (sq [0,1,27,28] (.one (sl [0,1,6,27,28] (sl [0,1,6,27,28] (sl [0,1,6,27,28] (sq [0,1,6,27,28] (sl [0,1,6,7,27,28] (.one (.loop 3 [0,1,6,7,27,28] (sq [0,1,6,7,27,28] (.seq 4 [0,1,6,7,27,28,56] lf bl) (sq [0,1,6,7,27,28] (.one (sl [0,1,6,7,8,27,28] (sl [0,1,6,7,8,27,28,69] (.br (sl [0,8] (sl [4,5] lf)) lf)))) lf))))) (sl [0,1,6,27,28,82] (.br (sl [0] lf) lf))))))) lf)))))) (sl [4,5] lf)))))
theorem Y1.dist:aL (places Y1.ann Y1.body)=true:=by kernel_rfl
noncomputable def Y1.J (Q:AV→aA→Prop):JT:=bJ prog C Tryz.f37 Y1.ann Y1.body Q
def Y1.p0 (Q:AV→aA→Prop) (x0:AV) (x1:List UInt8) (x12:Bool) (h:aA):Prop:=Y1.J Q 1 [(0,x0),(1,(AV.s x1)),(12,(AV.b x12))] h
def Y1.p3 (Q:AV→aA→Prop) (x0:AV) (x1:List UInt8) (x6 x7 x27 x28:Int) (x56:Bool) (h:aA):Prop:=Y1.J Q 4 [(0,x0),(1,(AV.s x1)),(6,(AV.i .i64 x6)),(7,(AV.i .i64 x7)),(27,(AV.i .i64 x27)),(28,(AV.i .i64 x28)),(56,(AV.b x56))] h
def Y1.p2 (Q:AV→aA→Prop) (x0:AV) (x1:List UInt8) (x6 x7 x27 x28:Int) (h:aA):Prop:=Y1.J Q 3 [(0,x0),(1,(AV.s x1)),(6,(AV.i .i64 x6)),(7,(AV.i .i64 x7)),(27,(AV.i .i64 x27)),(28,(AV.i .i64 x28))] h
def Y1.p1 (Q:AV→aA→Prop) (x0:AV) (x1:List UInt8) (x27 x28:Int) (h:aA):Prop:=Y1.J Q 2 [(0,x0),(1,(AV.s x1)),(27,(AV.i .i64 x27)),(28,(AV.i .i64 x28))] h
def Y1.p4 (Q:AV→aA→Prop) (x0:AV) (h:aA):Prop:=Y1.J Q 5 [(0,x0)] h
def Y1.t0 (Q:AV→aA→Prop) (x0:AV) (x1:List UInt8) (x12:Bool) (h:aA) (J:JT):Prop:=
(bif x12 then
(Q (AV.tu [(AV.s []),(AV.i .i64 10)]) h)
else
(aK x0 fun v17=>
aB 4 v17 fun v18=>
aP 1 v18 (AV.sl none 0 none) h fun h19=>
J 2 [(0,x0),(1,(AV.s x1)),(27,(AV.i .i64 (x1.length:Int))),(28,(AV.i .i64 0))] h19))
theorem Y1.i0 {Q x0 x1 x12 h} (H:Y1.t0 Q x0 x1 x12 h (Y1.J Q)):Y1.p0 Q x0 x1 x12 h:=gR Y1.J Tryz.f37 Y1.dist [1,0,0,1,1,1] H
def Y1.t3 (Q:AV→aA→Prop) (x0:AV) (x1:List UInt8) (x6 x7 x27 x28:Int) (x56:Bool) (h:aA) (J:JT):Prop:=
(bif x56 then
(cK (AV.s x1) (AV.i .i64 x6) fun n53=>
s9 .i64 (IntKind.wrap .i64 n53) x7 fun n54=>
C Y5.id [x0,(AV.i .i64 (bA .and .i64 n54 1))] h fun v55 h56=>
asI .i64 v55 fun n57=>
(bif (!decide ((n57:Int)=0)) then
(aK x0 fun v60=>
aB 8 v60 fun v61=>
aP 1 v61 (AV.b true) h56 fun h62=>
aK x0 fun v64=>
aB 4 v64 fun v65=>
aD v65 h62 fun v66=>
cJ v66 h62 fun l67=>
Q (AV.tu [(AV.s l67),(AV.i .i64 n57)]) h62)
else
(aM (IntKind.wrap .i64 (x7+1)) fun n70=>
J 3 [(0,x0),(1,(AV.s x1)),(6,(AV.i .i64 x6)),(7,(AV.i .i64 n70)),(27,(AV.i .i64 x27)),(28,(AV.i .i64 x28))] h56)))
else
(aK x0 fun v72=>
aB 7 v72 fun v73=>
aD v73 h fun v74=>
asB v74 fun c75=>
(bif c75 then
(aM (IntKind.wrap .i64 (x6+1)) fun n77=>
bV (AV.s x1) (some (AV.i .i64 n77)) none fun l78=>
aK x0 fun v79=>
aB 10 v79 fun v80=>
aP 1 v80 (AV.s l78) h fun h81=>
J 5 [(0,x0)] h81)
else
(aM (IntKind.wrap .i64 (x28+1)) fun n85=>
J 2 [(0,x0),(1,(AV.s x1)),(27,(AV.i .i64 x27)),(28,(AV.i .i64 n85))] h))))
theorem Y1.i3 {Q x0 x1 x6 x7 x27 x28 x56 h} (H:Y1.t3 Q x0 x1 x6 x7 x27 x28 x56 h (Y1.J Q)):Y1.p3 Q x0 x1 x6 x7 x27 x28 x56 h:=gR Y1.J Tryz.f37 Y1.dist [1,1,1,0,1,0,0,1,1,0,0,1,1,1,0,1,0,0,0,1] H
def Y1.t2 (Q:AV→aA→Prop) (x0:AV) (x1:List UInt8) (x6 x7 x27 x28:Int) (h:aA) (J:JT):Prop:=
(bif (decide ((x7:Int)<8)) then
(aK x0 fun v40=>
aB 9 v40 fun v41=>
aD v41 h fun v42=>
asB v42 fun c43=>
(bif (!c43) then
(aK x0 fun v44=>
aB 7 v44 fun v45=>
aD v45 h fun v46=>
asB v46 fun c47=>
J 4 [(0,x0),(1,(AV.s x1)),(6,(AV.i .i64 x6)),(7,(AV.i .i64 x7)),(27,(AV.i .i64 x27)),(28,(AV.i .i64 x28)),(56,(AV.b (!c47)))] h)
else
(J 4 [(0,x0),(1,(AV.s x1)),(6,(AV.i .i64 x6)),(7,(AV.i .i64 x7)),(27,(AV.i .i64 x27)),(28,(AV.i .i64 x28)),(56,(AV.b false))] h)))
else
(J 4 [(0,x0),(1,(AV.s x1)),(6,(AV.i .i64 x6)),(7,(AV.i .i64 x7)),(27,(AV.i .i64 x27)),(28,(AV.i .i64 x28)),(56,(AV.b false))] h))
theorem Y1.i2 {Q x0 x1 x6 x7 x27 x28 h} (H:Y1.t2 Q x0 x1 x6 x7 x27 x28 h (Y1.J Q)):Y1.p2 Q x0 x1 x6 x7 x27 x28 h:=gH Y1.J Tryz.f37 Y1.dist [1,1,1,0,1,0,0,1,1,0,0,1,1,1,0,1,0] H
def Y1.t1 (Q:AV→aA→Prop) (x0:AV) (x1:List UInt8) (x27 x28:Int) (h:aA) (J:JT):Prop:=
(bif (decide ((x28:Int)<x27)) then
(aK x0 fun v26=>
aB 5 v26 fun v27=>
aD v27 h fun v28=>
asI .i64 v28 fun n29=>
aM (IntKind.wrap .i64 (n29+1)) fun n30=>
aK x0 fun v31=>
aB 5 v31 fun v32=>
aP 1 v32 (AV.i .i64 n30) h fun h33=>
aK x0 fun v35=>
aB 9 v35 fun v36=>
aP 1 v36 (AV.b false) h33 fun h37=>
J 3 [(0,x0),(1,(AV.s x1)),(6,(AV.i .i64 x28)),(7,(AV.i .i64 0)),(27,(AV.i .i64 x27)),(28,(AV.i .i64 x28))] h37)
else
(J 5 [(0,x0)] h))
theorem Y1.i1 {Q x0 x1 x27 x28 h} (H:Y1.t1 Q x0 x1 x27 x28 h (Y1.J Q)):Y1.p1 Q x0 x1 x27 x28 h:=gH Y1.J Tryz.f37 Y1.dist [1,1,1,0,1,0] H
def Y1.t4 (Q:AV→aA→Prop) (x0:AV) (h:aA) (J:JT):Prop:=
aK x0 fun v87=>
aB 4 v87 fun v88=>
aD v88 h fun v89=>
cJ v89 h fun l90=>
Q (AV.tu [(AV.s l90),(AV.i .i64 0)]) h
theorem Y1.i4 {Q x0 h} (H:Y1.t4 Q x0 h (Y1.J Q)):Y1.p4 Q x0 h:=gR Y1.J Tryz.f37 Y1.dist [1,1,1,1] H
def Y1.t (Q:AV→aA→Prop) (x0:AV) (x1:List UInt8) (h:aA) (J:JT):Prop:=
cI prog .eql 55 x0 (AV.p none) fun v1=>
asB v1 fun c2=>
(bif c2 then
(Q (AV.tu [(AV.s []),(AV.i .i64 6)]) h)
else
(aK x0 fun v5=>
aB 8 v5 fun v6=>
aD v6 h fun v7=>
asB v7 fun c8=>
(bif c8 then
(J 1 [(0,x0),(1,(AV.s x1)),(12,(AV.b true))] h)
else
(aK x0 fun v10=>
aB 7 v10 fun v11=>
aD v11 h fun v12=>
asB v12 fun c13=>
J 1 [(0,x0),(1,(AV.s x1)),(12,(AV.b c13))] h))))
theorem Y1.call {K x0 x1 h} (H:Y1.t (aH h K) x0 x1 h (Y1.J (aH h K))):C Y1.id [x0,(AV.s x1)] h K:=
 gC Y1.J Tryz.func37 Y1.dist H
noncomputable def Y36.body:Code:=(Tryz.f38.body).getD .skip
def Y36.ann:Ann:=(sl [0,1] (sl [0,1,5] (sl [1,5,6] (sq [6] (sl [1,5,6,12,13] (.one (.loop 1 [1,5,6,12,13] (sl [1,5,6,12,13,14] (sq [1,5,6,12,13] bl (sq [1,5,6,12,13] (.one (sl [1,5,6,7,12,13] lf)) lf)))))) (sl [4] lf)))))
theorem Y36.dist:aL (places Y36.ann Y36.body)=true:=by kernel_rfl
noncomputable def Y36.J (Q:AV→aA→Prop):JT:=bJ prog C Tryz.f38 Y36.ann Y36.body Q
def Y36.p0 (Q:AV→aA→Prop) (x1:List UInt8) (x5:AV) (x6 x12 x13:Int) (h:aA):Prop:=Y36.J Q 1 [(1,(AV.s x1)),(5,x5),(6,(AV.i .u32 x6)),(12,(AV.i .i64 x12)),(13,(AV.i .i64 x13))] h
def Y36.t0 (Q:AV→aA→Prop) (x1:List UInt8) (x5:AV) (x6 x12 x13:Int) (h:aA) (J:JT):Prop:=
(bif (decide ((x13:Int)<x12)) then
(s9 .u32 x6 8 fun n14=>
cK (AV.s x1) (AV.i .i64 x13) fun n15=>
aM (bA .xor .u8 (IntKind.wrap .u8 x6) n15) fun n16=>
bT 256 1 x5 (AV.i .u8 n16) fun v17=>
aD v17 h fun v18=>
asI .u32 v18 fun n19=>
aM (bA .xor .u32 n14 n19) fun n20=>
aM (IntKind.wrap .i64 (x13+1)) fun n22=>
J 1 [(1,(AV.s x1)),(5,x5),(6,(AV.i .u32 n20)),(12,(AV.i .i64 x12)),(13,(AV.i .i64 n22))] h)
else
(aM (bA .xor .u32 (IntKind.max .u32) x6) fun n24=>
Q (AV.i .u32 n24) h))
theorem Y36.i0 {Q x1 x5 x6 x12 x13 h} (H:Y36.t0 Q x1 x5 x6 x12 x13 h (Y36.J Q)):Y36.p0 Q x1 x5 x6 x12 x13 h:=gH Y36.J Tryz.f38 Y36.dist [1,1,1,0,1,0] H
def Y36.t (Q:AV→aA→Prop) (x0:Int) (x1:List UInt8) (h:aA) (J:JT):Prop:=
C Y17.id [] h fun v1 h2=>
eK none [(AV.i .u32 0),(AV.i .u32 0),(AV.i .u32 0),(AV.i .u32 0),(AV.i .u32 0),(AV.i .u32 0),(AV.i .u32 0),(AV.i .u32 0),(AV.i .u32 0),(AV.i .u32 0),(AV.i .u32 0),(AV.i .u32 0),(AV.i .u32 0),(AV.i .u32 0),(AV.i .u32 0),(AV.i .u32 0),(AV.i .u32 0),(AV.i .u32 0),(AV.i .u32 0),(AV.i .u32 0),(AV.i .u32 0),(AV.i .u32 0),(AV.i .u32 0),(AV.i .u32 0),(AV.i .u32 0),(AV.i .u32 0),(AV.i .u32 0),(AV.i .u32 0),(AV.i .u32 0),(AV.i .u32 0),(AV.i .u32 0),(AV.i .u32 0),(AV.i .u32 0),(AV.i .u32 0),(AV.i .u32 0),(AV.i .u32 0),(AV.i .u32 0),(AV.i .u32 0),(AV.i .u32 0),(AV.i .u32 0),(AV.i .u32 0),(AV.i .u32 0),(AV.i .u32 0),(AV.i .u32 0),(AV.i .u32 0),(AV.i .u32 0),(AV.i .u32 0),(AV.i .u32 0),(AV.i .u32 0),(AV.i .u32 0),(AV.i .u32 0),(AV.i .u32 0),(AV.i .u32 0),(AV.i .u32 0),(AV.i .u32 0),(AV.i .u32 0),(AV.i .u32 0),(AV.i .u32 0),(AV.i .u32 0),(AV.i .u32 0),(AV.i .u32 0),(AV.i .u32 0),(AV.i .u32 0),(AV.i .u32 0),(AV.i .u32 0),(AV.i .u32 0),(AV.i .u32 0),(AV.i .u32 0),(AV.i .u32 0),(AV.i .u32 0),(AV.i .u32 0),(AV.i .u32 0),(AV.i .u32 0),(AV.i .u32 0),(AV.i .u32 0),(AV.i .u32 0),(AV.i .u32 0),(AV.i .u32 0),(AV.i .u32 0),(AV.i .u32 0),(AV.i .u32 0),(AV.i .u32 0),(AV.i .u32 0),(AV.i .u32 0),(AV.i .u32 0),(AV.i .u32 0),(AV.i .u32 0),(AV.i .u32 0),(AV.i .u32 0),(AV.i .u32 0),(AV.i .u32 0),(AV.i .u32 0),(AV.i .u32 0),(AV.i .u32 0),(AV.i .u32 0),(AV.i .u32 0),(AV.i .u32 0),(AV.i .u32 0),(AV.i .u32 0),(AV.i .u32 0),(AV.i .u32 0),(AV.i .u32 0),(AV.i .u32 0),(AV.i .u32 0),(AV.i .u32 0),(AV.i .u32 0),(AV.i .u32 0),(AV.i .u32 0),(AV.i .u32 0),(AV.i .u32 0),(AV.i .u32 0),(AV.i .u32 0),(AV.i .u32 0),(AV.i .u32 0),(AV.i .u32 0),(AV.i .u32 0),(AV.i .u32 0),(AV.i .u32 0),(AV.i .u32 0),(AV.i .u32 0),(AV.i .u32 0),(AV.i .u32 0),(AV.i .u32 0),(AV.i .u32 0),(AV.i .u32 0),(AV.i .u32 0),(AV.i .u32 0),(AV.i .u32 0),(AV.i .u32 0),(AV.i .u32 0),(AV.i .u32 0),(AV.i .u32 0),(AV.i .u32 0),(AV.i .u32 0),(AV.i .u32 0),(AV.i .u32 0),(AV.i .u32 0),(AV.i .u32 0),(AV.i .u32 0),(AV.i .u32 0),(AV.i .u32 0),(AV.i .u32 0),(AV.i .u32 0),(AV.i .u32 0),(AV.i .u32 0),(AV.i .u32 0),(AV.i .u32 0),(AV.i .u32 0),(AV.i .u32 0),(AV.i .u32 0),(AV.i .u32 0),(AV.i .u32 0),(AV.i .u32 0),(AV.i .u32 0),(AV.i .u32 0),(AV.i .u32 0),(AV.i .u32 0),(AV.i .u32 0),(AV.i .u32 0),(AV.i .u32 0),(AV.i .u32 0),(AV.i .u32 0),(AV.i .u32 0),(AV.i .u32 0),(AV.i .u32 0),(AV.i .u32 0),(AV.i .u32 0),(AV.i .u32 0),(AV.i .u32 0),(AV.i .u32 0),(AV.i .u32 0),(AV.i .u32 0),(AV.i .u32 0),(AV.i .u32 0),(AV.i .u32 0),(AV.i .u32 0),(AV.i .u32 0),(AV.i .u32 0),(AV.i .u32 0),(AV.i .u32 0),(AV.i .u32 0),(AV.i .u32 0),(AV.i .u32 0),(AV.i .u32 0),(AV.i .u32 0),(AV.i .u32 0),(AV.i .u32 0),(AV.i .u32 0),(AV.i .u32 0),(AV.i .u32 0),(AV.i .u32 0),(AV.i .u32 0),(AV.i .u32 0),(AV.i .u32 0),(AV.i .u32 0),(AV.i .u32 0),(AV.i .u32 0),(AV.i .u32 0),(AV.i .u32 0),(AV.i .u32 0),(AV.i .u32 0),(AV.i .u32 0),(AV.i .u32 0),(AV.i .u32 0),(AV.i .u32 0),(AV.i .u32 0),(AV.i .u32 0),(AV.i .u32 0),(AV.i .u32 0),(AV.i .u32 0),(AV.i .u32 0),(AV.i .u32 0),(AV.i .u32 0),(AV.i .u32 0),(AV.i .u32 0),(AV.i .u32 0),(AV.i .u32 0),(AV.i .u32 0),(AV.i .u32 0),(AV.i .u32 0),(AV.i .u32 0),(AV.i .u32 0),(AV.i .u32 0),(AV.i .u32 0),(AV.i .u32 0),(AV.i .u32 0),(AV.i .u32 0),(AV.i .u32 0),(AV.i .u32 0),(AV.i .u32 0),(AV.i .u32 0),(AV.i .u32 0),(AV.i .u32 0),(AV.i .u32 0),(AV.i .u32 0),(AV.i .u32 0),(AV.i .u32 0),(AV.i .u32 0),(AV.i .u32 0),(AV.i .u32 0),(AV.i .u32 0),(AV.i .u32 0),(AV.i .u32 0),(AV.i .u32 0),(AV.i .u32 0),(AV.i .u32 0),(AV.i .u32 0),(AV.i .u32 0),(AV.i .u32 0),(AV.i .u32 0),(AV.i .u32 0),(AV.i .u32 0),(AV.i .u32 0),(AV.i .u32 0),(AV.i .u32 0),(AV.i .u32 0)] h2 fun v3 h4=>
aP 256 v3 v1 h4 fun h5=>
aM (bA .xor .u32 (IntKind.max .u32) x0) fun n7=>
J 1 [(1,(AV.s x1)),(5,v3),(6,(AV.i .u32 n7)),(12,(AV.i .i64 (x1.length:Int))),(13,(AV.i .i64 0))] h5
theorem Y36.call {K x0 x1 h} (H:Y36.t (aH h K) x0 x1 h (Y36.J (aH h K))):C Y36.id [(AV.i .u32 x0),(AV.s x1)] h K:=
 gC Y36.J Tryz.func38 Y36.dist H
noncomputable def Y95.body:Code:=(Tryz.f39.body).getD .skip
def Y95.ann:Ann:=(sl [0] (sl [0] lf))
theorem Y95.dist:aL (places Y95.ann Y95.body)=true:=by kernel_rfl
noncomputable def Y95.J (Q:AV→aA→Prop):JT:=bJ prog C Tryz.f39 Y95.ann Y95.body Q
def Y95.t (Q:AV→aA→Prop) (x0:AV) (h:aA) (J:JT):Prop:=
aK x0 fun v0=>
aB 0 v0 fun v1=>
aD v1 h fun v2=>
asI .i64 v2 fun n3=>
aM (IntKind.wrap .i64 (n3+1)) fun n4=>
aK x0 fun v5=>
aB 0 v5 fun v6=>
aP 1 v6 (AV.i .i64 n4) h fun h7=>
aK x0 fun v9=>
aB 1 v9 fun v10=>
aP 1 v10 (AV.i .i64 0) h7 fun h11=>
C Y30.id [x0] h11 fun v13 h14=>
Q (AV.tu []) h14
theorem Y95.call {K x0 h} (H:Y95.t (aH h K) x0 h (Y95.J (aH h K))):C Y95.id [x0] h K:=
 gC Y95.J Tryz.func39 Y95.dist H
noncomputable def Y51.body:Code:=(Tryz.f40.body).getD .skip
def Y51.ann:Ann:=(sl [0] (.seq 1 [2] lf lf))
theorem Y51.dist:aL (places Y51.ann Y51.body)=true:=by kernel_rfl
noncomputable def Y51.J (Q:AV→aA→Prop):JT:=bJ prog C Tryz.f40 Y51.ann Y51.body Q
def Y51.p0 (Q:AV→aA→Prop) (x2:Bool) (h:aA):Prop:=Y51.J Q 1 [(2,(AV.b x2))] h
def Y51.t0 (Q:AV→aA→Prop) (x2:Bool) (h:aA) (J:JT):Prop:=
Q (AV.b x2) h
theorem Y51.i0 {Q x2 h} (H:Y51.t0 Q x2 h (Y51.J Q)):Y51.p0 Q x2 h:=gR Y51.J Tryz.f40 Y51.dist [1,1] H
def Y51.t (Q:AV→aA→Prop) (x0:AV) (h:aA) (J:JT):Prop:=
cI prog .neq 55 x0 (AV.p none) fun v1=>
asB v1 fun c2=>
(bif c2 then
(aK x0 fun v3=>
aB 7 v3 fun v4=>
aD v4 h fun v5=>
asB v5 fun c6=>
J 1 [(2,(AV.b c6))] h)
else
(J 1 [(2,(AV.b false))] h))
theorem Y51.call {K x0 h} (H:Y51.t (aH h K) x0 h (Y51.J (aH h K))):C Y51.id [x0] h K:=
 gC Y51.J Tryz.func40 Y51.dist H
noncomputable def Y100.body:Code:=(Tryz.f41.body).getD .skip
def Y100.ann:Ann:=(sl [0] (sq [0] (sl [0,4] (.br (sl [2] lf) lf)) (sl [2] lf)))
theorem Y100.dist:aL (places Y100.ann Y100.body)=true:=by kernel_rfl
noncomputable def Y100.J (Q:AV→aA→Prop):JT:=bJ prog C Tryz.f41 Y100.ann Y100.body Q
def Y100.t (Q:AV→aA→Prop) (x0:AV) (h:aA) (J:JT):Prop:=
cI prog .eql 55 x0 (AV.p none) fun v1=>
asB v1 fun c2=>
(bif c2 then
(Q (AV.s []) h)
else
(aK x0 fun v6=>
aB 10 v6 fun v7=>
aD v7 h fun v8=>
asS v8 fun l9=>
Q (AV.s l9) h))
theorem Y100.call {K x0 h} (H:Y100.t (aH h K) x0 h (Y100.J (aH h K))):C Y100.id [x0] h K:=
 gC Y100.J Tryz.func41 Y100.dist H
noncomputable def Y89.body:Code:=(Tryz.f42.body).getD .skip
def Y89.ann:Ann:=(sl [0,6] (.br lf (sl [19] bl)))
theorem Y89.dist:aL (places Y89.ann Y89.body)=true:=by kernel_rfl
noncomputable def Y89.J (Q:AV→aA→Prop):JT:=bJ prog C Tryz.f42 Y89.ann Y89.body Q
def Y89.t (Q:AV→aA→Prop) (x0:AV) (h:aA) (J:JT):Prop:=
aK x0 fun v0=>
aB 0 v0 fun v1=>
aD v1 h fun v2=>
cI prog .eql 65 v2 (AV.p none) fun v3=>
asB v3 fun c4=>
(bif c4 then
(nH x0 h fun v6=>
C Y104.id [v6] h fun v7 h8=>
eL prog 67 v7 h8 fun v9=>
aK x0 fun v10=>
aB 0 v10 fun v11=>
aP 1 v11 v9 h8 fun h12=>
Q (AV.tu []) h12)
else
(aK x0 fun v13=>
aB 0 v13 fun v14=>
aD v14 h fun v15=>
cI prog .neq 65 v15 x0 fun v16=>
asB v16 fun c17=>
(bif c17 then
(False)
else
(Q (AV.tu []) h))))
theorem Y89.call {K x0 h} (H:Y89.t (aH h K) x0 h (Y89.J (aH h K))):C Y89.id [x0] h K:=
 gC Y89.J Tryz.func42 Y89.dist H
noncomputable def Y31.body:Code:=(Tryz.f43.body).getD .skip
def Y31.ann:Ann:=(sl [0,1,2] (.seq 2 [0,1,2] (.seq 1 [0,1,2,29] lf bl) (sl [8,9] (sl [8,9] (sl [6,7] lf)))))
theorem Y31.dist:aL (places Y31.ann Y31.body)=true:=by kernel_rfl
noncomputable def Y31.J (Q:AV→aA→Prop):JT:=bJ prog C Tryz.f43 Y31.ann Y31.body Q
def Y31.p0 (Q:AV→aA→Prop) (x0:List UInt8) (x1 x2:Int) (x29:Bool) (h:aA):Prop:=Y31.J Q 1 [(0,(AV.s x0)),(1,(AV.i .i64 x1)),(2,(AV.i .i64 x2)),(29,(AV.b x29))] h
def Y31.p1 (Q:AV→aA→Prop) (x0:List UInt8) (x1 x2:Int) (h:aA):Prop:=Y31.J Q 2 [(0,(AV.s x0)),(1,(AV.i .i64 x1)),(2,(AV.i .i64 x2))] h
def Y31.t0 (Q:AV→aA→Prop) (x0:List UInt8) (x1 x2:Int) (x29:Bool) (h:aA) (J:JT):Prop:=
(bif x29 then
(aM (IntKind.wrap .i64 (x1+x2)) fun n9=>
bV (AV.s x0) (some (AV.i .i64 x1)) (some (AV.i .i64 n9)) fun l10=>
J 2 [(0,(AV.s l10)),(1,(AV.i .i64 0)),(2,(AV.i .i64 x2))] h)
else
(J 2 [(0,(AV.s x0)),(1,(AV.i .i64 x1)),(2,(AV.i .i64 x2))] h))
theorem Y31.i0 {Q x0 x1 x2 x29 h} (H:Y31.t0 Q x0 x1 x2 x29 h (Y31.J Q)):Y31.p0 Q x0 x1 x2 x29 h:=gR Y31.J Tryz.f43 Y31.dist [1,0,1] H
def Y31.t1 (Q:AV→aA→Prop) (x0:List UInt8) (x1 x2:Int) (h:aA) (J:JT):Prop:=
C Y33.id [(AV.s x0),(AV.i .i64 x1),(AV.i .i64 x2)] h fun v13 h14=>
aO 0 v13 fun v15=>
aO 1 v13 fun v16=>
asI .i64 v16 fun n17=>
C Y37.id [v15] h14 fun v19 h20=>
C Y42.id [v15] h20 fun v22 h23=>
asI .i64 v22 fun n24=>
Q (AV.tu [(AV.i .i64 n24),(AV.i .i64 n17)]) h23
theorem Y31.i1 {Q x0 x1 x2 h} (H:Y31.t1 Q x0 x1 x2 h (Y31.J Q)):Y31.p1 Q x0 x1 x2 h:=gR Y31.J Tryz.f43 Y31.dist [1,1] H
def Y31.t (Q:AV→aA→Prop) (x0:List UInt8) (x1 x2:Int) (h:aA) (J:JT):Prop:=
C Y48.id [(AV.i .i64 x2)] h fun v1 h2=>
asB v1 fun c3=>
(bif c3 then
((bif (decide ((0:Int)≤x1)) then
((bif (decide ((x1:Int)≤(x0.length:Int))) then
(aM (IntKind.wrap .i64 ((x0.length:Int) - x1)) fun n4=>
J 1 [(0,(AV.s x0)),(1,(AV.i .i64 x1)),(2,(AV.i .i64 x2)),(29,(AV.b (decide ((x2:Int)≤n4))))] h2)
else
(J 1 [(0,(AV.s x0)),(1,(AV.i .i64 x1)),(2,(AV.i .i64 x2)),(29,(AV.b false))] h2)))
else
(J 1 [(0,(AV.s x0)),(1,(AV.i .i64 x1)),(2,(AV.i .i64 x2)),(29,(AV.b false))] h2)))
else
(J 1 [(0,(AV.s x0)),(1,(AV.i .i64 x1)),(2,(AV.i .i64 x2)),(29,(AV.b false))] h2))
theorem Y31.call {K x0 x1 x2 h} (H:Y31.t (aH h K) x0 x1 x2 h (Y31.J (aH h K))):C Y31.id [(AV.s x0),(AV.i .i64 x1),(AV.i .i64 x2)] h K:=
 gC Y31.J Tryz.func43 Y31.dist H
noncomputable def Y96.body:Code:=(Tryz.f44.body).getD .skip
def Y96.ann:Ann:=(sl [0] (sl [2] lf))
theorem Y96.dist:aL (places Y96.ann Y96.body)=true:=by kernel_rfl
noncomputable def Y96.J (Q:AV→aA→Prop):JT:=bJ prog C Tryz.f44 Y96.ann Y96.body Q
def Y96.t (Q:AV→aA→Prop) (x0:AV) (h:aA) (J:JT):Prop:=
aK x0 fun v1=>
aB 4 v1 fun v2=>
aD v2 h fun v3=>
asB v3 fun c4=>
Q (AV.b c4) h
theorem Y96.call {K x0 h} (H:Y96.t (aH h K) x0 h (Y96.J (aH h K))):C Y96.id [x0] h K:=
 gC Y96.J Tryz.func44 Y96.dist H
noncomputable def Y52.body:Code:=(Tryz.f45.body).getD .skip
def Y52.ann:Ann:=(sl [0,1] (sq [0,1] (.seq 1 [0,1,19] lf (.br (sl [4,5] lf) lf)) (sl [0] (sq [0,6,7,8] (.ord (nn 0 8 (.eff 8 (nn 9 7 .done) .stop))) (sl [0,6,7,8,9] (sl [0,7,8,9] (sq [0,7,8,9] (sl [0,7,8,9,54] (.br (sl [4,5] lf) lf)) (sq [0,8,9] (sl [0,7,8,9,57] (.br (sl [7,9] (sl [4,5] lf)) lf)) (sl [0,8,9] (sl [9] (sl [4,5] lf)))))))))))
theorem Y52.dist:aL (places Y52.ann Y52.body)=true:=by kernel_rfl
noncomputable def Y52.J (Q:AV→aA→Prop):JT:=bJ prog C Tryz.f45 Y52.ann Y52.body Q
def Y52.p0 (Q:AV→aA→Prop) (x0:AV) (x1:List UInt8) (x19:Bool) (h:aA):Prop:=Y52.J Q 1 [(0,x0),(1,(AV.s x1)),(19,(AV.b x19))] h
def Y52.t0 (Q:AV→aA→Prop) (x0:AV) (x1:List UInt8) (x19:Bool) (h:aA) (J:JT):Prop:=
(bif x19 then
(Q (AV.tu [(AV.s []),(AV.i .i64 10)]) h)
else
(aK x0 fun v13=>
aB 2 v13 fun v14=>
aD v14 h fun v15=>
asS v15 fun l16=>
aHX l16 x1 fun l17=>
aK x0 fun v18=>
aB 2 v18 fun v19=>
aP 1 v19 (AV.s l17) h fun h20=>
aK x0 fun v22=>
aB 2 v22 fun v23=>
aD v23 h20 fun v24=>
asS v24 fun l25=>
aK x0 fun v26=>
aB 0 v26 fun v27=>
dC 2 v27 h20 fun v28=>
C Y10.id [(AV.s l25),v28] h20 fun v29 h30=>
aO 0 v29 fun v31=>
asS v31 fun l32=>
aO 1 v29 fun v33=>
asI .i64 v33 fun n34=>
aO 2 v29 fun v35=>
asI .i64 v35 fun n36=>
aK x0 fun v38=>
aB 3 v38 fun v39=>
aD v39 h30 fun v40=>
asI .i64 v40 fun n41=>
bV (AV.s l32) (some (AV.i .i64 n41)) none fun l42=>
aK x0 fun v44=>
aB 3 v44 fun v45=>
aP 1 v45 (AV.i .i64 (l32.length:Int)) h30 fun h46=>
(bif (decide ((n34:Int)=1)) then
(Q (AV.tu [(AV.s l42),(AV.i .i64 0)]) h46)
else
((bif (!decide ((n34:Int)=0)) then
(aK x0 fun v52=>
aB 5 v52 fun v53=>
aP 1 v53 (AV.b true) h46 fun h54=>
Q (AV.tu [(AV.s l42),(AV.i .i64 n34)]) h54)
else
(aK x0 fun v58=>
aB 4 v58 fun v59=>
aP 1 v59 (AV.b true) h46 fun h60=>
aK x0 fun v62=>
aB 2 v62 fun v63=>
aD v63 h60 fun v64=>
asS v64 fun l65=>
bV (AV.s l65) (some (AV.i .i64 n36)) none fun l66=>
aK x0 fun v67=>
aB 6 v67 fun v68=>
aP 1 v68 (AV.s l66) h60 fun h69=>
Q (AV.tu [(AV.s l42),(AV.i .i64 0)]) h69))))))
theorem Y52.i0 {Q x0 x1 x19 h} (H:Y52.t0 Q x0 x1 x19 h (Y52.J Q)):Y52.p0 Q x0 x1 x19 h:=gR Y52.J Tryz.f45 Y52.dist [1,0,1] H
def Y52.t (Q:AV→aA→Prop) (x0:AV) (x1:List UInt8) (h:aA) (J:JT):Prop:=
aK x0 fun v1=>
aB 4 v1 fun v2=>
aD v2 h fun v3=>
asB v3 fun c4=>
(bif c4 then
(J 1 [(0,x0),(1,(AV.s x1)),(19,(AV.b true))] h)
else
(aK x0 fun v6=>
aB 5 v6 fun v7=>
aD v7 h fun v8=>
asB v8 fun c9=>
J 1 [(0,x0),(1,(AV.s x1)),(19,(AV.b c9))] h))
theorem Y52.call {K x0 x1 h} (H:Y52.t (aH h K) x0 x1 h (Y52.J (aH h K))):C Y52.id [x0,(AV.s x1)] h K:=
 gC Y52.J Tryz.func45 Y52.dist H
noncomputable def Y16.body:Code:=(Tryz.f46.body).getD .skip
def Y16.ann:Ann:=(sl [0,1] (sl [1,5] (sq [5] (sl [1,5,6] (.one (.loop 1 [1,5,6] (sq [1,5,6] (sl [1,5,6,14] bl) (sq [1,5,6] (.one (sl [1,5,6] (sl [1,5,6,7] (.one (.loop 2 [1,5,6,7] (sq [1,5,6,7] (sl [1,5,6,7,24] bl) (.seq 3 [1,5,6,7] (.one (sl [1,5,6,7,8] (sl [1,5,6,7,8] (sl [1,5,6,7,32] bl)))) lf))))))) lf))))) (sl [4] lf))))
theorem Y16.dist:aL (places Y16.ann Y16.body)=true:=by kernel_rfl
noncomputable def Y16.J (Q:AV→aA→Prop):JT:=bJ prog C Tryz.f46 Y16.ann Y16.body Q
def Y16.p2 (Q:AV→aA→Prop) (x1:List UInt8) (x5 x6 x7:Int) (h:aA):Prop:=Y16.J Q 3 [(1,(AV.s x1)),(5,(AV.i .u32 x5)),(6,(AV.i .i64 x6)),(7,(AV.i .i64 x7))] h
def Y16.p1 (Q:AV→aA→Prop) (x1:List UInt8) (x5 x6 x7:Int) (h:aA):Prop:=Y16.J Q 2 [(1,(AV.s x1)),(5,(AV.i .u32 x5)),(6,(AV.i .i64 x6)),(7,(AV.i .i64 x7))] h
def Y16.p0 (Q:AV→aA→Prop) (x1:List UInt8) (x5 x6:Int) (h:aA):Prop:=Y16.J Q 1 [(1,(AV.s x1)),(5,(AV.i .u32 x5)),(6,(AV.i .i64 x6))] h
def Y16.t2 (Q:AV→aA→Prop) (x1:List UInt8) (x5 x6 x7:Int) (h:aA) (J:JT):Prop:=
aM (IntKind.wrap .i64 (x7+1)) fun n21=>
J 2 [(1,(AV.s x1)),(5,(AV.i .u32 x5)),(6,(AV.i .i64 x6)),(7,(AV.i .i64 n21))] h
theorem Y16.i2 {Q x1 x5 x6 x7 h} (H:Y16.t2 Q x1 x5 x6 x7 h (Y16.J Q)):Y16.p2 Q x1 x5 x6 x7 h:=gR Y16.J Tryz.f46 Y16.dist [1,1,0,1,0,0,1,0,0,1,1,0,0,1,1] H
def Y16.t1 (Q:AV→aA→Prop) (x1:List UInt8) (x5 x6 x7:Int) (h:aA) (J:JT):Prop:=
(bif (decide ((x7:Int)<8)) then
(s9 .u32 x5 1 fun n15=>
(bif (decide (((bA .and .u32 x5 1):Int)=1)) then
(aM (bA .xor .u32 n15 3988292384) fun n18=>
J 3 [(1,(AV.s x1)),(5,(AV.i .u32 n18)),(6,(AV.i .i64 x6)),(7,(AV.i .i64 x7))] h)
else
(J 3 [(1,(AV.s x1)),(5,(AV.i .u32 n15)),(6,(AV.i .i64 x6)),(7,(AV.i .i64 x7))] h)))
else
(aM (IntKind.wrap .i64 (x6+1)) fun n23=>
J 1 [(1,(AV.s x1)),(5,(AV.i .u32 x5)),(6,(AV.i .i64 n23))] h))
theorem Y16.i1 {Q x1 x5 x6 x7 h} (H:Y16.t1 Q x1 x5 x6 x7 h (Y16.J Q)):Y16.p1 Q x1 x5 x6 x7 h:=gH Y16.J Tryz.f46 Y16.dist [1,1,0,1,0,0,1,0,0,1,1,0] H
def Y16.t0 (Q:AV→aA→Prop) (x1:List UInt8) (x5 x6:Int) (h:aA) (J:JT):Prop:=
(bif (decide ((x6:Int)<(x1.length:Int))) then
(cK (AV.s x1) (AV.i .i64 x6) fun n7=>
aM (bA .xor .u32 x5 (IntKind.wrap .u32 n7)) fun n8=>
J 2 [(1,(AV.s x1)),(5,(AV.i .u32 n8)),(6,(AV.i .i64 x6)),(7,(AV.i .i64 0))] h)
else
(aM (bA .xor .u32 x5 4294967295) fun n25=>
Q (AV.i .u32 n25) h))
theorem Y16.i0 {Q x1 x5 x6 h} (H:Y16.t0 Q x1 x5 x6 h (Y16.J Q)):Y16.p0 Q x1 x5 x6 h:=gH Y16.J Tryz.f46 Y16.dist [1,1,0,1,0] H
def Y16.t (Q:AV→aA→Prop) (x0:Int) (x1:List UInt8) (h:aA) (J:JT):Prop:=
aM (bA .xor .u32 x0 4294967295) fun n1=>
J 1 [(1,(AV.s x1)),(5,(AV.i .u32 n1)),(6,(AV.i .i64 0))] h
theorem Y16.call {K x0 x1 h} (H:Y16.t (aH h K) x0 x1 h (Y16.J (aH h K))):C Y16.id [(AV.i .u32 x0),(AV.s x1)] h K:=
 gC Y16.J Tryz.func46 Y16.dist H
noncomputable def Y86.body:Code:=(Tryz.f47.body).getD .skip
def Y86.ann:Ann:=(sl [0] (sl [2] lf))
theorem Y86.dist:aL (places Y86.ann Y86.body)=true:=by kernel_rfl
noncomputable def Y86.J (Q:AV→aA→Prop):JT:=bJ prog C Tryz.f47 Y86.ann Y86.body Q
def Y86.t (Q:AV→aA→Prop) (x0:AV) (h:aA) (J:JT):Prop:=
aK x0 fun v1=>
aB 6 v1 fun v2=>
aD v2 h fun v3=>
asS v3 fun l4=>
Q (AV.s l4) h
theorem Y86.call {K x0 h} (H:Y86.t (aH h K) x0 h (Y86.J (aH h K))):C Y86.id [x0] h K:=
 gC Y86.J Tryz.func47 Y86.dist H
noncomputable def Y3.body:Code:=(Tryz.f48.body).getD .skip
def Y3.ann:Ann:=(sl [0,1] (sl [0,1] (sq [0,1] (sl [0,1,19] (.br (sq [0,1] (.seq 1 [0,1,36] lf (.br (sl [4] lf) lf)) (sl [0] (sl [0,5,6,7] (.seq 3 [7] (.seq 2 [0,5,7,59] lf (.br (sl [0,7] (sq [0,7] (.ord (nn 0 10 (.eff 10 (nn 11 2 (.eff 13 .done .stop)) .stop))) lf)) lf)) (sl [4] lf))))) lf)) (sl [0] (.seq 4 [0] (sl [0,102] (.br (sl [0,8] (sl [0,117] (.br (sl [4] lf) lf))) lf)) (.seq 5 [] (sl [0,123] (.br (sl [0,10] (sq [0] (sl [0,137] (.br (sl [4] lf) lf)) (sl [0] (sl [0] (sl [0] lf))))) lf)) (sl [4] lf)))))))
theorem Y3.dist:aL (places Y3.ann Y3.body)=true:=by kernel_rfl
noncomputable def Y3.J (Q:AV→aA→Prop):JT:=bJ prog C Tryz.f48 Y3.ann Y3.body Q
def Y3.p0 (Q:AV→aA→Prop) (x0:AV) (x1:List UInt8) (x36:Bool) (h:aA):Prop:=Y3.J Q 1 [(0,x0),(1,(AV.s x1)),(36,(AV.b x36))] h
def Y3.p1 (Q:AV→aA→Prop) (x0:AV) (x5:List UInt8) (x7:Int) (x59:Bool) (h:aA):Prop:=Y3.J Q 2 [(0,x0),(5,(AV.s x5)),(7,(AV.i .i64 x7)),(59,(AV.b x59))] h
def Y3.p2 (Q:AV→aA→Prop) (x7:Int) (h:aA):Prop:=Y3.J Q 3 [(7,(AV.i .i64 x7))] h
def Y3.p4 (Q:AV→aA→Prop) (h:aA):Prop:=Y3.J Q 5 [] h
def Y3.p3 (Q:AV→aA→Prop) (x0:AV) (h:aA):Prop:=Y3.J Q 4 [(0,x0)] h
def Y3.t0 (Q:AV→aA→Prop) (x0:AV) (x1:List UInt8) (x36:Bool) (h:aA) (J:JT):Prop:=
(bif x36 then
(Q (AV.i .i64 3) h)
else
(aK x0 fun v24=>
aB 6 v24 fun v25=>
aD v25 h fun v26=>
asS v26 fun l27=>
aHX l27 x1 fun l28=>
aK x0 fun v29=>
aB 6 v29 fun v30=>
aP 1 v30 (AV.s l28) h fun h31=>
aK x0 fun v33=>
aB 6 v33 fun v34=>
aD v34 h31 fun v35=>
asS v35 fun l36=>
C Y20.id [(AV.s l36)] h31 fun v37 h38=>
aO 0 v37 fun v39=>
asS v39 fun l40=>
aO 1 v37 fun v41=>
asB v41 fun c42=>
aO 2 v37 fun v43=>
asI .i64 v43 fun n44=>
(bif c42 then
(J 2 [(0,x0),(5,(AV.s l40)),(7,(AV.i .i64 n44)),(59,(AV.b (decide ((n44:Int)=0))))] h38)
else
(J 2 [(0,x0),(5,(AV.s l40)),(7,(AV.i .i64 n44)),(59,(AV.b false))] h38))))
theorem Y3.i0 {Q x0 x1 x36 h} (H:Y3.t0 Q x0 x1 x36 h (Y3.J Q)):Y3.p0 Q x0 x1 x36 h:=gR Y3.J Tryz.f48 Y3.dist [1,1,0,1,0,0,1] H
def Y3.t1 (Q:AV→aA→Prop) (x0:AV) (x5:List UInt8) (x7:Int) (x59:Bool) (h:aA) (J:JT):Prop:=
(bif x59 then
(aK x0 fun v48=>
aB 0 v48 fun v49=>
aD v49 h fun v50=>
bP 2 1 [(AV.s []),(AV.s [])] [(0,2,(AV.ag [(AV.s x5),(AV.s [])]))] h fun v51 h52=>
bU none 2 32 v50 v51 h52 fun v53 h54=>
aK x0 fun v55=>
aB 0 v55 fun v56=>
aP 1 v56 v53 h54 fun h57=>
aK x0 fun v59=>
aB 5 v59 fun v60=>
aD v60 h57 fun v61=>
asI .i64 v61 fun n62=>
aK x0 fun v63=>
aB 4 v63 fun v64=>
aD v64 h57 fun v65=>
asI .i64 v65 fun n66=>
C Y99.id [(AV.ag [(AV.i .i64 n62),(AV.i .i64 n66)])] h57 fun v67 h68=>
aK x0 fun v69=>
aB 7 v69 fun v70=>
aP 1 v70 v67 h68 fun h71=>
aK x0 fun v73=>
aB 6 v73 fun v74=>
aP 1 v74 (AV.s []) h71 fun h75=>
J 3 [(7,(AV.i .i64 x7))] h75)
else
(J 3 [(7,(AV.i .i64 x7))] h))
theorem Y3.i1 {Q x0 x5 x7 x59 h} (H:Y3.t1 Q x0 x5 x7 x59 h (Y3.J Q)):Y3.p1 Q x0 x5 x7 x59 h:=gR Y3.J Tryz.f48 Y3.dist [1,1,0,1,0,1,1,1,0,1] H
def Y3.t2 (Q:AV→aA→Prop) (x7:Int) (h:aA) (J:JT):Prop:=
Q (AV.i .i64 x7) h
theorem Y3.i2 {Q x7 h} (H:Y3.t2 Q x7 h (Y3.J Q)):Y3.p2 Q x7 h:=gR Y3.J Tryz.f48 Y3.dist [1,1,0,1,0,1,1,1,1] H
def Y3.t4 (Q:AV→aA→Prop) (h:aA) (J:JT):Prop:=
Q (AV.i .i64 0) h
theorem Y3.i4 {Q h} (H:Y3.t4 Q h (Y3.J Q)):Y3.p4 Q h:=gR Y3.J Tryz.f48 Y3.dist [1,1,1,1,1,1] H
def Y3.t3 (Q:AV→aA→Prop) (x0:AV) (h:aA) (J:JT):Prop:=
aK x0 fun v113=>
aB 8 v113 fun v114=>
aD v114 h fun v115=>
asS v115 fun l116=>
(bif (decide (((l116.length:Int):Int)=8)) then
(aK x0 fun v118=>
aB 8 v118 fun v119=>
aD v119 h fun v120=>
asS v120 fun l121=>
C Y54.id [(AV.s l121),(AV.i .i64 4),(AV.i .i64 4)] h fun v122 h123=>
aO 0 v122 fun v124=>
asI .i64 v124 fun n125=>
aO 1 v122 fun v126=>
asI .i64 v126 fun n127=>
aK x0 fun v129=>
aB 10 v129 fun v130=>
aD v130 h123 fun v131=>
asI .i64 v131 fun n132=>
(bif (!decide ((n125:Int)=n132)) then
(Q (AV.i .i64 8) h123)
else
(aK x0 fun v136=>
aB 7 v136 fun v137=>
aP 1 v137 (AV.p none) h123 fun h138=>
aK x0 fun v140=>
aB 8 v140 fun v141=>
aP 1 v141 (AV.s []) h138 fun h142=>
aK x0 fun v144=>
aB 9 v144 fun v145=>
aP 1 v145 (AV.i .u32 0) h142 fun h146=>
aK x0 fun v148=>
aB 10 v148 fun v149=>
aP 1 v149 (AV.i .i64 0) h146 fun h150=>
J 5 [] h150)))
else
(J 5 [] h))
theorem Y3.i3 {Q x0 h} (H:Y3.t3 Q x0 h (Y3.J Q)):Y3.p3 Q x0 h:=gR Y3.J Tryz.f48 Y3.dist [1,1,1,1,1] H
def Y3.t (Q:AV→aA→Prop) (x0:AV) (x1:List UInt8) (h:aA) (J:JT):Prop:=
aK x0 fun v1=>
aB 12 v1 fun v2=>
aP 1 v2 (AV.b true) h fun h3=>
aK x0 fun v5=>
aB 7 v5 fun v6=>
aD v6 h3 fun v7=>
cI prog .eql 62 v7 (AV.p none) fun v8=>
asB v8 fun c9=>
(bif c9 then
(aK x0 fun v11=>
aB 6 v11 fun v12=>
aD v12 h3 fun v13=>
asS v13 fun l14=>
(bif (decide ((l14:List UInt8)=[])) then
(aK x0 fun v15=>
aB 0 v15 fun v16=>
aD v16 h3 fun v17=>
bR v17 fun n18=>
(bif (decide ((n18:Int)=16)) then
(J 1 [(0,x0),(1,(AV.s x1)),(36,(AV.b (decide ((x1:List UInt8)=[31]))))] h3)
else
(J 1 [(0,x0),(1,(AV.s x1)),(36,(AV.b false))] h3)))
else
(J 1 [(0,x0),(1,(AV.s x1)),(36,(AV.b false))] h3)))
else
(aK x0 fun v80=>
aB 8 v80 fun v81=>
aD v81 h3 fun v82=>
asS v82 fun l83=>
aHX l83 x1 fun l84=>
aK x0 fun v85=>
aB 8 v85 fun v86=>
aP 1 v86 (AV.s l84) h3 fun h87=>
aK x0 fun v89=>
aB 8 v89 fun v90=>
aD v90 h87 fun v91=>
asS v91 fun l92=>
(bif (decide (((l92.length:Int):Int)=4)) then
(aK x0 fun v94=>
aB 8 v94 fun v95=>
aD v95 h87 fun v96=>
asS v96 fun l97=>
C Y54.id [(AV.s l97),(AV.i .i64 0),(AV.i .i64 4)] h87 fun v98 h99=>
aO 0 v98 fun v100=>
asI .i64 v100 fun n101=>
aO 1 v98 fun v102=>
asI .i64 v102 fun n103=>
aK x0 fun v105=>
aB 9 v105 fun v106=>
aD v106 h99 fun v107=>
asI .u32 v107 fun n108=>
(bif (!decide ((n101:Int)=(IntKind.wrap .i64 n108))) then
(Q (AV.i .i64 8) h99)
else
(J 4 [(0,x0)] h99)))
else
(J 4 [(0,x0)] h87))))
theorem Y3.call {K x0 x1 h} (H:Y3.t (aH h K) x0 x1 h (Y3.J (aH h K))):C Y3.id [x0,(AV.s x1)] h K:=
 gC Y3.J Tryz.func48 Y3.dist H
end Go.Proofs.YtfoekpcljhbijaaGreatDoor
namespace Go.Proofs.YtfoekpcljhbijaaGreatDoor
open Go.GAM
variable [XR]
noncomputable def Y19.body:Code:=(Tryz.f54.body).getD .skip
def Y19.ann:Ann:=(sl [0] (sq [0] (sl [0,3] (.one (.loop 1 [0,3] (sl [0,3,4] (sq [0,3] bl (.seq 3 [0,3] (.one (sl [0,2,3] (.one (.seq 2 [0,2,3,9] lf (.br lf (sl [0,3,19] bl)))))) lf)))))) (sl [0,1] lf)))
theorem Y19.dist:aL (places Y19.ann Y19.body)=true:=by kernel_rfl
noncomputable def Y19.J (Q:AV→aA→Prop):JT:=bJ prog C Tryz.f54 Y19.ann Y19.body Q
def Y19.p1 (Q:AV→aA→Prop) (x0:AV) (x2 x3:Int) (x9:Bool) (h:aA):Prop:=Y19.J Q 2 [(0,x0),(2,(AV.i .i64 x2)),(3,(AV.i .i64 x3)),(9,(AV.b x9))] h
def Y19.p2 (Q:AV→aA→Prop) (x0:AV) (x3:Int) (h:aA):Prop:=Y19.J Q 3 [(0,x0),(3,(AV.i .i64 x3))] h
def Y19.p0 (Q:AV→aA→Prop) (x0:AV) (x3:Int) (h:aA):Prop:=Y19.J Q 1 [(0,x0),(3,(AV.i .i64 x3))] h
def Y19.t1 (Q:AV→aA→Prop) (x0:AV) (x2 x3:Int) (x9:Bool) (h:aA) (J:JT):Prop:=
(bif x9 then
(bP 1 1 [(AV.i .i64 0)] [(0,1,(AV.i .i64 8))] h fun v8 h9=>
bU none 1 8 x0 v8 h9 fun v10 h11=>
J 3 [(0,v10),(3,(AV.i .i64 x3))] h11)
else
((bif (decide ((x2:Int)<256)) then
(bP 1 1 [(AV.i .i64 0)] [(0,1,(AV.i .i64 9))] h fun v14 h15=>
bU none 1 8 x0 v14 h15 fun v16 h17=>
J 3 [(0,v16),(3,(AV.i .i64 x3))] h17)
else
(bP 1 1 [(AV.i .i64 0)] [(0,1,(AV.i .i64 7))] h fun v19 h20=>
bU none 1 8 x0 v19 h20 fun v21 h22=>
J 3 [(0,v21),(3,(AV.i .i64 x3))] h22))))
theorem Y19.i1 {Q x0 x2 x3 x9 h} (H:Y19.t1 Q x0 x2 x3 x9 h (Y19.J Q)):Y19.p1 Q x0 x2 x3 x9 h:=gR Y19.J Tryz.f54 Y19.dist [1,0,1,0,0,1,1,0,0,1,0,1] H
def Y19.t2 (Q:AV→aA→Prop) (x0:AV) (x3:Int) (h:aA) (J:JT):Prop:=
aM (IntKind.wrap .i64 (x3+1)) fun n24=>
J 1 [(0,x0),(3,(AV.i .i64 n24))] h
theorem Y19.i2 {Q x0 x3 h} (H:Y19.t2 Q x0 x3 h (Y19.J Q)):Y19.p2 Q x0 x3 h:=gR Y19.J Tryz.f54 Y19.dist [1,0,1,0,0,1,1,1] H
def Y19.t0 (Q:AV→aA→Prop) (x0:AV) (x3:Int) (h:aA) (J:JT):Prop:=
(bif (decide ((x3:Int)<288)) then
((bif (decide ((x3:Int)<144)) then
(J 2 [(0,x0),(2,(AV.i .i64 x3)),(3,(AV.i .i64 x3)),(9,(AV.b true))] h)
else
(J 2 [(0,x0),(2,(AV.i .i64 x3)),(3,(AV.i .i64 x3)),(9,(AV.b (decide ((280:Int)≤x3))))] h)))
else
(bP 1 1 [(AV.i .i64 0)] [(0,1,(AV.i .i64 5))] h fun v26 h27=>
C Y29.id [v26,(AV.i .i64 32)] h27 fun v28 h29=>
Q (AV.tu [x0,v28]) h29))
theorem Y19.i0 {Q x0 x3 h} (H:Y19.t0 Q x0 x3 h (Y19.J Q)):Y19.p0 Q x0 x3 h:=gH Y19.J Tryz.f54 Y19.dist [1,0,1,0] H
def Y19.t (Q:AV→aA→Prop) (h:aA) (J:JT):Prop:=
J 1 [(0,(AV.sl none 0 none)),(3,(AV.i .i64 0))] h
theorem Y19.call {K h} (H:Y19.t (aH h K) h (Y19.J (aH h K))):C Y19.id [] h K:=
 gC Y19.J Tryz.func54 Y19.dist H
noncomputable def Y37.body:Code:=(Tryz.f66.body).getD .skip
def Y37.ann:Ann:=(sl [0,2,3] (.one (.loop 1 [0,2,3] (sq [0,2,3] (sl [0,2,3,9] bl) (sq [0,2,3] (.one (.ord (nn 0 13 (.eff 13 (.neu 14 (.eff 15 .done .stop)) .stop)))) lf)))))
theorem Y37.dist:aL (places Y37.ann Y37.body)=true:=by kernel_rfl
noncomputable def Y37.J (Q:AV→aA→Prop):JT:=bJ prog C Tryz.f66 Y37.ann Y37.body Q
def Y37.p0 (Q:AV→aA→Prop) (x0:AV) (x2 x3:Int) (h:aA):Prop:=Y37.J Q 1 [(0,x0),(2,(AV.i .i64 x2)),(3,(AV.i .i64 x3))] h
def Y37.t0 (Q:AV→aA→Prop) (x0:AV) (x2 x3:Int) (h:aA) (J:JT):Prop:=
(bif (decide ((x2:Int)<x3)) then
(aU 1 x0 (AV.i .i64 x3) h fun v5=>
aD v5 h fun v6=>
asI .u8 v6 fun n7=>
aU 1 x0 (AV.i .i64 x2) h fun v8=>
aD v8 h fun v9=>
asI .u8 v9 fun n10=>
aU 1 x0 (AV.i .i64 x2) h fun v11=>
aP 1 v11 (AV.i .u8 n7) h fun h12=>
aU 1 x0 (AV.i .i64 x3) h12 fun v13=>
aP 1 v13 (AV.i .u8 n10) h12 fun h14=>
aM (IntKind.wrap .i64 (x2+1)) fun n16=>
aM (IntKind.wrap .i64 (x3 - 1)) fun n17=>
J 1 [(0,x0),(2,(AV.i .i64 n16)),(3,(AV.i .i64 n17))] h14)
else
(Q (AV.tu []) h))
theorem Y37.i0 {Q x0 x2 x3 h} (H:Y37.t0 Q x0 x2 x3 h (Y37.J Q)):Y37.p0 Q x0 x2 x3 h:=gH Y37.J Tryz.f66 Y37.dist [1,0] H
def Y37.t (Q:AV→aA→Prop) (x0:AV) (h:aA) (J:JT):Prop:=
bR x0 fun n0=>
aM (IntKind.wrap .i64 (n0 - 1)) fun n1=>
J 1 [(0,x0),(2,(AV.i .i64 0)),(3,(AV.i .i64 n1))] h
theorem Y37.call {K x0 h} (H:Y37.t (aH h K) x0 h (Y37.J (aH h K))):C Y37.id [x0] h K:=
 gC Y37.J Tryz.func66 Y37.dist H
noncomputable def Y61.body:Code:=(Tryz.f67.body).getD .skip
def Y61.ann:Ann:=(sl [0,1,2] (sl [6] lf))
theorem Y61.dist:aL (places Y61.ann Y61.body)=true:=by kernel_rfl
noncomputable def Y61.J (Q:AV→aA→Prop):JT:=bJ prog C Tryz.f67 Y61.ann Y61.body Q
def Y61.t (Q:AV→aA→Prop) (x0 x1 x2:Int) (h:aA) (J:JT):Prop:=
aM (mmI false (mmI true x0 x1) x2) fun n1=>
Q (AV.i .i64 n1) h
theorem Y61.call {K x0 x1 x2 h} (H:Y61.t (aH h K) x0 x1 x2 h (Y61.J (aH h K))):C Y61.id [(AV.i .i64 x0),(AV.i .i64 x1),(AV.i .i64 x2)] h K:=
 gC Y61.J Tryz.func67 Y61.dist H
noncomputable def Y58.body:Code:=(Tryz.f68.body).getD .skip
def Y58.ann:Ann:=(sl [1] (sq [1] (sl [1,6] (.br (sl [] (sl [2] lf)) lf)) (sl [2] lf)))
theorem Y58.dist:aL (places Y58.ann Y58.body)=true:=by kernel_rfl
noncomputable def Y58.J (Q:AV→aA→Prop):JT:=bJ prog C Tryz.f68 Y58.ann Y58.body Q
def Y58.t (Q:AV→aA→Prop) (x0:AV) (h:aA) (J:JT):Prop:=
dS none x0 h fun v0 h1=>
aD v0 h1 fun v3=>
aK v3 fun v4=>
aB 6 v4 fun v5=>
aD v5 h1 fun v6=>
asB v6 fun c7=>
(bif c7 then
(aD v0 h1 fun v9=>
aK v9 fun v10=>
aB 7 v10 fun v11=>
aP 1 v11 (AV.b true) h1 fun h12=>
Q (AV.i .i64 0) h12)
else
(aD v0 h1 fun v16=>
C Y53.id [v16,(AV.i .i64 3),(AV.fn (.func Y101.id) [] [v0])] h1 fun v17 h18=>
asI .i64 v17 fun n19=>
Q (AV.i .i64 n19) h18))
theorem Y58.call {K x0 h} (H:Y58.t (aH h K) x0 h (Y58.J (aH h K))):C Y58.id [x0] h K:=
 gC Y58.J Tryz.func68 Y58.dist H
noncomputable def Y5.body:Code:=(Tryz.f69.body).getD .skip
def Y5.ann:Ann:=(sl [0,1] (.one (sl [0,1] (.seq 2 [0,5] (sl [0,1,14] (.br (sl [0,6,7,8] (sq [0,6,7] (sl [0,6,7,26] (.br (sl [4] lf) lf)) (sq [0,6] (sl [0,6,28] (.br (sl [4] lf) lf)) lf))) (sq [0] (.ord (nn 0 13 (.eff 13 .done .stop))) (sl [0] (sq [0] (sq [0,58] (.ord (nn 0 9 .done)) (.br (sl [4] lf) lf)) lf))))) (.seq 1 [0,5] lf (sq [0] (sl [0,9] (.seq 3 [0,9,76] lf (.br (sl [4] lf) lf))) (sq [] (.seq 4 [0,89] lf (.br (sl [0,5] lf) lf)) (sl [4] lf))))))))
theorem Y5.dist:aL (places Y5.ann Y5.body)=true:=by kernel_rfl
noncomputable def Y5.J (Q:AV→aA→Prop):JT:=bJ prog C Tryz.f69 Y5.ann Y5.body Q
def Y5.p2 (Q:AV→aA→Prop) (x0:AV) (x9:Int) (x76:Bool) (h:aA):Prop:=Y5.J Q 3 [(0,x0),(9,(AV.i .i64 x9)),(76,(AV.b x76))] h
def Y5.p3 (Q:AV→aA→Prop) (x0:AV) (x89:Bool) (h:aA):Prop:=Y5.J Q 4 [(0,x0),(89,(AV.b x89))] h
def Y5.p0 (Q:AV→aA→Prop) (x0:AV) (x5:Int) (h:aA):Prop:=Y5.J Q 1 [(0,x0),(5,(AV.i .i64 x5))] h
def Y5.p1 (Q:AV→aA→Prop) (x0:AV) (x5:Int) (h:aA):Prop:=Y5.J Q 2 [(0,x0),(5,(AV.i .i64 x5))] h
def Y5.t2 (Q:AV→aA→Prop) (x0:AV) (x9:Int) (x76:Bool) (h:aA) (J:JT):Prop:=
(bif x76 then
(Q (AV.i .i64 x9) h)
else
(aK x0 fun v82=>
aB 14 v82 fun v83=>
aD v83 h fun v84=>
cI prog .eql 82 v84 (AV.p none) fun v85=>
asB v85 fun c86=>
(bif c86 then
(aK x0 fun v87=>
aB 13 v87 fun v88=>
aD v88 h fun v89=>
asI .i64 v89 fun n90=>
J 4 [(0,x0),(89,(AV.b (decide ((n90:Int)=0))))] h)
else
(J 4 [(0,x0),(89,(AV.b false))] h))))
theorem Y5.i2 {Q x0 x9 x76 h} (H:Y5.t2 Q x0 x9 x76 h (Y5.J Q)):Y5.p2 Q x0 x9 x76 h:=gR Y5.J Tryz.f69 Y5.dist [1,0,1,1,1,0,1,1] H
def Y5.t3 (Q:AV→aA→Prop) (x0:AV) (x89:Bool) (h:aA) (J:JT):Prop:=
(bif x89 then
(J 1 [(0,x0),(5,(AV.i .i64 0))] h)
else
(Q (AV.i .i64 0) h))
theorem Y5.i3 {Q x0 x89 h} (H:Y5.t3 Q x0 x89 h (Y5.J Q)):Y5.p3 Q x0 x89 h:=gR Y5.J Tryz.f69 Y5.dist [1,0,1,1,1,1,0,1] H
def Y5.t0 (Q:AV→aA→Prop) (x0:AV) (x5:Int) (h:aA) (J:JT):Prop:=
aK x0 fun v67=>
aB 15 v67 fun v68=>
aD v68 h fun v69=>
cL C v69 [(AV.i .i64 x5)] h fun v70 h71=>
asI .i64 v70 fun n72=>
(bif (!decide ((n72:Int)=0)) then
(J 3 [(0,x0),(9,(AV.i .i64 n72)),(76,(AV.b true))] h71)
else
(aK x0 fun v75=>
aB 7 v75 fun v76=>
aD v76 h71 fun v77=>
asB v77 fun c78=>
J 3 [(0,x0),(9,(AV.i .i64 n72)),(76,(AV.b c78))] h71))
theorem Y5.i0 {Q x0 x5 h} (H:Y5.t0 Q x0 x5 h (Y5.J Q)):Y5.p0 Q x0 x5 h:=gR Y5.J Tryz.f69 Y5.dist [1,0,1,1,1] H
def Y5.t1 (Q:AV→aA→Prop) (x0:AV) (x5:Int) (h:aA) (J:JT):Prop:=
J 1 [(0,x0),(5,(AV.i .i64 x5))] h
theorem Y5.i1 {Q x0 x5 h} (H:Y5.t1 Q x0 x5 h (Y5.J Q)):Y5.p1 Q x0 x5 h:=gR Y5.J Tryz.f69 Y5.dist [1,0,1,1] H
def Y5.t (Q:AV→aA→Prop) (x0:AV) (x1:Int) (h:aA) (J:JT):Prop:=
aK x0 fun v2=>
aB 14 v2 fun v3=>
aD v3 h fun v4=>
cI prog .neq 82 v4 (AV.p none) fun v5=>
asB v5 fun c6=>
(bif c6 then
(aK x0 fun v8=>
aB 14 v8 fun v9=>
aD v9 h fun v10=>
C Y25.id [v10,(AV.i .i64 x1)] h fun v11 h12=>
aO 0 v11 fun v13=>
asI .i64 v13 fun n14=>
aO 1 v11 fun v15=>
asB v15 fun c16=>
aO 2 v11 fun v17=>
asI .i64 v17 fun n18=>
(bif (!decide ((n18:Int)=0)) then
(Q (AV.i .i64 2) h12)
else
((bif (!c16) then
(Q (AV.i .i64 0) h12)
else
(J 2 [(0,x0),(5,(AV.i .i64 n14))] h12)))))
else
(aK x0 fun v27=>
aB 11 v27 fun v28=>
aD v28 h fun v29=>
asI .i64 v29 fun n30=>
aK x0 fun v31=>
aB 12 v31 fun v32=>
aD v32 h fun v33=>
asI .i64 v33 fun n34=>
mU .i64 x1 n34 fun n35=>
aM (bA .or .i64 n30 n35) fun n36=>
aK x0 fun v37=>
aB 11 v37 fun v38=>
aP 1 v38 (AV.i .i64 n36) h fun h39=>
aK x0 fun v41=>
aB 12 v41 fun v42=>
aD v42 h39 fun v43=>
asI .i64 v43 fun n44=>
aM (IntKind.wrap .i64 (n44+1)) fun n45=>
aK x0 fun v46=>
aB 12 v46 fun v47=>
aP 1 v47 (AV.i .i64 n45) h39 fun h48=>
aK x0 fun v50=>
aB 12 v50 fun v51=>
aD v51 h48 fun v52=>
asI .i64 v52 fun n53=>
aK x0 fun v54=>
aB 13 v54 fun v55=>
aD v55 h48 fun v56=>
asI .i64 v56 fun n57=>
(bif (decide ((n53:Int)<n57)) then
(Q (AV.i .i64 0) h48)
else
(aK x0 fun v61=>
aB 11 v61 fun v62=>
aD v62 h48 fun v63=>
asI .i64 v63 fun n64=>
J 2 [(0,x0),(5,(AV.i .i64 n64))] h48))))
theorem Y5.call {K x0 x1 h} (H:Y5.t (aH h K) x0 x1 h (Y5.J (aH h K))):C Y5.id [x0,(AV.i .i64 x1)] h K:=
 gC Y5.J Tryz.func69 Y5.dist H
noncomputable def Y17.body:Code:=(Tryz.f70.body).getD .skip
def Y17.ann:Ann:=(sl [0] (sl [0,1] (sq [0,1] (sl [0,1,5] (.one (.loop 1 [0,1,5] (sl [0,1,5,6] (sq [0,1,5] bl (sq [0,1,5] (.one (sl [0,1,2,5] (sl [0,1,2,3,5] (sq [0,1,2,3,5] (sl [0,1,2,3,5,10] (.one (.loop 2 [0,1,2,3,5,10] (sl [0,1,2,3,5,10,11] (sq [0,1,2,3,5,10] bl (.seq 3 [0,1,2,3,5,10] (.one (sl [0,1,2,3,4,5,10] (sl [0,1,2,3,4,5,10] (sl [0,1,2,3,5,10,17] bl)))) lf)))))) lf)))) lf)))))) (sl [0] lf))))
theorem Y17.dist:aL (places Y17.ann Y17.body)=true:=by kernel_rfl
noncomputable def Y17.J (Q:AV→aA→Prop):JT:=bJ prog C Tryz.f70 Y17.ann Y17.body Q
def Y17.p2 (Q:AV→aA→Prop) (x0 x1:AV) (x2 x3 x5 x10:Int) (h:aA):Prop:=Y17.J Q 3 [(0,x0),(1,x1),(2,(AV.i .i64 x2)),(3,(AV.i .u32 x3)),(5,(AV.i .i64 x5)),(10,(AV.i .i64 x10))] h
def Y17.p1 (Q:AV→aA→Prop) (x0 x1:AV) (x2 x3 x5 x10:Int) (h:aA):Prop:=Y17.J Q 2 [(0,x0),(1,x1),(2,(AV.i .i64 x2)),(3,(AV.i .u32 x3)),(5,(AV.i .i64 x5)),(10,(AV.i .i64 x10))] h
def Y17.p0 (Q:AV→aA→Prop) (x0 x1:AV) (x5:Int) (h:aA):Prop:=Y17.J Q 1 [(0,x0),(1,x1),(5,(AV.i .i64 x5))] h
def Y17.t2 (Q:AV→aA→Prop) (x0 x1:AV) (x2 x3 x5 x10:Int) (h:aA) (J:JT):Prop:=
aM (IntKind.wrap .i64 (x10+1)) fun n23=>
J 2 [(0,x0),(1,x1),(2,(AV.i .i64 x2)),(3,(AV.i .u32 x3)),(5,(AV.i .i64 x5)),(10,(AV.i .i64 n23))] h
theorem Y17.i2 {Q x0 x1 x2 x3 x5 x10 h} (H:Y17.t2 Q x0 x1 x2 x3 x5 x10 h (Y17.J Q)):Y17.p2 Q x0 x1 x2 x3 x5 x10 h:=gR Y17.J Tryz.f70 Y17.dist [1,1,0,1,0,0,1,1,0,0,1,1,0,1,0,0,1,1,1] H
def Y17.t1 (Q:AV→aA→Prop) (x0 x1:AV) (x2 x3 x5 x10:Int) (h:aA) (J:JT):Prop:=
(bif (decide ((x10:Int)<8)) then
(s9 .u32 x3 1 fun n17=>
(bif (decide (((bA .and .u32 x3 1):Int)=1)) then
(aM (bA .xor .u32 n17 3988292384) fun n20=>
J 3 [(0,x0),(1,x1),(2,(AV.i .i64 x2)),(3,(AV.i .u32 n20)),(5,(AV.i .i64 x5)),(10,(AV.i .i64 x10))] h)
else
(J 3 [(0,x0),(1,x1),(2,(AV.i .i64 x2)),(3,(AV.i .u32 n17)),(5,(AV.i .i64 x5)),(10,(AV.i .i64 x10))] h)))
else
(bT 256 1 x1 (AV.i .i64 x2) fun v25=>
aP 1 v25 (AV.i .u32 x3) h fun h26=>
aM (IntKind.wrap .i64 (x5+1)) fun n28=>
J 1 [(0,x0),(1,x1),(5,(AV.i .i64 n28))] h26))
theorem Y17.i1 {Q x0 x1 x2 x3 x5 x10 h} (H:Y17.t1 Q x0 x1 x2 x3 x5 x10 h (Y17.J Q)):Y17.p1 Q x0 x1 x2 x3 x5 x10 h:=gH Y17.J Tryz.f70 Y17.dist [1,1,0,1,0,0,1,1,0,0,1,1,0,1,0] H
def Y17.t0 (Q:AV→aA→Prop) (x0 x1:AV) (x5:Int) (h:aA) (J:JT):Prop:=
(bif (decide ((x5:Int)<256)) then
(J 2 [(0,x0),(1,x1),(2,(AV.i .i64 x5)),(3,(AV.i .u32 (IntKind.wrap .u32 x5))),(5,(AV.i .i64 x5)),(10,(AV.i .i64 0))] h)
else
(dC 256 x1 h fun v30=>
aP 256 x0 v30 h fun h31=>
dC 256 x0 h31 fun v33=>
Q v33 h31))
theorem Y17.i0 {Q x0 x1 x5 h} (H:Y17.t0 Q x0 x1 x5 h (Y17.J Q)):Y17.p0 Q x0 x1 x5 h:=gH Y17.J Tryz.f70 Y17.dist [1,1,0,1,0] H
def Y17.t (Q:AV→aA→Prop) (h:aA) (J:JT):Prop:=
eK none [(AV.i .u32 0),(AV.i .u32 0),(AV.i .u32 0),(AV.i .u32 0),(AV.i .u32 0),(AV.i .u32 0),(AV.i .u32 0),(AV.i .u32 0),(AV.i .u32 0),(AV.i .u32 0),(AV.i .u32 0),(AV.i .u32 0),(AV.i .u32 0),(AV.i .u32 0),(AV.i .u32 0),(AV.i .u32 0),(AV.i .u32 0),(AV.i .u32 0),(AV.i .u32 0),(AV.i .u32 0),(AV.i .u32 0),(AV.i .u32 0),(AV.i .u32 0),(AV.i .u32 0),(AV.i .u32 0),(AV.i .u32 0),(AV.i .u32 0),(AV.i .u32 0),(AV.i .u32 0),(AV.i .u32 0),(AV.i .u32 0),(AV.i .u32 0),(AV.i .u32 0),(AV.i .u32 0),(AV.i .u32 0),(AV.i .u32 0),(AV.i .u32 0),(AV.i .u32 0),(AV.i .u32 0),(AV.i .u32 0),(AV.i .u32 0),(AV.i .u32 0),(AV.i .u32 0),(AV.i .u32 0),(AV.i .u32 0),(AV.i .u32 0),(AV.i .u32 0),(AV.i .u32 0),(AV.i .u32 0),(AV.i .u32 0),(AV.i .u32 0),(AV.i .u32 0),(AV.i .u32 0),(AV.i .u32 0),(AV.i .u32 0),(AV.i .u32 0),(AV.i .u32 0),(AV.i .u32 0),(AV.i .u32 0),(AV.i .u32 0),(AV.i .u32 0),(AV.i .u32 0),(AV.i .u32 0),(AV.i .u32 0),(AV.i .u32 0),(AV.i .u32 0),(AV.i .u32 0),(AV.i .u32 0),(AV.i .u32 0),(AV.i .u32 0),(AV.i .u32 0),(AV.i .u32 0),(AV.i .u32 0),(AV.i .u32 0),(AV.i .u32 0),(AV.i .u32 0),(AV.i .u32 0),(AV.i .u32 0),(AV.i .u32 0),(AV.i .u32 0),(AV.i .u32 0),(AV.i .u32 0),(AV.i .u32 0),(AV.i .u32 0),(AV.i .u32 0),(AV.i .u32 0),(AV.i .u32 0),(AV.i .u32 0),(AV.i .u32 0),(AV.i .u32 0),(AV.i .u32 0),(AV.i .u32 0),(AV.i .u32 0),(AV.i .u32 0),(AV.i .u32 0),(AV.i .u32 0),(AV.i .u32 0),(AV.i .u32 0),(AV.i .u32 0),(AV.i .u32 0),(AV.i .u32 0),(AV.i .u32 0),(AV.i .u32 0),(AV.i .u32 0),(AV.i .u32 0),(AV.i .u32 0),(AV.i .u32 0),(AV.i .u32 0),(AV.i .u32 0),(AV.i .u32 0),(AV.i .u32 0),(AV.i .u32 0),(AV.i .u32 0),(AV.i .u32 0),(AV.i .u32 0),(AV.i .u32 0),(AV.i .u32 0),(AV.i .u32 0),(AV.i .u32 0),(AV.i .u32 0),(AV.i .u32 0),(AV.i .u32 0),(AV.i .u32 0),(AV.i .u32 0),(AV.i .u32 0),(AV.i .u32 0),(AV.i .u32 0),(AV.i .u32 0),(AV.i .u32 0),(AV.i .u32 0),(AV.i .u32 0),(AV.i .u32 0),(AV.i .u32 0),(AV.i .u32 0),(AV.i .u32 0),(AV.i .u32 0),(AV.i .u32 0),(AV.i .u32 0),(AV.i .u32 0),(AV.i .u32 0),(AV.i .u32 0),(AV.i .u32 0),(AV.i .u32 0),(AV.i .u32 0),(AV.i .u32 0),(AV.i .u32 0),(AV.i .u32 0),(AV.i .u32 0),(AV.i .u32 0),(AV.i .u32 0),(AV.i .u32 0),(AV.i .u32 0),(AV.i .u32 0),(AV.i .u32 0),(AV.i .u32 0),(AV.i .u32 0),(AV.i .u32 0),(AV.i .u32 0),(AV.i .u32 0),(AV.i .u32 0),(AV.i .u32 0),(AV.i .u32 0),(AV.i .u32 0),(AV.i .u32 0),(AV.i .u32 0),(AV.i .u32 0),(AV.i .u32 0),(AV.i .u32 0),(AV.i .u32 0),(AV.i .u32 0),(AV.i .u32 0),(AV.i .u32 0),(AV.i .u32 0),(AV.i .u32 0),(AV.i .u32 0),(AV.i .u32 0),(AV.i .u32 0),(AV.i .u32 0),(AV.i .u32 0),(AV.i .u32 0),(AV.i .u32 0),(AV.i .u32 0),(AV.i .u32 0),(AV.i .u32 0),(AV.i .u32 0),(AV.i .u32 0),(AV.i .u32 0),(AV.i .u32 0),(AV.i .u32 0),(AV.i .u32 0),(AV.i .u32 0),(AV.i .u32 0),(AV.i .u32 0),(AV.i .u32 0),(AV.i .u32 0),(AV.i .u32 0),(AV.i .u32 0),(AV.i .u32 0),(AV.i .u32 0),(AV.i .u32 0),(AV.i .u32 0),(AV.i .u32 0),(AV.i .u32 0),(AV.i .u32 0),(AV.i .u32 0),(AV.i .u32 0),(AV.i .u32 0),(AV.i .u32 0),(AV.i .u32 0),(AV.i .u32 0),(AV.i .u32 0),(AV.i .u32 0),(AV.i .u32 0),(AV.i .u32 0),(AV.i .u32 0),(AV.i .u32 0),(AV.i .u32 0),(AV.i .u32 0),(AV.i .u32 0),(AV.i .u32 0),(AV.i .u32 0),(AV.i .u32 0),(AV.i .u32 0),(AV.i .u32 0),(AV.i .u32 0),(AV.i .u32 0),(AV.i .u32 0),(AV.i .u32 0),(AV.i .u32 0),(AV.i .u32 0),(AV.i .u32 0),(AV.i .u32 0),(AV.i .u32 0),(AV.i .u32 0),(AV.i .u32 0),(AV.i .u32 0),(AV.i .u32 0),(AV.i .u32 0),(AV.i .u32 0),(AV.i .u32 0),(AV.i .u32 0),(AV.i .u32 0),(AV.i .u32 0),(AV.i .u32 0),(AV.i .u32 0),(AV.i .u32 0),(AV.i .u32 0),(AV.i .u32 0),(AV.i .u32 0),(AV.i .u32 0),(AV.i .u32 0),(AV.i .u32 0),(AV.i .u32 0),(AV.i .u32 0),(AV.i .u32 0),(AV.i .u32 0)] h fun v0 h1=>
eK none [(AV.i .u32 0),(AV.i .u32 0),(AV.i .u32 0),(AV.i .u32 0),(AV.i .u32 0),(AV.i .u32 0),(AV.i .u32 0),(AV.i .u32 0),(AV.i .u32 0),(AV.i .u32 0),(AV.i .u32 0),(AV.i .u32 0),(AV.i .u32 0),(AV.i .u32 0),(AV.i .u32 0),(AV.i .u32 0),(AV.i .u32 0),(AV.i .u32 0),(AV.i .u32 0),(AV.i .u32 0),(AV.i .u32 0),(AV.i .u32 0),(AV.i .u32 0),(AV.i .u32 0),(AV.i .u32 0),(AV.i .u32 0),(AV.i .u32 0),(AV.i .u32 0),(AV.i .u32 0),(AV.i .u32 0),(AV.i .u32 0),(AV.i .u32 0),(AV.i .u32 0),(AV.i .u32 0),(AV.i .u32 0),(AV.i .u32 0),(AV.i .u32 0),(AV.i .u32 0),(AV.i .u32 0),(AV.i .u32 0),(AV.i .u32 0),(AV.i .u32 0),(AV.i .u32 0),(AV.i .u32 0),(AV.i .u32 0),(AV.i .u32 0),(AV.i .u32 0),(AV.i .u32 0),(AV.i .u32 0),(AV.i .u32 0),(AV.i .u32 0),(AV.i .u32 0),(AV.i .u32 0),(AV.i .u32 0),(AV.i .u32 0),(AV.i .u32 0),(AV.i .u32 0),(AV.i .u32 0),(AV.i .u32 0),(AV.i .u32 0),(AV.i .u32 0),(AV.i .u32 0),(AV.i .u32 0),(AV.i .u32 0),(AV.i .u32 0),(AV.i .u32 0),(AV.i .u32 0),(AV.i .u32 0),(AV.i .u32 0),(AV.i .u32 0),(AV.i .u32 0),(AV.i .u32 0),(AV.i .u32 0),(AV.i .u32 0),(AV.i .u32 0),(AV.i .u32 0),(AV.i .u32 0),(AV.i .u32 0),(AV.i .u32 0),(AV.i .u32 0),(AV.i .u32 0),(AV.i .u32 0),(AV.i .u32 0),(AV.i .u32 0),(AV.i .u32 0),(AV.i .u32 0),(AV.i .u32 0),(AV.i .u32 0),(AV.i .u32 0),(AV.i .u32 0),(AV.i .u32 0),(AV.i .u32 0),(AV.i .u32 0),(AV.i .u32 0),(AV.i .u32 0),(AV.i .u32 0),(AV.i .u32 0),(AV.i .u32 0),(AV.i .u32 0),(AV.i .u32 0),(AV.i .u32 0),(AV.i .u32 0),(AV.i .u32 0),(AV.i .u32 0),(AV.i .u32 0),(AV.i .u32 0),(AV.i .u32 0),(AV.i .u32 0),(AV.i .u32 0),(AV.i .u32 0),(AV.i .u32 0),(AV.i .u32 0),(AV.i .u32 0),(AV.i .u32 0),(AV.i .u32 0),(AV.i .u32 0),(AV.i .u32 0),(AV.i .u32 0),(AV.i .u32 0),(AV.i .u32 0),(AV.i .u32 0),(AV.i .u32 0),(AV.i .u32 0),(AV.i .u32 0),(AV.i .u32 0),(AV.i .u32 0),(AV.i .u32 0),(AV.i .u32 0),(AV.i .u32 0),(AV.i .u32 0),(AV.i .u32 0),(AV.i .u32 0),(AV.i .u32 0),(AV.i .u32 0),(AV.i .u32 0),(AV.i .u32 0),(AV.i .u32 0),(AV.i .u32 0),(AV.i .u32 0),(AV.i .u32 0),(AV.i .u32 0),(AV.i .u32 0),(AV.i .u32 0),(AV.i .u32 0),(AV.i .u32 0),(AV.i .u32 0),(AV.i .u32 0),(AV.i .u32 0),(AV.i .u32 0),(AV.i .u32 0),(AV.i .u32 0),(AV.i .u32 0),(AV.i .u32 0),(AV.i .u32 0),(AV.i .u32 0),(AV.i .u32 0),(AV.i .u32 0),(AV.i .u32 0),(AV.i .u32 0),(AV.i .u32 0),(AV.i .u32 0),(AV.i .u32 0),(AV.i .u32 0),(AV.i .u32 0),(AV.i .u32 0),(AV.i .u32 0),(AV.i .u32 0),(AV.i .u32 0),(AV.i .u32 0),(AV.i .u32 0),(AV.i .u32 0),(AV.i .u32 0),(AV.i .u32 0),(AV.i .u32 0),(AV.i .u32 0),(AV.i .u32 0),(AV.i .u32 0),(AV.i .u32 0),(AV.i .u32 0),(AV.i .u32 0),(AV.i .u32 0),(AV.i .u32 0),(AV.i .u32 0),(AV.i .u32 0),(AV.i .u32 0),(AV.i .u32 0),(AV.i .u32 0),(AV.i .u32 0),(AV.i .u32 0),(AV.i .u32 0),(AV.i .u32 0),(AV.i .u32 0),(AV.i .u32 0),(AV.i .u32 0),(AV.i .u32 0),(AV.i .u32 0),(AV.i .u32 0),(AV.i .u32 0),(AV.i .u32 0),(AV.i .u32 0),(AV.i .u32 0),(AV.i .u32 0),(AV.i .u32 0),(AV.i .u32 0),(AV.i .u32 0),(AV.i .u32 0),(AV.i .u32 0),(AV.i .u32 0),(AV.i .u32 0),(AV.i .u32 0),(AV.i .u32 0),(AV.i .u32 0),(AV.i .u32 0),(AV.i .u32 0),(AV.i .u32 0),(AV.i .u32 0),(AV.i .u32 0),(AV.i .u32 0),(AV.i .u32 0),(AV.i .u32 0),(AV.i .u32 0),(AV.i .u32 0),(AV.i .u32 0),(AV.i .u32 0),(AV.i .u32 0),(AV.i .u32 0),(AV.i .u32 0),(AV.i .u32 0),(AV.i .u32 0),(AV.i .u32 0),(AV.i .u32 0),(AV.i .u32 0),(AV.i .u32 0),(AV.i .u32 0),(AV.i .u32 0),(AV.i .u32 0),(AV.i .u32 0),(AV.i .u32 0),(AV.i .u32 0),(AV.i .u32 0),(AV.i .u32 0),(AV.i .u32 0),(AV.i .u32 0),(AV.i .u32 0),(AV.i .u32 0),(AV.i .u32 0),(AV.i .u32 0),(AV.i .u32 0),(AV.i .u32 0),(AV.i .u32 0),(AV.i .u32 0),(AV.i .u32 0),(AV.i .u32 0),(AV.i .u32 0),(AV.i .u32 0),(AV.i .u32 0)] h1 fun v3 h4=>
J 1 [(0,v0),(1,v3),(5,(AV.i .i64 0))] h4
theorem Y17.call {K h} (H:Y17.t (aH h K) h (Y17.J (aH h K))):C Y17.id [] h K:=
 gC Y17.J Tryz.func70 Y17.dist H
noncomputable def Y30.body:Code:=(Tryz.f71.body).getD .skip
def Y30.ann:Ann:=(.one (.loop 1 [0] (.one (sl [0,2] (.seq 2 [0,2] (sl [0,2,6] (.one (sl [0,2,6,7] (.br lf (sl [0,2,6,15] (.br lf (sl [0,2,6,22] (.br lf (sl [0,2,6,30] (.br lf (sl [0,2,38] bl))))))))))) (sq [0] (sl [0,46] bl) lf))))))
theorem Y30.dist:aL (places Y30.ann Y30.body)=true:=by kernel_rfl
noncomputable def Y30.J (Q:AV→aA→Prop):JT:=bJ prog C Tryz.f71 Y30.ann Y30.body Q
def Y30.p1 (Q:AV→aA→Prop) (x0:AV) (x2:Bool) (h:aA):Prop:=Y30.J Q 2 [(0,x0),(2,(AV.b x2))] h
def Y30.p0 (Q:AV→aA→Prop) (x0:AV) (h:aA):Prop:=Y30.J Q 1 [(0,x0)] h
def Y30.t1 (Q:AV→aA→Prop) (x0:AV) (x2:Bool) (h:aA) (J:JT):Prop:=
(bif x2 then
(Q (AV.tu []) h)
else
(aK x0 fun v40=>
aB 0 v40 fun v41=>
aD v41 h fun v42=>
asI .i64 v42 fun n43=>
aM (IntKind.wrap .i64 (n43+1)) fun n44=>
aK x0 fun v45=>
aB 0 v45 fun v46=>
aP 1 v46 (AV.i .i64 n44) h fun h47=>
J 1 [(0,x0)] h47))
theorem Y30.i1 {Q x0 x2 h} (H:Y30.t1 Q x0 x2 h (Y30.J Q)):Y30.p1 Q x0 x2 h:=gR Y30.J Tryz.f71 Y30.dist [0,0,0,1,1] H
def Y30.t0 (Q:AV→aA→Prop) (x0:AV) (h:aA) (J:JT):Prop:=
aK x0 fun v1=>
aB 0 v1 fun v2=>
aD v2 h fun v3=>
asI .i64 v3 fun n4=>
(bif (decide ((n4:Int)=3)) then
(aK x0 fun v7=>
aB 2 v7 fun v8=>
aD v8 h fun v9=>
asI .i64 v9 fun n10=>
J 2 [(0,x0),(2,(AV.b (!decide (((bA .and .i64 n10 4):Int)=0))))] h)
else
((bif (decide ((n4:Int)=4)) then
(aK x0 fun v13=>
aB 3 v13 fun v14=>
aD v14 h fun v15=>
asI .i64 v15 fun n16=>
J 2 [(0,x0),(2,(AV.b (decide ((0:Int)<n16))))] h)
else
((bif (decide ((n4:Int)=5)) then
(aK x0 fun v19=>
aB 2 v19 fun v20=>
aD v20 h fun v21=>
asI .i64 v21 fun n22=>
J 2 [(0,x0),(2,(AV.b (!decide (((bA .and .i64 n22 8):Int)=0))))] h)
else
((bif (decide ((n4:Int)=6)) then
(aK x0 fun v25=>
aB 2 v25 fun v26=>
aD v26 h fun v27=>
asI .i64 v27 fun n28=>
aM (bA .and .i64 n28 16) fun n29=>
J 2 [(0,x0),(2,(AV.b (!decide ((n29:Int)=0))))] h)
else
((bif (decide ((n4:Int)=7)) then
(aK x0 fun v32=>
aB 2 v32 fun v33=>
aD v33 h fun v34=>
asI .i64 v34 fun n35=>
J 2 [(0,x0),(2,(AV.b (!decide (((bA .and .i64 n35 2):Int)=0))))] h)
else
(J 2 [(0,x0),(2,(AV.b true))] h))))))))))
theorem Y30.i0 {Q x0 h} (H:Y30.t0 Q x0 h (Y30.J Q)):Y30.p0 Q x0 h:=gH Y30.J Tryz.f71 Y30.dist [0] H
def Y30.t (Q:AV→aA→Prop) (x0:AV) (h:aA) (J:JT):Prop:=
J 1 [(0,x0)] h
theorem Y30.call {K x0 h} (H:Y30.t (aH h K) x0 h (Y30.J (aH h K))):C Y30.id [x0] h K:=
 gC Y30.J Tryz.func71 Y30.dist H
noncomputable def Y48.body:Code:=(Tryz.f73.body).getD .skip
def Y48.ann:Ann:=(sl [0] (.seq 1 [2] lf lf))
theorem Y48.dist:aL (places Y48.ann Y48.body)=true:=by kernel_rfl
noncomputable def Y48.J (Q:AV→aA→Prop):JT:=bJ prog C Tryz.f73 Y48.ann Y48.body Q
def Y48.p0 (Q:AV→aA→Prop) (x2:Bool) (h:aA):Prop:=Y48.J Q 1 [(2,(AV.b x2))] h
def Y48.t0 (Q:AV→aA→Prop) (x2:Bool) (h:aA) (J:JT):Prop:=
Q (AV.b x2) h
theorem Y48.i0 {Q x2 h} (H:Y48.t0 Q x2 h (Y48.J Q)):Y48.p0 Q x2 h:=gR Y48.J Tryz.f73 Y48.dist [1,1] H
def Y48.t (Q:AV→aA→Prop) (x0:Int) (h:aA) (J:JT):Prop:=
(bif (decide ((1:Int)≤x0)) then
(J 1 [(2,(AV.b (decide ((x0:Int)≤7))))] h)
else
(J 1 [(2,(AV.b false))] h))
theorem Y48.call {K x0 h} (H:Y48.t (aH h K) x0 h (Y48.J (aH h K))):C Y48.id [(AV.i .i64 x0)] h K:=
 gC Y48.J Tryz.func73 Y48.dist H
noncomputable def Y33.body:Code:=(Tryz.f74.body).getD .skip
def Y33.ann:Ann:=(sl [0,1,2] (sq [0,1,2] (.one (.seq 1 [0,1,2,9] lf (.br (sl [6,7] lf) (.seq 2 [0,1,2,17] lf (.br (sl [6,7] lf) lf))))) (sl [1,2,8] (sl [6,7] lf))))
theorem Y33.dist:aL (places Y33.ann Y33.body)=true:=by kernel_rfl
noncomputable def Y33.J (Q:AV→aA→Prop):JT:=bJ prog C Tryz.f74 Y33.ann Y33.body Q
def Y33.p1 (Q:AV→aA→Prop) (x0:List UInt8) (x1 x2:Int) (x17:Bool) (h:aA):Prop:=Y33.J Q 2 [(0,(AV.s x0)),(1,(AV.i .i64 x1)),(2,(AV.i .i64 x2)),(17,(AV.b x17))] h
def Y33.p0 (Q:AV→aA→Prop) (x0:List UInt8) (x1 x2:Int) (x9:Bool) (h:aA):Prop:=Y33.J Q 1 [(0,(AV.s x0)),(1,(AV.i .i64 x1)),(2,(AV.i .i64 x2)),(9,(AV.b x9))] h
def Y33.t1 (Q:AV→aA→Prop) (x0:List UInt8) (x1 x2:Int) (x17:Bool) (h:aA) (J:JT):Prop:=
(bif x17 then
(Q (AV.tu [(AV.sl none 0 none),(AV.i .i64 1)]) h)
else
(gX (AV.s x0) h fun v12 h13=>
aM (IntKind.wrap .i64 (x1+x2)) fun n15=>
aM (IntKind.wrap .i64 (x1+x2)) fun n16=>
bW 1 v12 (some (AV.i .i64 x1)) (some (AV.i .i64 n15)) (some (AV.i .i64 n16)) h13 fun v17=>
Q (AV.tu [v17,(AV.i .i64 0)]) h13))
theorem Y33.i1 {Q x0 x1 x2 x17 h} (H:Y33.t1 Q x0 x1 x2 x17 h (Y33.J Q)):Y33.p1 Q x0 x1 x2 x17 h:=gR Y33.J Tryz.f74 Y33.dist [1,0,0,1,1,1] H
def Y33.t0 (Q:AV→aA→Prop) (x0:List UInt8) (x1 x2:Int) (x9:Bool) (h:aA) (J:JT):Prop:=
(bif x9 then
(Q (AV.tu [(AV.sl none 0 none),(AV.i .i64 4)]) h)
else
((bif (decide (((x0.length:Int):Int)<x1)) then
(J 2 [(0,(AV.s x0)),(1,(AV.i .i64 x1)),(2,(AV.i .i64 x2)),(17,(AV.b true))] h)
else
(aM (IntKind.wrap .i64 ((x0.length:Int) - x1)) fun n8=>
J 2 [(0,(AV.s x0)),(1,(AV.i .i64 x1)),(2,(AV.i .i64 x2)),(17,(AV.b (decide ((n8:Int)<x2))))] h))))
theorem Y33.i0 {Q x0 x1 x2 x9 h} (H:Y33.t0 Q x0 x1 x2 x9 h (Y33.J Q)):Y33.p0 Q x0 x1 x2 x9 h:=gR Y33.J Tryz.f74 Y33.dist [1,0,0,1] H
def Y33.t (Q:AV→aA→Prop) (x0:List UInt8) (x1 x2:Int) (h:aA) (J:JT):Prop:=
C Y48.id [(AV.i .i64 x2)] h fun v1 h2=>
asB v1 fun c3=>
(bif (!c3) then
(J 1 [(0,(AV.s x0)),(1,(AV.i .i64 x1)),(2,(AV.i .i64 x2)),(9,(AV.b true))] h2)
else
(J 1 [(0,(AV.s x0)),(1,(AV.i .i64 x1)),(2,(AV.i .i64 x2)),(9,(AV.b (decide ((x1:Int)<0))))] h2))
theorem Y33.call {K x0 x1 x2 h} (H:Y33.t (aH h K) x0 x1 x2 h (Y33.J (aH h K))):C Y33.id [(AV.s x0),(AV.i .i64 x1),(AV.i .i64 x2)] h K:=
 gC Y33.J Tryz.func74 Y33.dist H
noncomputable def Y42.body:Code:=(Tryz.f75.body).getD .skip
def Y42.ann:Ann:=(sl [0] (sl [0,3] (sq [3] (sl [3,6,7,8] (.one (.loop 1 [3,6,7,8] (sl [3,6,7,8,9] (sq [3,6,7,8] bl (sq [3,6,7,8] (.one (sl [3,5,6,7,8] lf)) lf)))))) (sl [2] lf))))
theorem Y42.dist:aL (places Y42.ann Y42.body)=true:=by kernel_rfl
noncomputable def Y42.J (Q:AV→aA→Prop):JT:=bJ prog C Tryz.f75 Y42.ann Y42.body Q
def Y42.p0 (Q:AV→aA→Prop) (x3:Int) (x6:AV) (x7 x8:Int) (h:aA):Prop:=Y42.J Q 1 [(3,(AV.i .i64 x3)),(6,x6),(7,(AV.i .i64 x7)),(8,(AV.i .i64 x8))] h
def Y42.t0 (Q:AV→aA→Prop) (x3:Int) (x6:AV) (x7 x8:Int) (h:aA) (J:JT):Prop:=
(bif (decide ((x8:Int)<x7)) then
(aU 1 x6 (AV.i .i64 x8) h fun v7=>
aD v7 h fun v8=>
asI .u8 v8 fun n9=>
mU .i64 x3 8 fun n11=>
aM (bA .or .i64 n11 (IntKind.wrap .i64 n9)) fun n12=>
aM (IntKind.wrap .i64 (x8+1)) fun n14=>
J 1 [(3,(AV.i .i64 n12)),(6,x6),(7,(AV.i .i64 x7)),(8,(AV.i .i64 n14))] h)
else
(Q (AV.i .i64 x3) h))
theorem Y42.i0 {Q x3 x6 x7 x8 h} (H:Y42.t0 Q x3 x6 x7 x8 h (Y42.J Q)):Y42.p0 Q x3 x6 x7 x8 h:=gH Y42.J Tryz.f75 Y42.dist [1,1,0,1,0] H
def Y42.t (Q:AV→aA→Prop) (x0:AV) (h:aA) (J:JT):Prop:=
bR x0 fun n2=>
J 1 [(3,(AV.i .i64 0)),(6,x0),(7,(AV.i .i64 n2)),(8,(AV.i .i64 0))] h
theorem Y42.call {K x0 h} (H:Y42.t (aH h K) x0 h (Y42.J (aH h K))):C Y42.id [x0] h K:=
 gC Y42.J Tryz.func75 Y42.dist H
noncomputable def Y10.body:Code:=(Tryz.f76.body).getD .skip
def Y10.ann:Ann:=(sl [0,3] (sq [7] (.ord (nn 0 3 (nn 4 2 (.eff 3 (.eff 6 (.neu 7 (.eff 8 (.neu 9 .done) .stop)) .stop) .stop)))) (sl [7,8] (.seq 3 [7] (.one (.loop 1 [7,8] (sq [7] (.seq 2 [7,27] lf bl) (.one (sl [7,8] (sl [7,8,9] (sq [7,8,9] (sl [7,8,9,33] bl) (sl [7,8,34] (.one (sl [7,8,34,37] (.br lf (sl [7,8,34,41] (.br lf (sl [7,8,47] (.br (sl [7,8,10,11] (sl [7,8,10,11,56] bl)) lf))))))))))))))) (sq [7] (sl [7,64] (.br (sl [4,5,6] lf) lf)) (sq [4,5,6] (.ord (nn 0 18 .done)) lf))))))
theorem Y10.dist:aL (places Y10.ann Y10.body)=true:=by kernel_rfl
noncomputable def Y10.J (Q:AV→aA→Prop):JT:=bJ prog C Tryz.f76 Y10.ann Y10.body Q
def Y10.p1 (Q:AV→aA→Prop) (x7:AV) (x27:Bool) (h:aA):Prop:=Y10.J Q 2 [(7,x7),(27,(AV.b x27))] h
def Y10.p0 (Q:AV→aA→Prop) (x7:AV) (x8:Int) (h:aA):Prop:=Y10.J Q 1 [(7,x7),(8,(AV.i .i64 x8))] h
def Y10.p2 (Q:AV→aA→Prop) (x7:AV) (h:aA):Prop:=Y10.J Q 3 [(7,x7)] h
def Y10.t1 (Q:AV→aA→Prop) (x7:AV) (x27:Bool) (h:aA) (J:JT):Prop:=
(bif x27 then
(C Y27.id [x7] h fun v28 h29=>
asI .i64 v28 fun n30=>
C Y14.id [x7,(AV.i .i64 2)] h29 fun v32 h33=>
asI .i64 v32 fun n34=>
C Y24.id [x7] h33 fun v36 h37=>
asB v36 fun c38=>
(bif c38 then
(J 3 [(7,x7)] h37)
else
((bif (decide ((n34:Int)=0)) then
(C Y6.id [x7] h37 fun v44 h45=>
J 1 [(7,x7),(8,(AV.i .i64 n30))] h45)
else
((bif (decide ((n34:Int)=1)) then
(C Y84.id [] h37 fun v48 h49=>
C Y32.id [(AV.sl none 0 none),(AV.i .i64 32),(AV.i .i64 5)] h49 fun v50 h51=>
C Y2.id [x7,v48,v50] h51 fun v52 h53=>
J 1 [(7,x7),(8,(AV.i .i64 n30))] h53)
else
((bif (decide ((n34:Int)=2)) then
(C Y0.id [x7] h37 fun v56 h57=>
aO 0 v56 fun v58=>
aO 1 v56 fun v59=>
C Y24.id [x7] h57 fun v61 h62=>
asB v61 fun c63=>
(bif (!c63) then
(C Y2.id [x7,v58,v59] h62 fun v65 h66=>
J 1 [(7,x7),(8,(AV.i .i64 n30))] h66)
else
(J 1 [(7,x7),(8,(AV.i .i64 n30))] h62)))
else
(C Y50.id [x7] h37 fun v69 h70=>
J 1 [(7,x7),(8,(AV.i .i64 n30))] h70)))))))))
else
(J 3 [(7,x7)] h))
theorem Y10.i1 {Q x7 x27 h} (H:Y10.t1 Q x7 x27 h (Y10.J Q)):Y10.p1 Q x7 x27 h:=gR Y10.J Tryz.f76 Y10.dist [1,1,1,0,0,0,0,1] H
def Y10.t0 (Q:AV→aA→Prop) (x7:AV) (x8:Int) (h:aA) (J:JT):Prop:=
(bif (decide ((x8:Int)=0)) then
(C Y24.id [x7] h fun v21 h22=>
asB v21 fun c23=>
J 2 [(7,x7),(27,(AV.b (!c23)))] h22)
else
(J 2 [(7,x7),(27,(AV.b false))] h))
theorem Y10.i0 {Q x7 x8 h} (H:Y10.t0 Q x7 x8 h (Y10.J Q)):Y10.p0 Q x7 x8 h:=gH Y10.J Tryz.f76 Y10.dist [1,1,1,0,0] H
def Y10.t2 (Q:AV→aA→Prop) (x7:AV) (h:aA) (J:JT):Prop:=
aK x7 fun v72=>
aB 5 v72 fun v73=>
aD v73 h fun v74=>
asB v74 fun c75=>
(bif c75 then
(aK x7 fun v77=>
aB 2 v77 fun v78=>
aD v78 h fun v79=>
cJ v79 h fun l80=>
Q (AV.tu [(AV.s l80),(AV.i .i64 1),(AV.i .i64 0)]) h)
else
(aK x7 fun v83=>
aB 2 v83 fun v84=>
aD v84 h fun v85=>
cJ v85 h fun l86=>
aK x7 fun v87=>
aB 6 v87 fun v88=>
aD v88 h fun v89=>
asI .i64 v89 fun n90=>
aK x7 fun v91=>
aB 1 v91 fun v92=>
aD v92 h fun v93=>
asI .i64 v93 fun n94=>
aM (IntKind.wrap .i64 (n94+7)) fun n95=>
aD2 .i64 n95 8 fun n96=>
Q (AV.tu [(AV.s l86),(AV.i .i64 n90),(AV.i .i64 n96)]) h))
theorem Y10.i2 {Q x7 h} (H:Y10.t2 Q x7 h (Y10.J Q)):Y10.p2 Q x7 h:=gR Y10.J Tryz.f76 Y10.dist [1,1,1,1] H
def Y10.t (Q:AV→aA→Prop) (x0:List UInt8) (x1:AV) (h:aA) (J:JT):Prop:=
dS (some 23) x1 h fun v0 h1=>
aB 0 v0 fun v3=>
aD v3 h1 fun v4=>
asI .i64 v4 fun n5=>
aB 1 v0 fun v6=>
aD v6 h1 fun v7=>
asI .i64 v7 fun n8=>
C Y66.id [(AV.i .i64 n5),(AV.i .i64 0),(AV.i .i64 65536)] h1 fun v9 h10=>
asI .i64 v9 fun n11=>
aD v6 h10 fun v12=>
asI .i64 v12 fun n13=>
((AV.i .i64 n8)=(AV.i .i64 n13) ∧
(C Y66.id [(AV.i .i64 n8),(AV.i .i64 1),(AV.i .i64 1100)] h10 fun v14 h15=>
asI .i64 v14 fun n16=>
dS (some 163) (AV.ag [(AV.s x0),(AV.i .i64 0),(AV.sl none 0 none),(AV.i .i64 n11),(AV.i .i64 n16),(AV.b false),(AV.i .i64 0)]) h15 fun v17 h18=>
J 1 [(7,v17),(8,(AV.i .i64 0))] h18))
theorem Y10.call {K x0 x1 h} (H:Y10.t (aH h K) x0 x1 h (Y10.J (aH h K))):C Y10.id [(AV.s x0),x1] h K:=
 gC Y10.J Tryz.func76 Y10.dist H
noncomputable def Y20.body:Code:=(Tryz.f77.body).getD .skip
def Y20.ann:Ann:=(sl [0] (sq [0] (sl [0,20] (.br (sl [2,3,4] lf) lf)) (sq [0] (sl [0,23] (.br (sl [2,3,4] lf) lf)) (sl [0,5] (sl [0,5,6] (.seq 1 [0,5,6] (sl [0,5,6,28] (.br (sq [0,5] (sl [0,5,31] (.br (sl [2,3,4] lf) lf)) (sl [0,5,7] (sl [0,5,6] (sl [0,5,6,42] (.br (sl [2,3,4] lf) lf))))) lf)) (sl [0,5,6,9] (.seq 2 [0,5,6,9] (sl [0,5,6,9,45] (.br (sl [0,5,10,11,12] (sq [0,5,10,11,12] (sl [0,5,10,11,12,55] (.br (sl [2,3,4] lf) lf)) (sq [0,5,10,11] (sl [0,5,10,11,57] (.br (sl [2,3,4] lf) lf)) (sl [0,5,9,11] lf)))) lf)) (.seq 3 [0,5,6,9] (sl [0,5,6,9,62] (.br (sl [0,5,9,14,15] (sq [0,5,9,14] (sl [0,5,9,14,71] (.br (sl [2,3,4] lf) lf)) lf)) lf)) (sq [0,6,9] (sl [0,6,9,75] (.br (sl [2,3,4] lf) lf)) (sq [0,6,9] (sl [0,6,9,85] (.br (sl [2,3,4] lf) lf)) (sl [0,6,9,16] (sq [9] (sl [9,99] (.br (sl [2,3,4] lf) lf)) (sl [2,3,4] lf))))))))))))))
theorem Y20.dist:aL (places Y20.ann Y20.body)=true:=by kernel_rfl
noncomputable def Y20.J (Q:AV→aA→Prop):JT:=bJ prog C Tryz.f77 Y20.ann Y20.body Q
def Y20.p2 (Q:AV→aA→Prop) (x0:List UInt8) (x5 x6:Int) (x9:List UInt8) (h:aA):Prop:=Y20.J Q 3 [(0,(AV.s x0)),(5,(AV.i .u8 x5)),(6,(AV.i .i64 x6)),(9,(AV.s x9))] h
def Y20.p1 (Q:AV→aA→Prop) (x0:List UInt8) (x5 x6:Int) (x9:List UInt8) (h:aA):Prop:=Y20.J Q 2 [(0,(AV.s x0)),(5,(AV.i .u8 x5)),(6,(AV.i .i64 x6)),(9,(AV.s x9))] h
def Y20.p0 (Q:AV→aA→Prop) (x0:List UInt8) (x5 x6:Int) (h:aA):Prop:=Y20.J Q 1 [(0,(AV.s x0)),(5,(AV.i .u8 x5)),(6,(AV.i .i64 x6))] h
def Y20.t2 (Q:AV→aA→Prop) (x0:List UInt8) (x5 x6:Int) (x9:List UInt8) (h:aA) (J:JT):Prop:=
(bif (decide (((bA .and .u8 x5 2):Int)=0)) then
(Q (AV.tu [(AV.s x9),(AV.b (decide (((x0.length:Int):Int)=x6))),(AV.i .i64 0)]) h)
else
(aM (IntKind.wrap .i64 (x6+2)) fun n68=>
(bif (decide (((x0.length:Int):Int)<n68)) then
(Q (AV.tu [(AV.s []),(AV.b false),(AV.i .i64 0)]) h)
else
(C Y54.id [(AV.s x0),(AV.i .i64 x6),(AV.i .i64 2)] h fun v72 h73=>
aO 0 v72 fun v74=>
asI .i64 v74 fun n75=>
aO 1 v72 fun v76=>
asI .i64 v76 fun n77=>
bV (AV.s x0) none (some (AV.i .i64 x6)) fun l79=>
C Y78.id [(AV.s l79)] h73 fun v80 h81=>
asI .u32 v80 fun n82=>
aDF n82 65536 fun n83=>
(bif (!decide ((n75:Int)=(IntKind.wrap .i64 n83))) then
(Q (AV.tu [(AV.s []),(AV.b false),(AV.i .i64 8)]) h81)
else
(Q (AV.tu [(AV.s x9),(AV.b true),(AV.i .i64 0)]) h81))))))
theorem Y20.i2 {Q x0 x5 x6 x9 h} (H:Y20.t2 Q x0 x5 x6 x9 h (Y20.J Q)):Y20.p2 Q x0 x5 x6 x9 h:=gR Y20.J Tryz.f77 Y20.dist [1,1,1,1,1,1,1,1,1] H
def Y20.t1 (Q:AV→aA→Prop) (x0:List UInt8) (x5 x6:Int) (x9:List UInt8) (h:aA) (J:JT):Prop:=
(bif (!decide (((bA .and .u8 x5 16):Int)=0)) then
(C Y38.id [(AV.s x0),(AV.i .i64 x6)] h fun v51 h52=>
aO 0 v51 fun v53=>
asS v53 fun l54=>
aO 1 v51 fun v55=>
asI .i64 v55 fun n56=>
aO 2 v51 fun v57=>
asB v57 fun c58=>
(bif (!c58) then
(Q (AV.tu [(AV.s []),(AV.b false),(AV.i .i64 0)]) h52)
else
(J 3 [(0,(AV.s x0)),(5,(AV.i .u8 x5)),(6,(AV.i .i64 n56)),(9,(AV.s x9))] h52)))
else
(J 3 [(0,(AV.s x0)),(5,(AV.i .u8 x5)),(6,(AV.i .i64 x6)),(9,(AV.s x9))] h))
theorem Y20.i1 {Q x0 x5 x6 x9 h} (H:Y20.t1 Q x0 x5 x6 x9 h (Y20.J Q)):Y20.p1 Q x0 x5 x6 x9 h:=gR Y20.J Tryz.f77 Y20.dist [1,1,1,1,1,1,1,1] H
def Y20.t0 (Q:AV→aA→Prop) (x0:List UInt8) (x5 x6:Int) (h:aA) (J:JT):Prop:=
(bif (!decide (((bA .and .u8 x5 8):Int)=0)) then
(C Y38.id [(AV.s x0),(AV.i .i64 x6)] h fun v32 h33=>
aO 0 v32 fun v34=>
asS v34 fun l35=>
aO 1 v32 fun v36=>
asI .i64 v36 fun n37=>
aO 2 v32 fun v38=>
asB v38 fun c39=>
(bif (decide ((256:Int)<(l35.length:Int))) then
(Q (AV.tu [(AV.s []),(AV.b false),(AV.i .i64 3)]) h33)
else
((bif (!c39) then
(Q (AV.tu [(AV.s []),(AV.b false),(AV.i .i64 0)]) h33)
else
(J 2 [(0,(AV.s x0)),(5,(AV.i .u8 x5)),(6,(AV.i .i64 n37)),(9,(AV.s l35))] h33)))))
else
(J 2 [(0,(AV.s x0)),(5,(AV.i .u8 x5)),(6,(AV.i .i64 x6)),(9,(AV.s []))] h))
theorem Y20.i0 {Q x0 x5 x6 h} (H:Y20.t0 Q x0 x5 x6 h (Y20.J Q)):Y20.p0 Q x0 x5 x6 h:=gR Y20.J Tryz.f77 Y20.dist [1,1,1,1,1,1] H
def Y20.t (Q:AV→aA→Prop) (x0:List UInt8) (h:aA) (J:JT):Prop:=
C Y13.id [(AV.s x0)] h fun v1 h2=>
asB v1 fun c3=>
(bif (!c3) then
(Q (AV.tu [(AV.s []),(AV.b false),(AV.i .i64 2)]) h2)
else
((bif (decide (((x0.length:Int):Int)<10)) then
(Q (AV.tu [(AV.s []),(AV.b false),(AV.i .i64 0)]) h2)
else
(cK (AV.s x0) (AV.i .i64 3) fun n10=>
(bif (!decide (((bA .and .u8 n10 4):Int)=0)) then
((bif (decide (((x0.length:Int):Int)<12)) then
(Q (AV.tu [(AV.s []),(AV.b false),(AV.i .i64 0)]) h2)
else
(C Y54.id [(AV.s x0),(AV.i .i64 10),(AV.i .i64 2)] h2 fun v17 h18=>
aO 0 v17 fun v19=>
asI .i64 v19 fun n20=>
aO 1 v17 fun v21=>
asI .i64 v21 fun n22=>
aM (IntKind.wrap .i64 (12+n20)) fun n24=>
(bif (decide (((x0.length:Int):Int)<n24)) then
(Q (AV.tu [(AV.s []),(AV.b false),(AV.i .i64 0)]) h18)
else
(J 1 [(0,(AV.s x0)),(5,(AV.i .u8 n10)),(6,(AV.i .i64 n24))] h18)))))
else
(J 1 [(0,(AV.s x0)),(5,(AV.i .u8 n10)),(6,(AV.i .i64 10))] h2))))))
theorem Y20.call {K x0 h} (H:Y20.t (aH h K) x0 h (Y20.J (aH h K))):C Y20.id [(AV.s x0)] h K:=
 gC Y20.J Tryz.func77 Y20.dist H
noncomputable def Y99.body:Code:=(Tryz.f78.body).getD .skip
def Y99.ann:Ann:=(sl [1] (sl [2] lf))
theorem Y99.dist:aL (places Y99.ann Y99.body)=true:=by kernel_rfl
noncomputable def Y99.J (Q:AV→aA→Prop):JT:=bJ prog C Tryz.f78 Y99.ann Y99.body Q
def Y99.t (Q:AV→aA→Prop) (x0:AV) (h:aA) (J:JT):Prop:=
dS (some 23) x0 h fun v0 h1=>
dC 2 v0 h1 fun v3=>
f9 [(AV.i .i64 0),(AV.i .i64 0),(AV.s []),(AV.i .i64 0),(AV.b false),(AV.b false),(AV.s [])] [(0,2,v3)] fun v4=>
dS (some 130) v4 h1 fun v5 h6=>
Q v5 h6
theorem Y99.call {K x0 h} (H:Y99.t (aH h K) x0 h (Y99.J (aH h K))):C Y99.id [x0] h K:=
 gC Y99.J Tryz.func78 Y99.dist H
noncomputable def Y54.body:Code:=(Tryz.f79.body).getD .skip
def Y54.ann:Ann:=(sl [0,1,2] (sl [0,1,2,9] (sq [0,1,2] (sl [0,1,2,9,18] (.br (sl [6,7] lf) lf)) (sl [6,7] lf))))
theorem Y54.dist:aL (places Y54.ann Y54.body)=true:=by kernel_rfl
noncomputable def Y54.J (Q:AV→aA→Prop):JT:=bJ prog C Tryz.f79 Y54.ann Y54.body Q
def Y54.t (Q:AV→aA→Prop) (x0:List UInt8) (x1 x2:Int) (h:aA) (J:JT):Prop:=
C Y35.id [(AV.s x0),(AV.i .i64 x1),(AV.i .i64 x2)] h fun v1 h2=>
aO 0 v1 fun v3=>
asI .i64 v3 fun n4=>
aO 1 v1 fun v5=>
asI .i64 v5 fun n6=>
(bif (!decide ((n6:Int)=0)) then
(Q (AV.tu [(AV.i .i64 0),(AV.i .i64 n6)]) h2)
else
(aM (IntKind.wrap .i64 (x1+x2)) fun n11=>
bV (AV.s x0) (some (AV.i .i64 x1)) (some (AV.i .i64 n11)) fun l12=>
C Y45.id [(AV.s l12)] h2 fun v13 h14=>
asS v13 fun l15=>
C Y41.id [(AV.s l15)] h14 fun v16 h17=>
asI .i64 v16 fun n18=>
Q (AV.tu [(AV.i .i64 n18),(AV.i .i64 0)]) h17))
theorem Y54.call {K x0 x1 x2 h} (H:Y54.t (aH h K) x0 x1 x2 h (Y54.J (aH h K))):C Y54.id [(AV.s x0),(AV.i .i64 x1),(AV.i .i64 x2)] h K:=
 gC Y54.J Tryz.func79 Y54.dist H
end Go.Proofs.YtfoekpcljhbijaaGreatDoor
