/- Lemmas (several texts in one). -/
import Derived.Test.YtcdkpkkdolmfdaaGreatDoorMg3
set_option linter.unusedVariables false
set_option linter.unusedSectionVars false
set_option maxRecDepth 100000
namespace Go.Proofs.YtcdkpkkdolmfdaaGreatDoor
open Go.GAM
variable [XR]
noncomputable def Y0.body:Code:=(Tryz.f57.body).getD .skip
def Y0.ann:Ann:=(sl [0,1,4] (sl [0,4,16,17,18] (.one (.loop 1 [0,4,16,17,18] (sl [0,4,16,17,18,19] (sq [0,4,16,17,18] bl (.seq 11 [0,4,16,17,18] (.one (sl [0,4,6,16,17,18] (sl [0,4,6,7,16,17,18] (sq [0,4,6,7,16,17,18] (.seq 2 [0,4,6,7,16,17,18,38] lf bl) (sl [0,4,6,7,8,9,16,17,18] (.seq 3 [0,4,6,7,8,9,10,16,17,18] (.ord (nn 0 8 (.eff 8 (nn 9 11 .done) .stop))) (sq [0,4,6,7,8,16,17,18] (.seq 4 [0,4,6,7,8,16,17,18,82] (.ord (nn 0 13 (.eff 13 (.neu 14 (.eff 15 (.neu 16 .done) .stop)) .stop))) bl) (sq [0,4,6,7,8,16,17,18] (.seq 5 [0,4,6,7,8,16,17,18,93] lf bl) (sl [0,4,6,7,8,16,17,18] (sl [0,4,8,11,12,16,17,18] (sq [0,4,8,11,16,17,18] (.seq 6 [0,4,8,11,16,17,18,116] lf bl) (sq [0,4,11,16,17,18] (sl [0,4,11,16,17,18,118] (.br (.seq 7 [0,4,16,17,18] (.ord (nn 0 11 (.eff 11 (nn 12 21 (.eff 33 .done .stop)) .stop))) lf) lf)) (sl [0,4,16,17,18,153,154,155] (.one (.loop 8 [0,4,16,17,18,153,154,155] (sl [0,4,16,17,18,153,154,155,156] (sq [0,4,16,17,18,153,154,155] bl (.seq 10 [0,4,16,17,18,153,154,155] (.one (sl [0,4,14,16,17,18,153,154,155] (.seq 9 [0,4,14,16,17,18,153,154,155,170] lf (.br (.ord (nn 0 8 (.eff 8 (.eff 9 (.eff 10 (nn 11 3 (.eff 14 .done .stop)) .stop) .stop) .stop))) lf)))) lf)))))))))))))))))) lf)))))))
theorem Y0.dist:aT (places Y0.ann Y0.body)=true:=by kernel_rfl
noncomputable def Y0.J (Q:AV→aA→Prop):JT:=b4 prog C Tryz.f57 Y0.ann Y0.body Q
def Y0.p1 (Q:AV→aA→Prop) (x0 x4 x6:AV) (x7:Int) (x16:AV) (x17 x18:Int) (x38:Bool) (h:aA):Prop:=Y0.J Q 2 [(0,x0),(4,x4),(6,x6),(7,(AV.i .i64 x7)),(16,x16),(17,(AV.i .i64 x17)),(18,(AV.i .i64 x18)),(38,(AV.b x38))] h
def Y0.p3 (Q:AV→aA→Prop) (x0 x4 x6:AV) (x7:Int) (x8:List UInt8) (x16:AV) (x17 x18:Int) (x82:Bool) (h:aA):Prop:=Y0.J Q 4 [(0,x0),(4,x4),(6,x6),(7,(AV.i .i64 x7)),(8,(AV.s x8)),(16,x16),(17,(AV.i .i64 x17)),(18,(AV.i .i64 x18)),(82,(AV.b x82))] h
def Y0.p4 (Q:AV→aA→Prop) (x0 x4 x6:AV) (x7:Int) (x8:List UInt8) (x16:AV) (x17 x18:Int) (x93:Bool) (h:aA):Prop:=Y0.J Q 5 [(0,x0),(4,x4),(6,x6),(7,(AV.i .i64 x7)),(8,(AV.s x8)),(16,x16),(17,(AV.i .i64 x17)),(18,(AV.i .i64 x18)),(93,(AV.b x93))] h
def Y0.p5 (Q:AV→aA→Prop) (x0 x4:AV) (x8:List UInt8) (x11 x16:AV) (x17 x18:Int) (x116:Bool) (h:aA):Prop:=Y0.J Q 6 [(0,x0),(4,x4),(8,(AV.s x8)),(11,x11),(16,x16),(17,(AV.i .i64 x17)),(18,(AV.i .i64 x18)),(116,(AV.b x116))] h
def Y0.p6 (Q:AV→aA→Prop) (x0 x4 x16:AV) (x17 x18:Int) (h:aA):Prop:=Y0.J Q 7 [(0,x0),(4,x4),(16,x16),(17,(AV.i .i64 x17)),(18,(AV.i .i64 x18))] h
def Y0.p8 (Q:AV→aA→Prop) (x0 x4 x14 x16:AV) (x17 x18:Int) (x153:AV) (x154 x155:Int) (x170:Bool) (h:aA):Prop:=Y0.J Q 9 [(0,x0),(4,x4),(14,x14),(16,x16),(17,(AV.i .i64 x17)),(18,(AV.i .i64 x18)),(153,x153),(154,(AV.i .i64 x154)),(155,(AV.i .i64 x155)),(170,(AV.b x170))] h
def Y0.p9 (Q:AV→aA→Prop) (x0 x4 x16:AV) (x17 x18:Int) (x153:AV) (x154 x155:Int) (h:aA):Prop:=Y0.J Q 10 [(0,x0),(4,x4),(16,x16),(17,(AV.i .i64 x17)),(18,(AV.i .i64 x18)),(153,x153),(154,(AV.i .i64 x154)),(155,(AV.i .i64 x155))] h
def Y0.p7 (Q:AV→aA→Prop) (x0 x4 x16:AV) (x17 x18:Int) (x153:AV) (x154 x155:Int) (h:aA):Prop:=Y0.J Q 8 [(0,x0),(4,x4),(16,x16),(17,(AV.i .i64 x17)),(18,(AV.i .i64 x18)),(153,x153),(154,(AV.i .i64 x154)),(155,(AV.i .i64 x155))] h
def Y0.p2 (Q:AV→aA→Prop) (x0 x4 x6:AV) (x7:Int) (x8:List UInt8) (x9 x10:Bool) (x16:AV) (x17 x18:Int) (h:aA):Prop:=Y0.J Q 3 [(0,x0),(4,x4),(6,x6),(7,(AV.i .i64 x7)),(8,(AV.s x8)),(9,(AV.b x9)),(10,(AV.b x10)),(16,x16),(17,(AV.i .i64 x17)),(18,(AV.i .i64 x18))] h
def Y0.p10 (Q:AV→aA→Prop) (x0 x4 x16:AV) (x17 x18:Int) (h:aA):Prop:=Y0.J Q 11 [(0,x0),(4,x4),(16,x16),(17,(AV.i .i64 x17)),(18,(AV.i .i64 x18))] h
def Y0.p0 (Q:AV→aA→Prop) (x0 x4 x16:AV) (x17 x18:Int) (h:aA):Prop:=Y0.J Q 1 [(0,x0),(4,x4),(16,x16),(17,(AV.i .i64 x17)),(18,(AV.i .i64 x18))] h
def Y0.t1 (Q:AV→aA→Prop) (x0 x4 x6:AV) (x7:Int) (x16:AV) (x17 x18:Int) (x38:Bool) (h:aA) (J:JT):Prop:=
(bif x38 then
(Q (AV.tu []) h)
else
(aD 4 x6 fun v35=>
aC v35 h fun v36=>
aE 5 v36 (AV.i .i64 0) h fun v37=>
aB 5 v37 h fun v38=>
C Y7.id [v38] h fun v39 h40=>
aH 0 v39 fun v41=>
asS v41 fun l42=>
aH 1 v39 fun v43=>
asB v43 fun c44=>
(bif (decide ((x7:Int)=2)) then
(J 3 [(0,x0),(4,x4),(6,x6),(7,(AV.i .i64 x7)),(8,(AV.s l42)),(9,(AV.b c44)),(10,(AV.b true)),(16,x16),(17,(AV.i .i64 x17)),(18,(AV.i .i64 x18))] h40)
else
(aB 3 (bG h40 5) h40 fun v47=>
aD 4 x6 fun v48=>
aC v48 h40 fun v49=>
aE 5 v49 (AV.i .i64 1) h40 fun v50=>
aB 5 v50 h40 fun v51=>
C Y59.id [v47,v51] h40 fun v52 h53=>
asB v52 fun c54=>
aE 5 v49 (AV.i .i64 1) h53 fun v55=>
(v50=v55 ∧
(aC v48 h53 fun v56=>
(v49=v56 ∧
((bif c54 then
(aD 4 x6 fun v57=>
aC v57 h53 fun v58=>
aE 5 v58 (AV.i .i64 1) h53 fun v59=>
aD 3 v59 fun v60=>
aC v60 h53 fun v61=>
asS v61 fun l62=>
J 3 [(0,x0),(4,x4),(6,x6),(7,(AV.i .i64 x7)),(8,(AV.s l42)),(9,(AV.b c44)),(10,(AV.b (decide (((l62.length:Int):Int)=1)))),(16,x16),(17,(AV.i .i64 x17)),(18,(AV.i .i64 x18))] h53)
else
(J 3 [(0,x0),(4,x4),(6,x6),(7,(AV.i .i64 x7)),(8,(AV.s l42)),(9,(AV.b c44)),(10,(AV.b false)),(16,x16),(17,(AV.i .i64 x17)),(18,(AV.i .i64 x18))] h53))))))))))
theorem Y0.i1 {Q x0 x4 x6 x7 x16 x17 x18 x38 h} (H:Y0.t1 Q x0 x4 x6 x7 x16 x17 x18 x38 h (Y0.J Q)):Y0.p1 Q x0 x4 x6 x7 x16 x17 x18 x38 h:=gR Y0.J Tryz.f57 Y0.dist [1,1,0,0,1,1,0,0,1,1,0,1] H
def Y0.t3 (Q:AV→aA→Prop) (x0 x4 x6:AV) (x7:Int) (x8:List UInt8) (x16:AV) (x17 x18:Int) (x82:Bool) (h:aA) (J:JT):Prop:=
(bif x82 then
(Q (AV.tu []) h)
else
(kE prog 9 4 false x4 (AV.s x8) h fun v93=>
asB v93 fun c94=>
(bif c94 then
(J 5 [(0,x0),(4,x4),(6,x6),(7,(AV.i .i64 x7)),(8,(AV.s x8)),(16,x16),(17,(AV.i .i64 x17)),(18,(AV.i .i64 x18)),(93,(AV.b true))] h)
else
(aEV (!(decide ((x8:List UInt8)=[50,46,53,46,50,57,46,49,55]))) fun c96=>
(bif c96 then
(aEV (!(decide ((x8:List UInt8)=[50,46,53,46,50,57,46,49,57]))) fun c97=>
J 5 [(0,x0),(4,x4),(6,x6),(7,(AV.i .i64 x7)),(8,(AV.s x8)),(16,x16),(17,(AV.i .i64 x17)),(18,(AV.i .i64 x18)),(93,(AV.b c97))] h)
else
(J 5 [(0,x0),(4,x4),(6,x6),(7,(AV.i .i64 x7)),(8,(AV.s x8)),(16,x16),(17,(AV.i .i64 x17)),(18,(AV.i .i64 x18)),(93,(AV.b false))] h))))))
theorem Y0.i3 {Q x0 x4 x6 x7 x8 x16 x17 x18 x82 h} (H:Y0.t3 Q x0 x4 x6 x7 x8 x16 x17 x18 x82 h (Y0.J Q)):Y0.p3 Q x0 x4 x6 x7 x8 x16 x17 x18 x82 h:=gR Y0.J Tryz.f57 Y0.dist [1,1,0,0,1,1,0,0,1,1,1,1,1,0,1] H
def Y0.t4 (Q:AV→aA→Prop) (x0 x4 x6:AV) (x7:Int) (x8:List UInt8) (x16:AV) (x17 x18:Int) (x93:Bool) (h:aA) (J:JT):Prop:=
(bif x93 then
(J 11 [(0,x0),(4,x4),(16,x16),(17,(AV.i .i64 x17)),(18,(AV.i .i64 x18))] h)
else
(kA prog 9 x4 (AV.s x8) (AV.b true) h fun h102=>
aD 4 x6 fun v104=>
aC v104 h102 fun v105=>
aQ (IntKind.wrap .i64 (x7 - 1)) fun n106=>
aE 5 v105 (AV.i .i64 n106) h102 fun v107=>
aD 3 v107 fun v108=>
aC v108 h102 fun v109=>
asS v109 fun l110=>
C Y34.id [(AV.s l110)] h102 fun v111 h112=>
aH 0 v111 fun v113=>
aH 1 v111 fun v114=>
asI .i64 v114 fun n115=>
bV (some 33) [(AV.i .i64 0),(AV.i .i64 0),(AV.b false),(AV.s []),(AV.sl none 0 none)] h112 fun v116 h117=>
aS 5 v116 v113 h117 fun h118=>
(bif (decide ((n115:Int)=0)) then
(aB 3 (bG h118 0) h118 fun v120=>
aB 5 v116 h118 fun v121=>
C Y59.id [v120,v121] h118 fun v122 h123=>
asB v122 fun c124=>
C Y33.id [x0,(AV.b c124)] h123 fun v125 h126=>
asB v125 fun c127=>
J 6 [(0,x0),(4,x4),(8,(AV.s x8)),(11,v116),(16,x16),(17,(AV.i .i64 x17)),(18,(AV.i .i64 x18)),(116,(AV.b (!c127)))] h126)
else
(C Y33.id [x0,(AV.b false)] h118 fun v129 h130=>
asB v129 fun c131=>
J 6 [(0,x0),(4,x4),(8,(AV.s x8)),(11,v116),(16,x16),(17,(AV.i .i64 x17)),(18,(AV.i .i64 x18)),(116,(AV.b (!c131)))] h130))))
theorem Y0.i4 {Q x0 x4 x6 x7 x8 x16 x17 x18 x93 h} (H:Y0.t4 Q x0 x4 x6 x7 x8 x16 x17 x18 x93 h (Y0.J Q)):Y0.p4 Q x0 x4 x6 x7 x8 x16 x17 x18 x93 h:=gR Y0.J Tryz.f57 Y0.dist [1,1,0,0,1,1,0,0,1,1,1,1,1,1,0,1] H
def Y0.t5 (Q:AV→aA→Prop) (x0 x4:AV) (x8:List UInt8) (x11 x16:AV) (x17 x18:Int) (x116:Bool) (h:aA) (J:JT):Prop:=
(bif x116 then
(Q (AV.tu []) h)
else
(aEV (decide ((x8:List UInt8)=[50,46,53,46,50,57,46,49,57])) fun c134=>
(bif c134 then
(aD 4 x11 fun v136=>
aC v136 h fun v137=>
bP v137 fun n138=>
(bif (decide ((0:Int)<n138)) then
(aB 3 (bG h 5) h fun v139=>
aD 4 x11 fun v140=>
aC v140 h fun v141=>
aE 5 v141 (AV.i .i64 0) h fun v142=>
aB 5 v142 h fun v143=>
C Y59.id [v139,v143] h fun v144 h145=>
asB v144 fun c146=>
aE 5 v141 (AV.i .i64 0) h145 fun v147=>
(v142=v147 ∧
(aC v140 h145 fun v148=>
(v141=v148 ∧
(aC v136 h145 fun v149=>
(v137=v149 ∧
((bif c146 then
(aD 4 x11 fun v150=>
aC v150 h145 fun v151=>
aE 5 v151 (AV.i .i64 0) h145 fun v152=>
aD 3 v152 fun v153=>
aC v153 h145 fun v154=>
asS v154 fun l155=>
(bif (decide (((l155.length:Int):Int)=1)) then
(aD 4 x11 fun v156=>
aC v156 h145 fun v157=>
aE 5 v157 (AV.i .i64 0) h145 fun v158=>
aD 3 v158 fun v159=>
aC v159 h145 fun v160=>
asS v160 fun l161=>
cV x0 fun v162=>
aD 0 v162 fun v163=>
aD 6 v163 fun v164=>
aS 1 v164 (AV.b (!(decide ((l161:List UInt8)=[0])))) h145 fun h165=>
J 7 [(0,x0),(4,x4),(16,x16),(17,(AV.i .i64 x17)),(18,(AV.i .i64 x18))] h165)
else
(cV x0 fun v167=>
aD 0 v167 fun v168=>
aD 6 v168 fun v169=>
aS 1 v169 (AV.b false) h145 fun h170=>
J 7 [(0,x0),(4,x4),(16,x16),(17,(AV.i .i64 x17)),(18,(AV.i .i64 x18))] h170)))
else
(cV x0 fun v172=>
aD 0 v172 fun v173=>
aD 6 v173 fun v174=>
aS 1 v174 (AV.b false) h145 fun h175=>
J 7 [(0,x0),(4,x4),(16,x16),(17,(AV.i .i64 x17)),(18,(AV.i .i64 x18))] h175)))))))))
else
(cV x0 fun v177=>
aD 0 v177 fun v178=>
aD 6 v178 fun v179=>
aS 1 v179 (AV.b false) h fun h180=>
J 7 [(0,x0),(4,x4),(16,x16),(17,(AV.i .i64 x17)),(18,(AV.i .i64 x18))] h180)))
else
(aD 4 x11 fun v184=>
aC v184 h fun v185=>
bP v185 fun n186=>
J 8 [(0,x0),(4,x4),(16,x16),(17,(AV.i .i64 x17)),(18,(AV.i .i64 x18)),(153,v185),(154,(AV.i .i64 n186)),(155,(AV.i .i64 0))] h))))
theorem Y0.i5 {Q x0 x4 x8 x11 x16 x17 x18 x116 h} (H:Y0.t5 Q x0 x4 x8 x11 x16 x17 x18 x116 h (Y0.J Q)):Y0.p5 Q x0 x4 x8 x11 x16 x17 x18 x116 h:=gR Y0.J Tryz.f57 Y0.dist [1,1,0,0,1,1,0,0,1,1,1,1,1,1,1,1,1,0,1] H
def Y0.t6 (Q:AV→aA→Prop) (x0 x4 x16:AV) (x17 x18:Int) (h:aA) (J:JT):Prop:=
J 11 [(0,x0),(4,x4),(16,x16),(17,(AV.i .i64 x17)),(18,(AV.i .i64 x18))] h
theorem Y0.i6 {Q x0 x4 x16 x17 x18 h} (H:Y0.t6 Q x0 x4 x16 x17 x18 h (Y0.J Q)):Y0.p6 Q x0 x4 x16 x17 x18 h:=gR Y0.J Tryz.f57 Y0.dist [1,1,0,0,1,1,0,0,1,1,1,1,1,1,1,1,1,1,0,1,0,1] H
def Y0.t8 (Q:AV→aA→Prop) (x0 x4 x14 x16:AV) (x17 x18:Int) (x153:AV) (x154 x155:Int) (x170:Bool) (h:aA) (J:JT):Prop:=
(bif x170 then
(cV x0 fun v209=>
aD 0 v209 fun v210=>
aD 5 v210 fun v211=>
aC v211 h fun v212=>
aD 3 x14 fun v213=>
aC v213 h fun v214=>
asS v214 fun l215=>
C Y24.id [(AV.s l215)] h fun v216 h217=>
asS v216 fun l218=>
aC v211 h217 fun v219=>
(v212=v219 ∧
(aN 1 1 [(AV.s [])] [(0,1,(AV.s l218))] h217 fun v220 h221=>
aC v213 h221 fun v222=>
asS v222 fun l223=>
((AV.s l215)=(AV.s l223) ∧
(aC v211 h221 fun v224=>
(v212=v224 ∧
(bN none 1 16 v212 v220 h221 fun v225 h226=>
aC v213 h226 fun v227=>
asS v227 fun l228=>
((AV.s l215)=(AV.s l228) ∧
(cV x0 fun v229=>
aD 0 v229 fun v230=>
aD 5 v230 fun v231=>
aS 1 v231 v225 h226 fun h232=>
J 10 [(0,x0),(4,x4),(16,x16),(17,(AV.i .i64 x17)),(18,(AV.i .i64 x18)),(153,x153),(154,(AV.i .i64 x154)),(155,(AV.i .i64 x155))] h232)))))))))
else
(J 10 [(0,x0),(4,x4),(16,x16),(17,(AV.i .i64 x17)),(18,(AV.i .i64 x18)),(153,x153),(154,(AV.i .i64 x154)),(155,(AV.i .i64 x155))] h))
theorem Y0.i8 {Q x0 x4 x14 x16 x17 x18 x153 x154 x155 x170 h} (H:Y0.t8 Q x0 x4 x14 x16 x17 x18 x153 x154 x155 x170 h (Y0.J Q)):Y0.p8 Q x0 x4 x14 x16 x17 x18 x153 x154 x155 x170 h:=gR Y0.J Tryz.f57 Y0.dist [1,1,0,0,1,1,0,0,1,1,1,1,1,1,1,1,1,1,1,1,0,0,1,1,0,0,1,1] H
def Y0.t9 (Q:AV→aA→Prop) (x0 x4 x16:AV) (x17 x18:Int) (x153:AV) (x154 x155:Int) (h:aA) (J:JT):Prop:=
aQ (IntKind.wrap .i64 (x155+1)) fun n235=>
J 8 [(0,x0),(4,x4),(16,x16),(17,(AV.i .i64 x17)),(18,(AV.i .i64 x18)),(153,x153),(154,(AV.i .i64 x154)),(155,(AV.i .i64 n235))] h
theorem Y0.i9 {Q x0 x4 x16 x17 x18 x153 x154 x155 h} (H:Y0.t9 Q x0 x4 x16 x17 x18 x153 x154 x155 h (Y0.J Q)):Y0.p9 Q x0 x4 x16 x17 x18 x153 x154 x155 h:=gR Y0.J Tryz.f57 Y0.dist [1,1,0,0,1,1,0,0,1,1,1,1,1,1,1,1,1,1,1,1,0,0,1,1,1] H
def Y0.t7 (Q:AV→aA→Prop) (x0 x4 x16:AV) (x17 x18:Int) (x153:AV) (x154 x155:Int) (h:aA) (J:JT):Prop:=
(bif (decide ((x155:Int)<x154)) then
(aE 5 x153 (AV.i .i64 x155) h fun v191=>
aB 5 v191 h fun v192=>
bV (some 33) [(AV.i .i64 0),(AV.i .i64 0),(AV.b false),(AV.s []),(AV.sl none 0 none)] h fun v193 h194=>
aS 5 v193 v192 h194 fun h195=>
aB 3 (bG h195 4) h195 fun v197=>
aB 5 v193 h195 fun v198=>
C Y59.id [v197,v198] h195 fun v199 h200=>
asB v199 fun c201=>
(bif c201 then
(cV x0 fun v202=>
aD 0 v202 fun v203=>
aD 5 v203 fun v204=>
aC v204 h200 fun v205=>
bP v205 fun n206=>
J 9 [(0,x0),(4,x4),(14,v193),(16,x16),(17,(AV.i .i64 x17)),(18,(AV.i .i64 x18)),(153,x153),(154,(AV.i .i64 x154)),(155,(AV.i .i64 x155)),(170,(AV.b (decide ((n206:Int)<16))))] h200)
else
(J 9 [(0,x0),(4,x4),(14,v193),(16,x16),(17,(AV.i .i64 x17)),(18,(AV.i .i64 x18)),(153,x153),(154,(AV.i .i64 x154)),(155,(AV.i .i64 x155)),(170,(AV.b false))] h200)))
else
(J 11 [(0,x0),(4,x4),(16,x16),(17,(AV.i .i64 x17)),(18,(AV.i .i64 x18))] h))
theorem Y0.i7 {Q x0 x4 x16 x17 x18 x153 x154 x155 h} (H:Y0.t7 Q x0 x4 x16 x17 x18 x153 x154 x155 h (Y0.J Q)):Y0.p7 Q x0 x4 x16 x17 x18 x153 x154 x155 h:=gH Y0.J Tryz.f57 Y0.dist [1,1,0,0,1,1,0,0,1,1,1,1,1,1,1,1,1,1,1,1,0] H
def Y0.t2 (Q:AV→aA→Prop) (x0 x4 x6:AV) (x7:Int) (x8:List UInt8) (x9 x10:Bool) (x16:AV) (x17 x18:Int) (h:aA) (J:JT):Prop:=
(bif x9 then
((bif x10 then
(aB 3 (bG h 9) h fun v65=>
aD 4 x6 fun v66=>
aC v66 h fun v67=>
aQ (IntKind.wrap .i64 (x7 - 1)) fun n68=>
aE 5 v67 (AV.i .i64 n68) h fun v69=>
aB 5 v69 h fun v70=>
C Y59.id [v65,v70] h fun v71 h72=>
asB v71 fun c73=>
aE 5 v67 (AV.i .i64 n68) h72 fun v74=>
(v69=v74 ∧
(aC v66 h72 fun v75=>
(v67=v75 ∧
(C Y33.id [x0,(AV.b c73)] h72 fun v76 h77=>
asB v76 fun c78=>
aB 5 v69 h77 fun v79=>
(v70=v79 ∧
(aE 5 v67 (AV.i .i64 n68) h77 fun v80=>
(v69=v80 ∧
(aC v66 h77 fun v81=>
(v67=v81 ∧
(aB 3 (bG h77 9) h77 fun v82=>
(v65=v82 ∧
(J 4 [(0,x0),(4,x4),(6,x6),(7,(AV.i .i64 x7)),(8,(AV.s x8)),(16,x16),(17,(AV.i .i64 x17)),(18,(AV.i .i64 x18)),(82,(AV.b (!c78)))] h77)))))))))))))
else
(C Y33.id [x0,(AV.b false)] h fun v84 h85=>
asB v84 fun c86=>
((AV.tu [])=(AV.tu []) ∧
(((AV.tu [])=(AV.tu []) ∧
(((AV.tu [])=(AV.tu []) ∧
(((AV.tu [])=(AV.tu []) ∧
(J 4 [(0,x0),(4,x4),(6,x6),(7,(AV.i .i64 x7)),(8,(AV.s x8)),(16,x16),(17,(AV.i .i64 x17)),(18,(AV.i .i64 x18)),(82,(AV.b (!c86)))] h85)))))))))))
else
(C Y33.id [x0,(AV.b false)] h fun v88 h89=>
asB v88 fun c90=>
((AV.tu [])=(AV.tu []) ∧
(((AV.tu [])=(AV.tu []) ∧
(((AV.tu [])=(AV.tu []) ∧
(((AV.tu [])=(AV.tu []) ∧
(J 4 [(0,x0),(4,x4),(6,x6),(7,(AV.i .i64 x7)),(8,(AV.s x8)),(16,x16),(17,(AV.i .i64 x17)),(18,(AV.i .i64 x18)),(82,(AV.b (!c90)))] h89))))))))))
theorem Y0.i2 {Q x0 x4 x6 x7 x8 x9 x10 x16 x17 x18 h} (H:Y0.t2 Q x0 x4 x6 x7 x8 x9 x10 x16 x17 x18 h (Y0.J Q)):Y0.p2 Q x0 x4 x6 x7 x8 x9 x10 x16 x17 x18 h:=gR Y0.J Tryz.f57 Y0.dist [1,1,0,0,1,1,0,0,1,1,1,1,1] H
def Y0.t10 (Q:AV→aA→Prop) (x0 x4 x16:AV) (x17 x18:Int) (h:aA) (J:JT):Prop:=
aQ (IntKind.wrap .i64 (x18+1)) fun n237=>
J 1 [(0,x0),(4,x4),(16,x16),(17,(AV.i .i64 x17)),(18,(AV.i .i64 n237))] h
theorem Y0.i10 {Q x0 x4 x16 x17 x18 h} (H:Y0.t10 Q x0 x4 x16 x17 x18 h (Y0.J Q)):Y0.p10 Q x0 x4 x16 x17 x18 h:=gR Y0.J Tryz.f57 Y0.dist [1,1,0,0,1,1,1] H
def Y0.t0 (Q:AV→aA→Prop) (x0 x4 x16:AV) (x17 x18:Int) (h:aA) (J:JT):Prop:=
(bif (decide ((x18:Int)<x17)) then
(aE 5 x16 (AV.i .i64 x18) h fun v7=>
aB 5 v7 h fun v8=>
bV (some 33) [(AV.i .i64 0),(AV.i .i64 0),(AV.b false),(AV.s []),(AV.sl none 0 none)] h fun v9 h10=>
aS 5 v9 v8 h10 fun h11=>
aD 4 v9 fun v13=>
aC v13 h11 fun v14=>
bP v14 fun n15=>
aB 3 (bG h11 0) h11 fun v17=>
aB 5 v9 h11 fun v18=>
C Y59.id [v17,v18] h11 fun v19 h20=>
asB v19 fun c21=>
(bif c21 then
((bif (decide ((n15:Int)=2)) then
(C Y33.id [x0,(AV.b true)] h20 fun v22 h23=>
asB v22 fun c24=>
J 2 [(0,x0),(4,x4),(6,v9),(7,(AV.i .i64 n15)),(16,x16),(17,(AV.i .i64 x17)),(18,(AV.i .i64 x18)),(38,(AV.b (!c24)))] h23)
else
(C Y33.id [x0,(AV.b (decide ((n15:Int)=3)))] h20 fun v26 h27=>
asB v26 fun c28=>
J 2 [(0,x0),(4,x4),(6,v9),(7,(AV.i .i64 n15)),(16,x16),(17,(AV.i .i64 x17)),(18,(AV.i .i64 x18)),(38,(AV.b (!c28)))] h27)))
else
(C Y33.id [x0,(AV.b false)] h20 fun v30 h31=>
asB v30 fun c32=>
J 2 [(0,x0),(4,x4),(6,v9),(7,(AV.i .i64 n15)),(16,x16),(17,(AV.i .i64 x17)),(18,(AV.i .i64 x18)),(38,(AV.b (!c32)))] h31)))
else
(Q (AV.tu []) h))
theorem Y0.i0 {Q x0 x4 x16 x17 x18 h} (H:Y0.t0 Q x0 x4 x16 x17 x18 h (Y0.J Q)):Y0.p0 Q x0 x4 x16 x17 x18 h:=gH Y0.J Tryz.f57 Y0.dist [1,1,0] H
def Y0.t (Q:AV→aA→Prop) (x0 x1:AV) (h:aA) (J:JT):Prop:=
rL h fun v0 h1=>
bP x1 fun n3=>
J 1 [(0,x0),(4,v0),(16,x1),(17,(AV.i .i64 n3)),(18,(AV.i .i64 0))] h1
theorem Y0.call {K x0 x1 h} (H:Y0.t (aI h K) x0 x1 h (Y0.J (aI h K))):C Y0.id [x0,x1] h K:=
 gC Y0.J Tryz.func57 Y0.dist H
noncomputable def Y49.body:Code:=(Tryz.f59.body).getD .skip
def Y49.ann:Ann:=(sl [0] (sl [0,3] (sl [0,3,4] (sq [4] (sl [0,3,4,5] (.one (.loop 1 [0,3,4,5] (sq [0,3,4,5] (sl [0,3,4,5,11] bl) (sq [0,3,4,5] (.one (sl [0,3,4,5,6] (sl [0,3,4,5,6,7] (.ord (nn 0 13 (.eff 13 .done .stop)))))) lf))))) (sl [2] lf)))))
theorem Y49.dist:aT (places Y49.ann Y49.body)=true:=by kernel_rfl
noncomputable def Y49.J (Q:AV→aA→Prop):JT:=b4 prog C Tryz.f59 Y49.ann Y49.body Q
def Y49.p0 (Q:AV→aA→Prop) (x0 x3 x4:List UInt8) (x5:Int) (h:aA):Prop:=Y49.J Q 1 [(0,(AV.s x0)),(3,(AV.s x3)),(4,(AV.s x4)),(5,(AV.i .i64 x5))] h
def Y49.t0 (Q:AV→aA→Prop) (x0 x3 x4:List UInt8) (x5:Int) (h:aA) (J:JT):Prop:=
(bif (decide ((x5:Int)<(x0.length:Int))) then
(bT (AV.s x0) (AV.i .i64 x5) fun n7=>
jK .i64 (IntKind.wrap .i64 n7) 16 fun n8=>
bT (AV.s x0) (AV.i .i64 x5) fun n10=>
iJ (IntKind.wrap .i64 n10) 16 fun n11=>
aQ (IntKind.wrap .i64 (n8+1)) fun n13=>
bW (AV.s x3) (some (AV.i .i64 n8)) (some (AV.i .i64 n13)) fun l14=>
eC x4 l14 fun l15=>
aQ (IntKind.wrap .i64 (n11+1)) fun n16=>
bW (AV.s x3) (some (AV.i .i64 n11)) (some (AV.i .i64 n16)) fun l17=>
eC l15 l17 fun l18=>
aQ (IntKind.wrap .i64 (x5+1)) fun n20=>
J 1 [(0,(AV.s x0)),(3,(AV.s x3)),(4,(AV.s l18)),(5,(AV.i .i64 n20))] h)
else
(Q (AV.s x4) h))
theorem Y49.i0 {Q x0 x3 x4 x5 h} (H:Y49.t0 Q x0 x3 x4 x5 h (Y49.J Q)):Y49.p0 Q x0 x3 x4 x5 h:=gH Y49.J Tryz.f59 Y49.dist [1,1,1,0,1,0] H
def Y49.t (Q:AV→aA→Prop) (x0:List UInt8) (h:aA) (J:JT):Prop:=
J 1 [(0,(AV.s x0)),(3,(AV.s [48,49,50,51,52,53,54,55,56,57,97,98,99,100,101,102])),(4,(AV.s [])),(5,(AV.i .i64 0))] h
theorem Y49.call {K x0 h} (H:Y49.t (aI h K) x0 h (Y49.J (aI h K))):C Y49.id [(AV.s x0)] h K:=
 gC Y49.J Tryz.func59 Y49.dist H
noncomputable def Y106.body:Code:=(Tryz.f62.body).getD .skip
def Y106.ann:Ann:=(sl [1,2,4] (sl [1,2,4,6,7] (sq [2,4] (sl [1,2,4,6,7,8] (.one (.loop 1 [1,2,4,6,7,8] (sq [1,2,4,6,7,8] (sl [1,2,4,6,7,8,20] bl) (.seq 10 [1,2,4,6,7,8] (.one (sl [1,2,4,6,7,8,9,10,11] (sq [1,2,4,6,7,8,9,10] (sl [1,2,4,6,7,8,9,10,33] (.br (sl [4,5] lf) lf)) (.seq 7 [1,2,4,6,7,8,9,10] (.seq 2 [1,2,4,6,7,8,9,10,40] lf (.br (sl [1,2,4,6,7,8,9,10] (sl [1,2,4,6,7,8,9,10,12,13] (sq [1,2,4,6,7,8,9,10,12] (.seq 3 [1,2,4,6,7,8,9,10,12,52] lf (.br (sl [4,5] lf) lf)) (sl [1,2,4,6,7,8,9,10,12,14] (.one (.loop 4 [1,2,4,6,7,8,9,10,12,14] (sq [1,2,4,6,7,8,9,10,12,14] (sl [1,2,4,6,7,8,9,10,12,14,58] bl) (.seq 6 [1,2,4,6,7,8,9,10,12,14] (.one (.seq 5 [1,2,4,6,7,8,9,10,12,14,72] lf (.br (.ord (nn 0 8 (.eff 8 (.eff 9 (.eff 10 (.neu 11 (.eff 12 .done .stop)) .stop) .stop) .stop))) lf))) lf)))))))) lf)) (.seq 8 [1,2,4,6,7,8,10,90] lf (.br (sl [1,2,4,6,7,8,10] (sl [1,2,4,6,7,8,15,16] (sq [1,2,4,6,7,8,15] (.seq 9 [1,2,4,6,7,8,15,102] lf (.br (sl [4,5] lf) lf)) lf))) lf)))))) lf))))) (sl [4,5] lf))))
noncomputable def Y106.J (Q:AV→aA→Prop):JT:=b4 prog C Tryz.f62 Y106.ann Y106.body Q
def Y106.p0 (Q:AV→aA→Prop) (x1 x2 x4:AV) (x6 x7:Bool) (x8:Int) (h:aA):Prop:=Y106.J Q 1 [(1,x1),(2,x2),(4,x4),(6,(AV.b x6)),(7,(AV.b x7)),(8,(AV.i .i64 x8))] h
noncomputable def Y44.body:Code:=(Tryz.f63.body).getD .skip
def Y44.ann:Ann:=(sl [0] (sq [0] (sl [0,6] (.br (sl [2] lf) lf)) (sl [0,3] (sq [3] (sl [3,4] (.one (.loop 1 [3,4] (sq [3,4] (sl [3,4,13] bl) (sq [3,4] (.one lf) lf))))) (sl [2] lf)))))
theorem Y44.dist:aT (places Y44.ann Y44.body)=true:=by kernel_rfl
noncomputable def Y44.J (Q:AV→aA→Prop):JT:=b4 prog C Tryz.f63 Y44.ann Y44.body Q
def Y44.p0 (Q:AV→aA→Prop) (x3:AV) (x4:Int) (h:aA):Prop:=Y44.J Q 1 [(3,x3),(4,(AV.i .i64 x4))] h
def Y44.t0 (Q:AV→aA→Prop) (x3:AV) (x4:Int) (h:aA) (J:JT):Prop:=
(bif (decide ((0:Int)<x4)) then
(aN 1 1 [(AV.i .u8 0)] [(0,1,(AV.i .u8 (IntKind.wrap .u8 x4)))] h fun v12 h13=>
bN (some 5) 1 1 v12 x3 h13 fun v14 h15=>
pL .i64 x4 8 fun n17=>
J 1 [(3,v14),(4,(AV.i .i64 n17))] h15)
else
(bP x3 fun n19=>
aQ (IntKind.wrap .i64 (128+n19)) fun n20=>
aN 1 1 [(AV.i .u8 0)] [(0,1,(AV.i .u8 (IntKind.wrap .u8 n20)))] h fun v21 h22=>
cE v21 h22 fun l23=>
cE x3 h22 fun l24=>
eC l23 l24 fun l25=>
Q (AV.s l25) h22))
theorem Y44.i0 {Q x3 x4 h} (H:Y44.t0 Q x3 x4 h (Y44.J Q)):Y44.p0 Q x3 x4 h:=gH Y44.J Tryz.f63 Y44.dist [1,1,1,0,1,0] H
def Y44.t (Q:AV→aA→Prop) (x0:Int) (h:aA) (J:JT):Prop:=
(bif (decide ((x0:Int)<128)) then
(aN 1 1 [(AV.i .u8 0)] [(0,1,(AV.i .u8 (IntKind.wrap .u8 x0)))] h fun v2 h3=>
cE v2 h3 fun l4=>
Q (AV.s l4) h3)
else
(J 1 [(3,(AV.sl none 0 none)),(4,(AV.i .i64 x0))] h))
theorem Y44.call {K x0 h} (H:Y44.t (aI h K) x0 h (Y44.J (aI h K))):C Y44.id [(AV.i .i64 x0)] h K:=
 gC Y44.J Tryz.func63 Y44.dist H
noncomputable def Y24.body:Code:=(Tryz.f64.body).getD .skip
def Y24.ann:Ann:=(sl [0] (sl [3] (sq [3] (sl [3,8,9,10] (.one (.loop 1 [3,8,9,10] (sl [3,8,9,10,11] (sq [3,8,9,10] bl (.seq 3 [3,8,9,10] (.one (sl [3,4,5,8,9,10] (.seq 2 [3,4,5,8,9,10,20] lf bl))) lf)))))) (sl [2] lf))))
theorem Y24.dist:aT (places Y24.ann Y24.body)=true:=by kernel_rfl
noncomputable def Y24.J (Q:AV→aA→Prop):JT:=b4 prog C Tryz.f64 Y24.ann Y24.body Q
def Y24.p1 (Q:AV→aA→Prop) (x3:AV) (x4 x5:Int) (x8:AV) (x9 x10:Int) (x20:Bool) (h:aA):Prop:=Y24.J Q 2 [(3,x3),(4,(AV.i .i64 x4)),(5,(AV.i .u8 x5)),(8,x8),(9,(AV.i .i64 x9)),(10,(AV.i .i64 x10)),(20,(AV.b x20))] h
def Y24.p2 (Q:AV→aA→Prop) (x3 x8:AV) (x9 x10:Int) (h:aA):Prop:=Y24.J Q 3 [(3,x3),(8,x8),(9,(AV.i .i64 x9)),(10,(AV.i .i64 x10))] h
def Y24.p0 (Q:AV→aA→Prop) (x3 x8:AV) (x9 x10:Int) (h:aA):Prop:=Y24.J Q 1 [(3,x3),(8,x8),(9,(AV.i .i64 x9)),(10,(AV.i .i64 x10))] h
def Y24.t1 (Q:AV→aA→Prop) (x3:AV) (x4 x5:Int) (x8:AV) (x9 x10:Int) (x20:Bool) (h:aA) (J:JT):Prop:=
(bif x20 then
(aQ (IntKind.wrap .u8 (x5+97)) fun n15=>
aQ (IntKind.wrap .u8 (n15 - 65)) fun n16=>
aE 1 x3 (AV.i .i64 x4) h fun v17=>
aS 1 v17 (AV.i .u8 n16) h fun h18=>
J 3 [(3,x3),(8,x8),(9,(AV.i .i64 x9)),(10,(AV.i .i64 x10))] h18)
else
(J 3 [(3,x3),(8,x8),(9,(AV.i .i64 x9)),(10,(AV.i .i64 x10))] h))
theorem Y24.i1 {Q x3 x4 x5 x8 x9 x10 x20 h} (H:Y24.t1 Q x3 x4 x5 x8 x9 x10 x20 h (Y24.J Q)):Y24.p1 Q x3 x4 x5 x8 x9 x10 x20 h:=gR Y24.J Tryz.f64 Y24.dist [1,1,0,1,0,0,1,1,0,0,1,1] H
def Y24.t2 (Q:AV→aA→Prop) (x3 x8:AV) (x9 x10:Int) (h:aA) (J:JT):Prop:=
aQ (IntKind.wrap .i64 (x10+1)) fun n21=>
J 1 [(3,x3),(8,x8),(9,(AV.i .i64 x9)),(10,(AV.i .i64 n21))] h
theorem Y24.i2 {Q x3 x8 x9 x10 h} (H:Y24.t2 Q x3 x8 x9 x10 h (Y24.J Q)):Y24.p2 Q x3 x8 x9 x10 h:=gR Y24.J Tryz.f64 Y24.dist [1,1,0,1,0,0,1,1,1] H
def Y24.t0 (Q:AV→aA→Prop) (x3 x8:AV) (x9 x10:Int) (h:aA) (J:JT):Prop:=
(bif (decide ((x10:Int)<x9)) then
(aE 1 x8 (AV.i .i64 x10) h fun v9=>
aC v9 h fun v10=>
asI .u8 v10 fun n11=>
(bif (decide ((65:Int)≤n11)) then
(J 2 [(3,x3),(4,(AV.i .i64 x10)),(5,(AV.i .u8 n11)),(8,x8),(9,(AV.i .i64 x9)),(10,(AV.i .i64 x10)),(20,(AV.b (decide ((n11:Int)≤90))))] h)
else
(J 2 [(3,x3),(4,(AV.i .i64 x10)),(5,(AV.i .u8 n11)),(8,x8),(9,(AV.i .i64 x9)),(10,(AV.i .i64 x10)),(20,(AV.b false))] h)))
else
(cE x3 h fun l23=>
Q (AV.s l23) h))
theorem Y24.i0 {Q x3 x8 x9 x10 h} (H:Y24.t0 Q x3 x8 x9 x10 h (Y24.J Q)):Y24.p0 Q x3 x8 x9 x10 h:=gH Y24.J Tryz.f64 Y24.dist [1,1,0,1,0] H
def Y24.t (Q:AV→aA→Prop) (x0:List UInt8) (h:aA) (J:JT):Prop:=
fJ (AV.s x0) h fun v1 h2=>
bP v1 fun n4=>
J 1 [(3,v1),(8,v1),(9,(AV.i .i64 n4)),(10,(AV.i .i64 0))] h2
theorem Y24.call {K x0 h} (H:Y24.t (aI h K) x0 h (Y24.J (aI h K))):C Y24.id [(AV.s x0)] h K:=
 gC Y24.J Tryz.func64 Y24.dist H
noncomputable def Y97.body:Code:=(Tryz.f65.body).getD .skip
def Y97.ann:Ann:=(sl [0,1] (sl [4] lf))
theorem Y97.dist:aT (places Y97.ann Y97.body)=true:=by kernel_rfl
noncomputable def Y97.J (Q:AV→aA→Prop):JT:=b4 prog C Tryz.f65 Y97.ann Y97.body Q
def Y97.t (Q:AV→aA→Prop) (x0 x1:List UInt8) (h:aA) (J:JT):Prop:=
C Y32.id [(AV.s x0),(AV.s x1),(AV.i .i64 0),(AV.i .i64 (-1))] h fun v1 h2=>
Q v1 h2
theorem Y97.call {K x0 x1 h} (H:Y97.t (aI h K) x0 x1 h (Y97.J (aI h K))):C Y97.id [(AV.s x0),(AV.s x1)] h K:=
 gC Y97.J Tryz.func65 Y97.dist H
noncomputable def Y25.body:Code:=(Tryz.f66.body).getD .skip
def Y25.ann:Ann:=(sl [0] (sq [0] (.seq 1 [0,22] lf (.br (sl [2,3] lf) lf)) (sl [0,4] (sq [4] (sl [0,4,24,25] (.one (.loop 2 [0,4,24,25] (sl [0,4,24,25,26] (sq [0,4,24,25] bl (sq [0,4,24,25] (.one (sl [0,4,5,24,25] (sq [0,4,5,24,25] (.seq 3 [0,4,5,24,25,37] lf (.br (sl [2,3] lf) lf)) lf))) lf)))))) (sl [2,3] lf)))))
theorem Y25.dist:aT (places Y25.ann Y25.body)=true:=by kernel_rfl
noncomputable def Y25.J (Q:AV→aA→Prop):JT:=b4 prog C Tryz.f66 Y25.ann Y25.body Q
def Y25.p0 (Q:AV→aA→Prop) (x0:List UInt8) (x22:Bool) (h:aA):Prop:=Y25.J Q 1 [(0,(AV.s x0)),(22,(AV.b x22))] h
def Y25.p2 (Q:AV→aA→Prop) (x0:List UInt8) (x4 x5 x24 x25:Int) (x37:Bool) (h:aA):Prop:=Y25.J Q 3 [(0,(AV.s x0)),(4,(AV.i .i64 x4)),(5,(AV.i .i64 x5)),(24,(AV.i .i64 x24)),(25,(AV.i .i64 x25)),(37,(AV.b x37))] h
def Y25.p1 (Q:AV→aA→Prop) (x0:List UInt8) (x4 x24 x25:Int) (h:aA):Prop:=Y25.J Q 2 [(0,(AV.s x0)),(4,(AV.i .i64 x4)),(24,(AV.i .i64 x24)),(25,(AV.i .i64 x25))] h
def Y25.t0 (Q:AV→aA→Prop) (x0:List UInt8) (x22:Bool) (h:aA) (J:JT):Prop:=
(bif x22 then
(Q (AV.tu [(AV.i .i64 0),(AV.b false)]) h)
else
(J 2 [(0,(AV.s x0)),(4,(AV.i .i64 0)),(24,(AV.i .i64 (x0.length:Int))),(25,(AV.i .i64 0))] h))
theorem Y25.i0 {Q x0 x22 h} (H:Y25.t0 Q x0 x22 h (Y25.J Q)):Y25.p0 Q x0 x22 h:=gR Y25.J Tryz.f66 Y25.dist [1,0,1] H
def Y25.t2 (Q:AV→aA→Prop) (x0:List UInt8) (x4 x5 x24 x25:Int) (x37:Bool) (h:aA) (J:JT):Prop:=
(bif x37 then
(Q (AV.tu [(AV.i .i64 0),(AV.b false)]) h)
else
(aQ (IntKind.wrap .i64 (x4 * 10)) fun n20=>
bT (AV.s x0) (AV.i .i64 x5) fun n21=>
aQ (IntKind.wrap .u8 (n21 - 48)) fun n22=>
aQ (IntKind.wrap .i64 (n20+(IntKind.wrap .i64 n22))) fun n23=>
aQ (IntKind.wrap .i64 (x25+1)) fun n25=>
J 2 [(0,(AV.s x0)),(4,(AV.i .i64 n23)),(24,(AV.i .i64 x24)),(25,(AV.i .i64 n25))] h))
theorem Y25.i2 {Q x0 x4 x5 x24 x25 x37 h} (H:Y25.t2 Q x0 x4 x5 x24 x25 x37 h (Y25.J Q)):Y25.p2 Q x0 x4 x5 x24 x25 x37 h:=gR Y25.J Tryz.f66 Y25.dist [1,1,1,0,1,0,0,1,1,0,0,1,0,1] H
def Y25.t1 (Q:AV→aA→Prop) (x0:List UInt8) (x4 x24 x25:Int) (h:aA) (J:JT):Prop:=
(bif (decide ((x25:Int)<x24)) then
(bT (AV.s x0) (AV.i .i64 x25) fun n14=>
(bif (decide ((n14:Int)<48)) then
(J 3 [(0,(AV.s x0)),(4,(AV.i .i64 x4)),(5,(AV.i .i64 x25)),(24,(AV.i .i64 x24)),(25,(AV.i .i64 x25)),(37,(AV.b true))] h)
else
(bT (AV.s x0) (AV.i .i64 x25) fun n16=>
J 3 [(0,(AV.s x0)),(4,(AV.i .i64 x4)),(5,(AV.i .i64 x25)),(24,(AV.i .i64 x24)),(25,(AV.i .i64 x25)),(37,(AV.b (decide ((57:Int)<n16))))] h)))
else
(Q (AV.tu [(AV.i .i64 x4),(AV.b (decide ((x4:Int)<268435456)))]) h))
theorem Y25.i1 {Q x0 x4 x24 x25 h} (H:Y25.t1 Q x0 x4 x24 x25 h (Y25.J Q)):Y25.p1 Q x0 x4 x24 x25 h:=gH Y25.J Tryz.f66 Y25.dist [1,1,1,0,1,0] H
def Y25.t (Q:AV→aA→Prop) (x0:List UInt8) (h:aA) (J:JT):Prop:=
(bif (decide ((x0:List UInt8)=[])) then
(J 1 [(0,(AV.s x0)),(22,(AV.b true))] h)
else
((bif (decide ((9:Int)<(x0.length:Int))) then
(J 1 [(0,(AV.s x0)),(22,(AV.b true))] h)
else
(bT (AV.s x0) (AV.i .i64 0) fun n3=>
(bif (decide ((n3:Int)=48)) then
(J 1 [(0,(AV.s x0)),(22,(AV.b (decide ((1:Int)<(x0.length:Int)))))] h)
else
(J 1 [(0,(AV.s x0)),(22,(AV.b false))] h))))))
theorem Y25.call {K x0 h} (H:Y25.t (aI h K) x0 h (Y25.J (aI h K))):C Y25.id [(AV.s x0)] h K:=
 gC Y25.J Tryz.func66 Y25.dist H
noncomputable def Y82.body:Code:=(Tryz.f67.body).getD .skip
def Y82.ann:Ann:=(sl [0,1] (sl [4] lf))
theorem Y82.dist:aT (places Y82.ann Y82.body)=true:=by kernel_rfl
noncomputable def Y82.J (Q:AV→aA→Prop):JT:=b4 prog C Tryz.f67 Y82.ann Y82.body Q
def Y82.t (Q:AV→aA→Prop) (x0:List UInt8) (x1:Int) (h:aA) (J:JT):Prop:=
C Y78.id [(AV.s x0),(AV.i .u8 x1)] h fun v1 h2=>
asI .i64 v1 fun n3=>
Q (AV.i .i64 n3) h2
theorem Y82.call {K x0 x1 h} (H:Y82.t (aI h K) x0 x1 h (Y82.J (aI h K))):C Y82.id [(AV.s x0),(AV.i .u8 x1)] h K:=
 gC Y82.J Tryz.func67 Y82.dist H
noncomputable def Y76.body:Code:=(Tryz.f68.body).getD .skip
def Y76.ann:Ann:=(sl [0] (sl [0,3] (sl [2] lf)))
theorem Y76.dist:aT (places Y76.ann Y76.body)=true:=by kernel_rfl
noncomputable def Y76.J (Q:AV→aA→Prop):JT:=b4 prog C Tryz.f68 Y76.ann Y76.body Q
def Y76.t (Q:AV→aA→Prop) (x0:Int) (h:aA) (J:JT):Prop:=
aQ (IntKind.wrap .i64 (x0 - 1970)) fun n2=>
aQ (IntKind.wrap .i64 (365 * n2)) fun n3=>
aQ (IntKind.wrap .i64 (x0 - 1)) fun n4=>
eF C (AV.fn (.func Y83.id) [] []) [(AV.i .i64 n4)] h fun v5 h6=>
asI .i64 v5 fun n7=>
aQ (IntKind.wrap .i64 (n3+n7)) fun n8=>
eF C (AV.fn (.func Y83.id) [] []) [(AV.i .i64 1969)] h6 fun v9 h10=>
asI .i64 v9 fun n11=>
aQ (IntKind.wrap .i64 (n8 - n11)) fun n12=>
Q (AV.i .i64 n12) h10
theorem Y76.call {K x0 h} (H:Y76.t (aI h K) x0 h (Y76.J (aI h K))):C Y76.id [(AV.i .i64 x0)] h K:=
 gC Y76.J Tryz.func68 Y76.dist H
noncomputable def Y47.body:Code:=(Tryz.f69.body).getD .skip
def Y47.ann:Ann:=(sl [0,1] (sq [] (sl [0,5] (.one (sl [0,5,6] (.br (sq [] (sl [9] (.br (sl [4] lf) lf)) (sl [4] lf)) (.seq 1 [10] (sl [5,10] (.br lf (sl [5,10] (.br lf (sl [5,10] bl))))) (.br (sl [4] lf) lf)))))) (sl [4] lf)))
theorem Y47.dist:aT (places Y47.ann Y47.body)=true:=by kernel_rfl
noncomputable def Y47.J (Q:AV→aA→Prop):JT:=b4 prog C Tryz.f69 Y47.ann Y47.body Q
def Y47.p0 (Q:AV→aA→Prop) (x10:Bool) (h:aA):Prop:=Y47.J Q 1 [(10,(AV.b x10))] h
def Y47.t0 (Q:AV→aA→Prop) (x10:Bool) (h:aA) (J:JT):Prop:=
(bif x10 then
(Q (AV.i .i64 30) h)
else
(Q (AV.i .i64 31) h))
theorem Y47.i0 {Q x10 h} (H:Y47.t0 Q x10 h (Y47.J Q)):Y47.p0 Q x10 h:=gR Y47.J Tryz.f69 Y47.dist [1,0,1,0,1,1,1] H
def Y47.t (Q:AV→aA→Prop) (x0 x1:Int) (h:aA) (J:JT):Prop:=
(bif (decide ((x1:Int)=2)) then
(C Y61.id [(AV.i .i64 x0)] h fun v3 h4=>
asB v3 fun c5=>
(bif c5 then
(Q (AV.i .i64 29) h4)
else
(Q (AV.i .i64 28) h4)))
else
((bif (decide ((x1:Int)=4)) then
(J 1 [(10,(AV.b (decide ((x1:Int)=4))))] h)
else
((bif (decide ((x1:Int)=6)) then
(J 1 [(10,(AV.b (decide ((x1:Int)=6))))] h)
else
((bif (decide ((x1:Int)=9)) then
(J 1 [(10,(AV.b (decide ((x1:Int)=9))))] h)
else
(J 1 [(10,(AV.b (decide ((x1:Int)=11))))] h))))))))
theorem Y47.call {K x0 x1 h} (H:Y47.t (aI h K) x0 x1 h (Y47.J (aI h K))):C Y47.id [(AV.i .i64 x0),(AV.i .i64 x1)] h K:=
 gC Y47.J Tryz.func69 Y47.dist H
noncomputable def Y73.body:Code:=(Tryz.f70.body).getD .skip
def Y73.ann:Ann:=(sl [0] (sl [2] lf))
theorem Y73.dist:aT (places Y73.ann Y73.body)=true:=by kernel_rfl
noncomputable def Y73.J (Q:AV→aA→Prop):JT:=b4 prog C Tryz.f70 Y73.ann Y73.body Q
def Y73.t (Q:AV→aA→Prop) (x0:Int) (h:aA) (J:JT):Prop:=
jK .i64 x0 10 fun n1=>
aQ (IntKind.wrap .i64 (48+n1)) fun n2=>
iJ x0 10 fun n3=>
aQ (IntKind.wrap .i64 (48+n3)) fun n4=>
aN 1 2 [(AV.i .u8 0),(AV.i .u8 0)] [(0,1,(AV.i .u8 (IntKind.wrap .u8 n2))),(1,1,(AV.i .u8 (IntKind.wrap .u8 n4)))] h fun v5 h6=>
cE v5 h6 fun l7=>
Q (AV.s l7) h6
theorem Y73.call {K x0 h} (H:Y73.t (aI h K) x0 h (Y73.J (aI h K))):C Y73.id [(AV.i .i64 x0)] h K:=
 gC Y73.J Tryz.func70 Y73.dist H
noncomputable def Y39.body:Code:=(Tryz.f71.body).getD .skip
def Y39.ann:Ann:=(sl [3,4,5] (sl [3,4,5] (sq [3,4,5] (.one (.seq 1 [3,4,5,15] lf (.br (sl [6] lf) (.seq 2 [3,4,5,34] lf (.br (sl [6] lf) (sl [3,4,5,53] (.br (sl [6] lf) (sl [3,4,5,56] (.br (sl [6] lf) lf))))))))) (sl [3,4,5,7] (sl [7] (sl [6] lf))))))
theorem Y39.dist:aT (places Y39.ann Y39.body)=true:=by kernel_rfl
noncomputable def Y39.J (Q:AV→aA→Prop):JT:=b4 prog C Tryz.f71 Y39.ann Y39.body Q
def Y39.p1 (Q:AV→aA→Prop) (x3 x4 x5:AV) (x34:Bool) (h:aA):Prop:=Y39.J Q 2 [(3,x3),(4,x4),(5,x5),(34,(AV.b x34))] h
def Y39.p0 (Q:AV→aA→Prop) (x3 x4 x5:AV) (x15:Bool) (h:aA):Prop:=Y39.J Q 1 [(3,x3),(4,x4),(5,x5),(15,(AV.b x15))] h
def Y39.t1 (Q:AV→aA→Prop) (x3 x4 x5:AV) (x34:Bool) (h:aA) (J:JT):Prop:=
(bif x34 then
(Q (AV.i .i64 13) h)
else
(aC x5 h fun v58=>
asI .i64 v58 fun n59=>
(bif (decide ((24:Int)<n59)) then
(Q (AV.i .i64 9) h)
else
(aC x3 h fun v62=>
cV v62 fun v63=>
aD 0 v63 fun v64=>
aC v64 h fun v65=>
asI .i64 v65 fun n66=>
(bif (decide ((256:Int)<n66)) then
(Q (AV.i .i64 3) h)
else
(bV none [(AV.i .i64 0)] h fun v70 h71=>
aS 1 v70 (AV.i .i64 0) h71 fun h72=>
aD 4 x4 fun v74=>
aC v74 h72 fun v75=>
C Y55.id [v75,(AV.fn (.func Y85.id) [] [x3,x5,v70])] h72 fun v76 h77=>
asB v76 fun c78=>
aC v70 h77 fun v80=>
asI .i64 v80 fun n81=>
Q (AV.i .i64 n81) h77))))))
theorem Y39.i1 {Q x3 x4 x5 x34 h} (H:Y39.t1 Q x3 x4 x5 x34 h (Y39.J Q)):Y39.p1 Q x3 x4 x5 x34 h:=gR Y39.J Tryz.f71 Y39.dist [1,1,0,0,1,1,1] H
def Y39.t0 (Q:AV→aA→Prop) (x3 x4 x5:AV) (x15:Bool) (h:aA) (J:JT):Prop:=
(bif x15 then
(Q (AV.i .i64 4) h)
else
(aD 2 x4 fun v34=>
aC v34 h fun v35=>
asB v35 fun c36=>
(bif c36 then
(aD 3 x4 fun v37=>
aC v37 h fun v38=>
asS v38 fun l39=>
(bif (!(decide ((l39:List UInt8)=[]))) then
(J 2 [(3,x3),(4,x4),(5,x5),(34,(AV.b true))] h)
else
(aD 2 x4 fun v41=>
aC v41 h fun v42=>
asB v42 fun c43=>
(bif (!c43) then
(aD 4 x4 fun v44=>
aC v44 h fun v45=>
bP v45 fun n46=>
J 2 [(3,x3),(4,x4),(5,x5),(34,(AV.b (decide ((0:Int)<n46))))] h)
else
(J 2 [(3,x3),(4,x4),(5,x5),(34,(AV.b false))] h)))))
else
(aD 2 x4 fun v49=>
aC v49 h fun v50=>
asB v50 fun c51=>
(bif (!c51) then
(aD 4 x4 fun v52=>
aC v52 h fun v53=>
bP v53 fun n54=>
J 2 [(3,x3),(4,x4),(5,x5),(34,(AV.b (decide ((0:Int)<n54))))] h)
else
(J 2 [(3,x3),(4,x4),(5,x5),(34,(AV.b false))] h))))))
theorem Y39.i0 {Q x3 x4 x5 x15 h} (H:Y39.t0 Q x3 x4 x5 x15 h (Y39.J Q)):Y39.p0 Q x3 x4 x5 x15 h:=gR Y39.J Tryz.f71 Y39.dist [1,1,0,0,1] H
def Y39.t (Q:AV→aA→Prop) (x0 x1:AV) (x2:Int) (h:aA) (J:JT):Prop:=
eH none x0 h fun v0 h1=>
eH (some 33) x1 h1 fun v2 h3=>
eH none (AV.i .i64 x2) h3 fun v4 h5=>
aC v0 h5 fun v7=>
cV v7 fun v8=>
aD 0 v8 fun v9=>
aC v9 h5 fun v10=>
asI .i64 v10 fun n11=>
aQ (IntKind.wrap .i64 (n11+1)) fun n12=>
cV v7 fun v13=>
aD 0 v13 fun v14=>
aS 1 v14 (AV.i .i64 n12) h5 fun h15=>
aD 0 v2 fun v17=>
aC v17 h15 fun v18=>
asI .i64 v18 fun n19=>
(bif (decide ((n19:Int)<0)) then
(J 1 [(3,v0),(4,v2),(5,v4),(15,(AV.b true))] h15)
else
(aD 0 v2 fun v21=>
aC v21 h15 fun v22=>
asI .i64 v22 fun n23=>
(bif (decide ((3:Int)<n23)) then
(J 1 [(3,v0),(4,v2),(5,v4),(15,(AV.b true))] h15)
else
(aD 1 v2 fun v25=>
aC v25 h15 fun v26=>
asI .i64 v26 fun n27=>
(bif (decide ((n27:Int)<0)) then
(J 1 [(3,v0),(4,v2),(5,v4),(15,(AV.b true))] h15)
else
(aD 1 v2 fun v29=>
aC v29 h15 fun v30=>
asI .i64 v30 fun n31=>
J 1 [(3,v0),(4,v2),(5,v4),(15,(AV.b (decide ((30:Int)<n31))))] h15))))))
theorem Y39.call {K x0 x1 x2 h} (H:Y39.t (aI h K) x0 x1 x2 h (Y39.J (aI h K))):C Y39.id [x0,x1,(AV.i .i64 x2)] h K:=
 gC Y39.J Tryz.func71 Y39.dist H
noncomputable def Y19.body:Code:=(Tryz.f72.body).getD .skip
def Y19.ann:Ann:=(sl [1] (sl [1,3] (.seq 2 [1,3] (sl [1,3,12,13,14] (.one (.loop 1 [1,3,12,13,14] (sl [1,3,12,13,14,15] (sq [1,3,12,13,14] bl (sq [1,3,12,13,14] (.one (sl [1,3,5,12,13,14] (sl [1,3,12,13,14] (sl [1,3,12,13,14,24] bl)))) lf)))))) (sl [1,3,6] (.seq 3 [3,6] (sl [3,6,33] bl) (sl [3,7] (sl [3,7,8] (.seq 4 [3,7] (.one (sl [3,7,8,52] (.br lf (sl [3,7,8,60] (.br lf (sl [3,7,8,68] bl)))))) (sl [2] lf)))))))))
theorem Y19.dist:aT (places Y19.ann Y19.body)=true:=by kernel_rfl
noncomputable def Y19.J (Q:AV→aA→Prop):JT:=b4 prog C Tryz.f72 Y19.ann Y19.body Q
def Y19.p0 (Q:AV→aA→Prop) (x1:AV) (x3:List UInt8) (x12:AV) (x13 x14:Int) (h:aA):Prop:=Y19.J Q 1 [(1,x1),(3,(AV.s x3)),(12,x12),(13,(AV.i .i64 x13)),(14,(AV.i .i64 x14))] h
def Y19.p3 (Q:AV→aA→Prop) (x3:List UInt8) (x7:AV) (h:aA):Prop:=Y19.J Q 4 [(3,(AV.s x3)),(7,x7)] h
def Y19.p2 (Q:AV→aA→Prop) (x3:List UInt8) (x6:Int) (h:aA):Prop:=Y19.J Q 3 [(3,(AV.s x3)),(6,(AV.i .i64 x6))] h
def Y19.p1 (Q:AV→aA→Prop) (x1:AV) (x3:List UInt8) (h:aA):Prop:=Y19.J Q 2 [(1,x1),(3,(AV.s x3))] h
def Y19.t0 (Q:AV→aA→Prop) (x1:AV) (x3:List UInt8) (x12:AV) (x13 x14:Int) (h:aA) (J:JT):Prop:=
(bif (decide ((x14:Int)<x13)) then
(aE 5 x12 (AV.i .i64 x14) h fun v14=>
aB 5 v14 h fun v15=>
bV (some 33) [(AV.i .i64 0),(AV.i .i64 0),(AV.b false),(AV.s []),(AV.sl none 0 none)] h fun v16 h17=>
aS 5 v16 v15 h17 fun h18=>
aB 5 v16 h18 fun v20=>
C Y19.id [v20] h18 fun v21 h22=>
asS v21 fun l23=>
eC x3 l23 fun l24=>
(bif (decide ((131070:Int)<(l24.length:Int))) then
(J 2 [(1,x1),(3,(AV.s l24))] h22)
else
(aQ (IntKind.wrap .i64 (x14+1)) fun n29=>
J 1 [(1,x1),(3,(AV.s l24)),(12,x12),(13,(AV.i .i64 x13)),(14,(AV.i .i64 n29))] h22)))
else
(J 2 [(1,x1),(3,(AV.s x3))] h))
theorem Y19.i0 {Q x1 x3 x12 x13 x14 h} (H:Y19.t0 Q x1 x3 x12 x13 x14 h (Y19.J Q)):Y19.p0 Q x1 x3 x12 x13 x14 h:=gH Y19.J Tryz.f72 Y19.dist [1,1,0,1,0] H
def Y19.t3 (Q:AV→aA→Prop) (x3:List UInt8) (x7:AV) (h:aA) (J:JT):Prop:=
cE x7 h fun l80=>
eC l80 x3 fun l81=>
Q (AV.s l81) h
theorem Y19.i3 {Q x3 x7 h} (H:Y19.t3 Q x3 x7 h (Y19.J Q)):Y19.p3 Q x3 x7 h:=gR Y19.J Tryz.f72 Y19.dist [1,1,1,1,1,1,1,1] H
def Y19.t2 (Q:AV→aA→Prop) (x3:List UInt8) (x6:Int) (h:aA) (J:JT):Prop:=
aN 1 1 [(AV.i .u8 0)] [(0,1,(AV.i .u8 (IntKind.wrap .u8 x6)))] h fun v46 h47=>
(bif (decide (((x3.length:Int):Int)<128)) then
(aQ (IntKind.wrap .u8 (x3.length:Int)) fun n51=>
aN 1 1 [(AV.i .u8 0)] [(0,1,(AV.i .u8 n51))] h47 fun v52 h53=>
bN (some 5) 1 1 v46 v52 h53 fun v54 h55=>
J 4 [(3,(AV.s x3)),(7,v54)] h55)
else
((bif (decide (((x3.length:Int):Int)<256)) then
(aQ (IntKind.wrap .u8 (x3.length:Int)) fun n58=>
aN 1 2 [(AV.i .u8 0),(AV.i .u8 0)] [(0,1,(AV.i .u8 129)),(1,1,(AV.i .u8 n58))] h47 fun v59 h60=>
bN (some 5) 1 1 v46 v59 h60 fun v61 h62=>
J 4 [(3,(AV.s x3)),(7,v61)] h62)
else
((bif (decide (((x3.length:Int):Int)<65536)) then
(pL .i64 (x3.length:Int) 8 fun n65=>
aQ (IntKind.wrap .u8 (x3.length:Int)) fun n66=>
aN 1 3 [(AV.i .u8 0),(AV.i .u8 0),(AV.i .u8 0)] [(0,1,(AV.i .u8 130)),(1,1,(AV.i .u8 (IntKind.wrap .u8 n65))),(2,1,(AV.i .u8 n66))] h47 fun v67 h68=>
bN (some 5) 1 1 v46 v67 h68 fun v69 h70=>
J 4 [(3,(AV.s x3)),(7,v69)] h70)
else
(pL .i64 (x3.length:Int) 16 fun n72=>
pL .i64 (x3.length:Int) 8 fun n73=>
aQ (IntKind.wrap .u8 (x3.length:Int)) fun n74=>
aN 1 4 [(AV.i .u8 0),(AV.i .u8 0),(AV.i .u8 0),(AV.i .u8 0)] [(0,1,(AV.i .u8 131)),(1,1,(AV.i .u8 (IntKind.wrap .u8 n72))),(2,1,(AV.i .u8 (IntKind.wrap .u8 n73))),(3,1,(AV.i .u8 n74))] h47 fun v75 h76=>
bN (some 5) 1 1 v46 v75 h76 fun v77 h78=>
J 4 [(3,(AV.s x3)),(7,v77)] h78))))))
theorem Y19.i2 {Q x3 x6 h} (H:Y19.t2 Q x3 x6 h (Y19.J Q)):Y19.p2 Q x3 x6 h:=gR Y19.J Tryz.f72 Y19.dist [1,1,1,1,1] H
def Y19.t1 (Q:AV→aA→Prop) (x1:AV) (x3:List UInt8) (h:aA) (J:JT):Prop:=
aD 0 x1 fun v31=>
aC v31 h fun v32=>
asI .i64 v32 fun n33=>
xA .i64 n33 6 fun n34=>
aD 1 x1 fun v35=>
aC v35 h fun v36=>
asI .i64 v36 fun n37=>
aQ (cI .or .i64 n34 n37) fun n38=>
aD 2 x1 fun v40=>
aC v40 h fun v41=>
asB v41 fun c42=>
(bif c42 then
(J 3 [(3,(AV.s x3)),(6,(AV.i .i64 (cI .or .i64 n38 32)))] h)
else
(J 3 [(3,(AV.s x3)),(6,(AV.i .i64 n38))] h))
theorem Y19.i1 {Q x1 x3 h} (H:Y19.t1 Q x1 x3 h (Y19.J Q)):Y19.p1 Q x1 x3 h:=gR Y19.J Tryz.f72 Y19.dist [1,1,1] H
def Y19.t (Q:AV→aA→Prop) (x0:AV) (h:aA) (J:JT):Prop:=
eH (some 33) x0 h fun v0 h1=>
aD 3 v0 fun v3=>
aC v3 h1 fun v4=>
asS v4 fun l5=>
aD 4 v0 fun v7=>
aC v7 h1 fun v8=>
bP v8 fun n9=>
J 1 [(1,v0),(3,(AV.s l5)),(12,v8),(13,(AV.i .i64 n9)),(14,(AV.i .i64 0))] h1
theorem Y19.call {K x0 h} (H:Y19.t (aI h K) x0 h (Y19.J (aI h K))):C Y19.id [x0] h K:=
 gC Y19.J Tryz.func72 Y19.dist H
noncomputable def Y26.body:Code:=(Tryz.f73.body).getD .skip
def Y26.ann:Ann:=(sl [0] (sl [0,3] (sq [3] (sl [0,3,4] (.one (.loop 1 [0,3,4] (sq [0,3,4] (sl [0,3,4,9] bl) (sq [0,3,4] (.one (sl [0,3,4,5] (.seq 3 [0,3,4,5] (.seq 2 [0,3,4,5,20] lf bl) lf))) lf))))) (sl [2] lf))))
theorem Y26.dist:aT (places Y26.ann Y26.body)=true:=by kernel_rfl
noncomputable def Y26.J (Q:AV→aA→Prop):JT:=b4 prog C Tryz.f73 Y26.ann Y26.body Q
def Y26.p1 (Q:AV→aA→Prop) (x0:List UInt8) (x3:AV) (x4 x5:Int) (x20:Bool) (h:aA):Prop:=Y26.J Q 2 [(0,(AV.s x0)),(3,x3),(4,(AV.i .i64 x4)),(5,(AV.i .u8 x5)),(20,(AV.b x20))] h
def Y26.p2 (Q:AV→aA→Prop) (x0:List UInt8) (x3:AV) (x4 x5:Int) (h:aA):Prop:=Y26.J Q 3 [(0,(AV.s x0)),(3,x3),(4,(AV.i .i64 x4)),(5,(AV.i .u8 x5))] h
def Y26.p0 (Q:AV→aA→Prop) (x0:List UInt8) (x3:AV) (x4:Int) (h:aA):Prop:=Y26.J Q 1 [(0,(AV.s x0)),(3,x3),(4,(AV.i .i64 x4))] h
def Y26.t1 (Q:AV→aA→Prop) (x0:List UInt8) (x3:AV) (x4 x5:Int) (x20:Bool) (h:aA) (J:JT):Prop:=
(bif x20 then
(aQ (IntKind.wrap .u8 (x5+32)) fun n10=>
J 3 [(0,(AV.s x0)),(3,x3),(4,(AV.i .i64 x4)),(5,(AV.i .u8 n10))] h)
else
(J 3 [(0,(AV.s x0)),(3,x3),(4,(AV.i .i64 x4)),(5,(AV.i .u8 x5))] h))
theorem Y26.i1 {Q x0 x3 x4 x5 x20 h} (H:Y26.t1 Q x0 x3 x4 x5 x20 h (Y26.J Q)):Y26.p1 Q x0 x3 x4 x5 x20 h:=gR Y26.J Tryz.f73 Y26.dist [1,1,0,1,0,0,1,0,0,1,0,1] H
def Y26.t2 (Q:AV→aA→Prop) (x0:List UInt8) (x3:AV) (x4 x5:Int) (h:aA) (J:JT):Prop:=
aN 1 1 [(AV.i .u8 0)] [(0,1,(AV.i .u8 x5))] h fun v13 h14=>
bN (some 5) 1 1 x3 v13 h14 fun v15 h16=>
aQ (IntKind.wrap .i64 (x4+1)) fun n18=>
J 1 [(0,(AV.s x0)),(3,v15),(4,(AV.i .i64 n18))] h16
theorem Y26.i2 {Q x0 x3 x4 x5 h} (H:Y26.t2 Q x0 x3 x4 x5 h (Y26.J Q)):Y26.p2 Q x0 x3 x4 x5 h:=gR Y26.J Tryz.f73 Y26.dist [1,1,0,1,0,0,1,0,0,1,1] H
def Y26.t0 (Q:AV→aA→Prop) (x0:List UInt8) (x3:AV) (x4:Int) (h:aA) (J:JT):Prop:=
(bif (decide ((x4:Int)<(x0.length:Int))) then
(bT (AV.s x0) (AV.i .i64 x4) fun n6=>
(bif (decide ((65:Int)≤n6)) then
(J 2 [(0,(AV.s x0)),(3,x3),(4,(AV.i .i64 x4)),(5,(AV.i .u8 n6)),(20,(AV.b (decide ((n6:Int)≤90))))] h)
else
(J 2 [(0,(AV.s x0)),(3,x3),(4,(AV.i .i64 x4)),(5,(AV.i .u8 n6)),(20,(AV.b false))] h)))
else
(cE x3 h fun l20=>
Q (AV.s l20) h))
theorem Y26.i0 {Q x0 x3 x4 h} (H:Y26.t0 Q x0 x3 x4 h (Y26.J Q)):Y26.p0 Q x0 x3 x4 h:=gH Y26.J Tryz.f73 Y26.dist [1,1,0,1,0] H
def Y26.t (Q:AV→aA→Prop) (x0:List UInt8) (h:aA) (J:JT):Prop:=
J 1 [(0,(AV.s x0)),(3,(AV.sl none 0 none)),(4,(AV.i .i64 0))] h
theorem Y26.call {K x0 h} (H:Y26.t (aI h K) x0 h (Y26.J (aI h K))):C Y26.id [(AV.s x0)] h K:=
 gC Y26.J Tryz.func73 Y26.dist H
noncomputable def Y38.body:Code:=(Tryz.f74.body).getD .skip
def Y38.ann:Ann:=(sl [0] (sq [0] (sl [0,4] (.br (sl [2] lf) lf)) (sq [0] (.seq 1 [0,13] lf (.br (sl [2] lf) lf)) (sq [] (.seq 2 [0,22] lf (.br (sl [2] lf) lf)) (sl [2] lf)))))
theorem Y38.dist:aT (places Y38.ann Y38.body)=true:=by kernel_rfl
noncomputable def Y38.J (Q:AV→aA→Prop):JT:=b4 prog C Tryz.f74 Y38.ann Y38.body Q
def Y38.p0 (Q:AV→aA→Prop) (x0:Int) (x13:Bool) (h:aA):Prop:=Y38.J Q 1 [(0,(AV.i .u8 x0)),(13,(AV.b x13))] h
def Y38.p1 (Q:AV→aA→Prop) (x0:Int) (x22:Bool) (h:aA):Prop:=Y38.J Q 2 [(0,(AV.i .u8 x0)),(22,(AV.b x22))] h
def Y38.t0 (Q:AV→aA→Prop) (x0:Int) (x13:Bool) (h:aA) (J:JT):Prop:=
(bif x13 then
(aQ (IntKind.wrap .i64 ((IntKind.wrap .i64 x0) - 87)) fun n10=>
Q (AV.i .i64 n10) h)
else
((bif (decide ((65:Int)≤x0)) then
(J 2 [(0,(AV.i .u8 x0)),(22,(AV.b (decide ((x0:Int)≤70))))] h)
else
(J 2 [(0,(AV.i .u8 x0)),(22,(AV.b false))] h))))
theorem Y38.i0 {Q x0 x13 h} (H:Y38.t0 Q x0 x13 h (Y38.J Q)):Y38.p0 Q x0 x13 h:=gR Y38.J Tryz.f74 Y38.dist [1,1,0,1] H
def Y38.t1 (Q:AV→aA→Prop) (x0:Int) (x22:Bool) (h:aA) (J:JT):Prop:=
(bif x22 then
(aQ (IntKind.wrap .i64 ((IntKind.wrap .i64 x0) - 55)) fun n15=>
Q (AV.i .i64 n15) h)
else
(Q (AV.i .i64 (-1)) h))
theorem Y38.i1 {Q x0 x22 h} (H:Y38.t1 Q x0 x22 h (Y38.J Q)):Y38.p1 Q x0 x22 h:=gR Y38.J Tryz.f74 Y38.dist [1,1,1,0,1] H
def Y38.t (Q:AV→aA→Prop) (x0:Int) (h:aA) (J:JT):Prop:=
C Y66.id [(AV.i .u8 x0)] h fun v1 h2=>
asB v1 fun c3=>
(bif c3 then
(aQ (IntKind.wrap .i64 ((IntKind.wrap .i64 x0) - 48)) fun n5=>
Q (AV.i .i64 n5) h2)
else
((bif (decide ((97:Int)≤x0)) then
(J 1 [(0,(AV.i .u8 x0)),(13,(AV.b (decide ((x0:Int)≤102))))] h2)
else
(J 1 [(0,(AV.i .u8 x0)),(13,(AV.b false))] h2))))
theorem Y38.call {K x0 h} (H:Y38.t (aI h K) x0 h (Y38.J (aI h K))):C Y38.id [(AV.i .u8 x0)] h K:=
 gC Y38.J Tryz.func74 Y38.dist H
noncomputable def Y1.body:Code:=(Tryz.f75.body).getD .skip
def Y1.ann:Ann:=(sl [0] (sl [0,4] (sq [0,4] (sl [0,4,13] (.br (sl [2,3] lf) lf)) (sl [0,4,5] (.one (.loop 1 [0,4,5] (.one (sl [0,4,5,6] (sq [0,4,5,6] (.one (.loop 2 [0,4,5,6] (sq [0,4,5,6] (.seq 3 [0,4,5,6,25] lf bl) (.one lf)))) (sl [0,4,6,7] (sq [0,4,6,7] (sl [0,4,6,7,9] (.seq 4 [0,4,6,7,44] lf (.br (sl [2,3] lf) lf))) (sl [0,4,5,7] (sl [0,4,5,7,10] (sq [0,4,5,7,10] (.one (.loop 5 [0,4,5,7,10] (sq [0,4,5,7,10] (.seq 6 [0,4,5,7,10,56] lf bl) (.one (sl [0,4,5,7,10,11] (sq [0,4,5,7,10,11] (.seq 7 [0,4,5,7,10,11,69] lf (.br (sl [2,3] lf) lf)) (.seq 9 [0,4,5,7,10] (sl [0,4,5,7,10,71] (.br (sl [0,4,5,7,10] (.seq 8 [0,4,5,7,10,95] lf (.br (sl [2,3] lf) lf))) lf)) (sl [0,4,5,7,10] lf)))))))) (sl [0,4,5] (sq [0,4,5] (sl [0,4,5,114] (.br (sl [2,3] lf) lf)) lf))))))))))))))))
theorem Y1.dist:aT (places Y1.ann Y1.body)=true:=by kernel_rfl
noncomputable def Y1.J (Q:AV→aA→Prop):JT:=b4 prog C Tryz.f75 Y1.ann Y1.body Q
def Y1.p2 (Q:AV→aA→Prop) (x0:List UInt8) (x4:AV) (x5 x6:Int) (x25:Bool) (h:aA):Prop:=Y1.J Q 3 [(0,(AV.s x0)),(4,x4),(5,(AV.i .i64 x5)),(6,(AV.i .i64 x6)),(25,(AV.b x25))] h
def Y1.p1 (Q:AV→aA→Prop) (x0:List UInt8) (x4:AV) (x5 x6:Int) (h:aA):Prop:=Y1.J Q 2 [(0,(AV.s x0)),(4,x4),(5,(AV.i .i64 x5)),(6,(AV.i .i64 x6))] h
def Y1.p3 (Q:AV→aA→Prop) (x0:List UInt8) (x4:AV) (x6:Int) (x7:List UInt8) (x44:Bool) (h:aA):Prop:=Y1.J Q 4 [(0,(AV.s x0)),(4,x4),(6,(AV.i .i64 x6)),(7,(AV.s x7)),(44,(AV.b x44))] h
def Y1.p5 (Q:AV→aA→Prop) (x0:List UInt8) (x4:AV) (x5:Int) (x7 x10:List UInt8) (x56:Bool) (h:aA):Prop:=Y1.J Q 6 [(0,(AV.s x0)),(4,x4),(5,(AV.i .i64 x5)),(7,(AV.s x7)),(10,(AV.s x10)),(56,(AV.b x56))] h
def Y1.p6 (Q:AV→aA→Prop) (x0:List UInt8) (x4:AV) (x5:Int) (x7 x10:List UInt8) (x11:Int) (x69:Bool) (h:aA):Prop:=Y1.J Q 7 [(0,(AV.s x0)),(4,x4),(5,(AV.i .i64 x5)),(7,(AV.s x7)),(10,(AV.s x10)),(11,(AV.i .u8 x11)),(69,(AV.b x69))] h
def Y1.p7 (Q:AV→aA→Prop) (x0:List UInt8) (x4:AV) (x5:Int) (x7 x10:List UInt8) (x95:Bool) (h:aA):Prop:=Y1.J Q 8 [(0,(AV.s x0)),(4,x4),(5,(AV.i .i64 x5)),(7,(AV.s x7)),(10,(AV.s x10)),(95,(AV.b x95))] h
def Y1.p8 (Q:AV→aA→Prop) (x0:List UInt8) (x4:AV) (x5:Int) (x7 x10:List UInt8) (h:aA):Prop:=Y1.J Q 9 [(0,(AV.s x0)),(4,x4),(5,(AV.i .i64 x5)),(7,(AV.s x7)),(10,(AV.s x10))] h
def Y1.p4 (Q:AV→aA→Prop) (x0:List UInt8) (x4:AV) (x5:Int) (x7 x10:List UInt8) (h:aA):Prop:=Y1.J Q 5 [(0,(AV.s x0)),(4,x4),(5,(AV.i .i64 x5)),(7,(AV.s x7)),(10,(AV.s x10))] h
def Y1.p0 (Q:AV→aA→Prop) (x0:List UInt8) (x4:AV) (x5:Int) (h:aA):Prop:=Y1.J Q 1 [(0,(AV.s x0)),(4,x4),(5,(AV.i .i64 x5))] h
def Y1.t2 (Q:AV→aA→Prop) (x0:List UInt8) (x4:AV) (x5 x6:Int) (x25:Bool) (h:aA) (J:JT):Prop:=
(bif x25 then
(aQ (IntKind.wrap .i64 (x6+1)) fun n12=>
J 2 [(0,(AV.s x0)),(4,x4),(5,(AV.i .i64 x5)),(6,(AV.i .i64 n12))] h)
else
(bW (AV.s x0) (some (AV.i .i64 x5)) (some (AV.i .i64 x6)) fun l14=>
C Y75.id [(AV.s l14)] h fun v16 h17=>
aH 0 v16 fun v18=>
asS v18 fun l19=>
aH 1 v16 fun v20=>
asB v20 fun c21=>
(bif (!c21) then
(J 4 [(0,(AV.s x0)),(4,x4),(6,(AV.i .i64 x6)),(7,(AV.s l14)),(44,(AV.b true))] h17)
else
(J 4 [(0,(AV.s x0)),(4,x4),(6,(AV.i .i64 x6)),(7,(AV.s l14)),(44,(AV.b (decide (((x0.length:Int):Int)≤x6))))] h17))))
theorem Y1.i2 {Q x0 x4 x5 x6 x25 h} (H:Y1.t2 Q x0 x4 x5 x6 x25 h (Y1.J Q)):Y1.p2 Q x0 x4 x5 x6 x25 h:=gR Y1.J Tryz.f75 Y1.dist [1,1,1,1,0,0,0,1,0,0,0,0,1] H
def Y1.t1 (Q:AV→aA→Prop) (x0:List UInt8) (x4:AV) (x5 x6:Int) (h:aA) (J:JT):Prop:=
(bif (decide ((x6:Int)<(x0.length:Int))) then
(bT (AV.s x0) (AV.i .i64 x6) fun n7=>
J 3 [(0,(AV.s x0)),(4,x4),(5,(AV.i .i64 x5)),(6,(AV.i .i64 x6)),(25,(AV.b (!decide ((n7:Int)=61))))] h)
else
(J 3 [(0,(AV.s x0)),(4,x4),(5,(AV.i .i64 x5)),(6,(AV.i .i64 x6)),(25,(AV.b false))] h))
theorem Y1.i1 {Q x0 x4 x5 x6 h} (H:Y1.t1 Q x0 x4 x5 x6 h (Y1.J Q)):Y1.p1 Q x0 x4 x5 x6 h:=gH Y1.J Tryz.f75 Y1.dist [1,1,1,1,0,0,0,1,0,0] H
def Y1.t3 (Q:AV→aA→Prop) (x0:List UInt8) (x4:AV) (x6:Int) (x7:List UInt8) (x44:Bool) (h:aA) (J:JT):Prop:=
(bif x44 then
(Q (AV.tu [(AV.sl none 0 none),(AV.b false)]) h)
else
(aQ (IntKind.wrap .i64 (x6+1)) fun n27=>
J 5 [(0,(AV.s x0)),(4,x4),(5,(AV.i .i64 n27)),(7,(AV.s x7)),(10,(AV.s []))] h))
theorem Y1.i3 {Q x0 x4 x6 x7 x44 h} (H:Y1.t3 Q x0 x4 x6 x7 x44 h (Y1.J Q)):Y1.p3 Q x0 x4 x6 x7 x44 h:=gR Y1.J Tryz.f75 Y1.dist [1,1,1,1,0,0,0,1,1,1,0,1,1] H
def Y1.t5 (Q:AV→aA→Prop) (x0:List UInt8) (x4:AV) (x5:Int) (x7 x10:List UInt8) (x56:Bool) (h:aA) (J:JT):Prop:=
(bif x56 then
(bT (AV.s x0) (AV.i .i64 x5) fun n35=>
(bif (decide ((n35:Int)=61)) then
(J 7 [(0,(AV.s x0)),(4,x4),(5,(AV.i .i64 x5)),(7,(AV.s x7)),(10,(AV.s x10)),(11,(AV.i .u8 n35)),(69,(AV.b true))] h)
else
((bif (decide ((n35:Int)<32)) then
(J 7 [(0,(AV.s x0)),(4,x4),(5,(AV.i .i64 x5)),(7,(AV.s x7)),(10,(AV.s x10)),(11,(AV.i .u8 n35)),(69,(AV.b true))] h)
else
(J 7 [(0,(AV.s x0)),(4,x4),(5,(AV.i .i64 x5)),(7,(AV.s x7)),(10,(AV.s x10)),(11,(AV.i .u8 n35)),(69,(AV.b (decide ((126:Int)<n35))))] h)))))
else
(aN 2 1 [(AV.s []),(AV.s [])] [(0,2,(AV.ag [(AV.s x7),(AV.s x10)]))] h fun v61 h62=>
bN none 2 32 x4 v61 h62 fun v63 h64=>
(bif (decide (((x0.length:Int):Int)≤x5)) then
(Q (AV.tu [v63,(AV.b true)]) h64)
else
(aQ (IntKind.wrap .i64 (x5+1)) fun n69=>
J 1 [(0,(AV.s x0)),(4,v63),(5,(AV.i .i64 n69))] h64))))
theorem Y1.i5 {Q x0 x4 x5 x7 x10 x56 h} (H:Y1.t5 Q x0 x4 x5 x7 x10 x56 h (Y1.J Q)):Y1.p5 Q x0 x4 x5 x7 x10 x56 h:=gR Y1.J Tryz.f75 Y1.dist [1,1,1,1,0,0,0,1,1,1,1,1,1,0,0,0,0,1] H
def Y1.t6 (Q:AV→aA→Prop) (x0:List UInt8) (x4:AV) (x5:Int) (x7 x10:List UInt8) (x11:Int) (x69:Bool) (h:aA) (J:JT):Prop:=
(bif x69 then
(Q (AV.tu [(AV.sl none 0 none),(AV.b false)]) h)
else
((bif (decide ((x11:Int)=92)) then
(aQ (IntKind.wrap .i64 (x5+1)) fun n43=>
(bif (decide (((x0.length:Int):Int)≤n43)) then
(J 8 [(0,(AV.s x0)),(4,x4),(5,(AV.i .i64 n43)),(7,(AV.s x7)),(10,(AV.s x10)),(95,(AV.b true))] h)
else
(bT (AV.s x0) (AV.i .i64 n43) fun n46=>
(bif (!decide ((n46:Int)=44)) then
(bT (AV.s x0) (AV.i .i64 n43) fun n47=>
(bif (!decide ((n47:Int)=61)) then
(bT (AV.s x0) (AV.i .i64 n43) fun n48=>
J 8 [(0,(AV.s x0)),(4,x4),(5,(AV.i .i64 n43)),(7,(AV.s x7)),(10,(AV.s x10)),(95,(AV.b (!decide ((n48:Int)=92))))] h)
else
(J 8 [(0,(AV.s x0)),(4,x4),(5,(AV.i .i64 n43)),(7,(AV.s x7)),(10,(AV.s x10)),(95,(AV.b false))] h)))
else
(J 8 [(0,(AV.s x0)),(4,x4),(5,(AV.i .i64 n43)),(7,(AV.s x7)),(10,(AV.s x10)),(95,(AV.b false))] h)))))
else
(J 9 [(0,(AV.s x0)),(4,x4),(5,(AV.i .i64 x5)),(7,(AV.s x7)),(10,(AV.s x10))] h))))
theorem Y1.i6 {Q x0 x4 x5 x7 x10 x11 x69 h} (H:Y1.t6 Q x0 x4 x5 x7 x10 x11 x69 h (Y1.J Q)):Y1.p6 Q x0 x4 x5 x7 x10 x11 x69 h:=gR Y1.J Tryz.f75 Y1.dist [1,1,1,1,0,0,0,1,1,1,1,1,1,0,0,0,1,0,1,0,1] H
def Y1.t7 (Q:AV→aA→Prop) (x0:List UInt8) (x4:AV) (x5:Int) (x7 x10:List UInt8) (x95:Bool) (h:aA) (J:JT):Prop:=
(bif x95 then
(Q (AV.tu [(AV.sl none 0 none),(AV.b false)]) h)
else
(J 9 [(0,(AV.s x0)),(4,x4),(5,(AV.i .i64 x5)),(7,(AV.s x7)),(10,(AV.s x10))] h))
theorem Y1.i7 {Q x0 x4 x5 x7 x10 x95 h} (H:Y1.t7 Q x0 x4 x5 x7 x10 x95 h (Y1.J Q)):Y1.p7 Q x0 x4 x5 x7 x10 x95 h:=gR Y1.J Tryz.f75 Y1.dist [1,1,1,1,0,0,0,1,1,1,1,1,1,0,0,0,1,0,1,1,0,1,0,1,1] H
def Y1.t8 (Q:AV→aA→Prop) (x0:List UInt8) (x4:AV) (x5:Int) (x7 x10:List UInt8) (h:aA) (J:JT):Prop:=
aQ (IntKind.wrap .i64 (x5+1)) fun n55=>
bW (AV.s x0) (some (AV.i .i64 x5)) (some (AV.i .i64 n55)) fun l56=>
eC x10 l56 fun l57=>
aQ (IntKind.wrap .i64 (x5+1)) fun n59=>
J 5 [(0,(AV.s x0)),(4,x4),(5,(AV.i .i64 n59)),(7,(AV.s x7)),(10,(AV.s l57))] h
theorem Y1.i8 {Q x0 x4 x5 x7 x10 h} (H:Y1.t8 Q x0 x4 x5 x7 x10 h (Y1.J Q)):Y1.p8 Q x0 x4 x5 x7 x10 h:=gR Y1.J Tryz.f75 Y1.dist [1,1,1,1,0,0,0,1,1,1,1,1,1,0,0,0,1,0,1,1,1] H
def Y1.t4 (Q:AV→aA→Prop) (x0:List UInt8) (x4:AV) (x5:Int) (x7 x10:List UInt8) (h:aA) (J:JT):Prop:=
(bif (decide ((x5:Int)<(x0.length:Int))) then
(bT (AV.s x0) (AV.i .i64 x5) fun n30=>
J 6 [(0,(AV.s x0)),(4,x4),(5,(AV.i .i64 x5)),(7,(AV.s x7)),(10,(AV.s x10)),(56,(AV.b (!decide ((n30:Int)=44))))] h)
else
(J 6 [(0,(AV.s x0)),(4,x4),(5,(AV.i .i64 x5)),(7,(AV.s x7)),(10,(AV.s x10)),(56,(AV.b false))] h))
theorem Y1.i4 {Q x0 x4 x5 x7 x10 h} (H:Y1.t4 Q x0 x4 x5 x7 x10 h (Y1.J Q)):Y1.p4 Q x0 x4 x5 x7 x10 h:=gH Y1.J Tryz.f75 Y1.dist [1,1,1,1,0,0,0,1,1,1,1,1,1,0,0] H
def Y1.t0 (Q:AV→aA→Prop) (x0:List UInt8) (x4:AV) (x5:Int) (h:aA) (J:JT):Prop:=
J 2 [(0,(AV.s x0)),(4,x4),(5,(AV.i .i64 x5)),(6,(AV.i .i64 x5))] h
theorem Y1.i0 {Q x0 x4 x5 h} (H:Y1.t0 Q x0 x4 x5 h (Y1.J Q)):Y1.p0 Q x0 x4 x5 h:=gH Y1.J Tryz.f75 Y1.dist [1,1,1,1,0] H
def Y1.t (Q:AV→aA→Prop) (x0:List UInt8) (h:aA) (J:JT):Prop:=
(bif (decide ((x0:List UInt8)=[])) then
(Q (AV.tu [(AV.sl none 0 none),(AV.b true)]) h)
else
(J 1 [(0,(AV.s x0)),(4,(AV.sl none 0 none)),(5,(AV.i .i64 0))] h))
theorem Y1.call {K x0 h} (H:Y1.t (aI h K) x0 h (Y1.J (aI h K))):C Y1.id [(AV.s x0)] h K:=
 gC Y1.J Tryz.func75 Y1.dist H
noncomputable def Y75.body:Code:=(Tryz.f76.body).getD .skip
def Y75.ann:Ann:=(sl [0] (sq [] (sl [4] (.one (sl [4,5] (.br (sl [2,3] lf) (sl [4,7] (.br (sl [2,3] lf) (sl [4,9] (.br (sl [2,3] lf) (sl [11] (.br (sl [2,3] lf) lf)))))))))) (sl [2,3] lf)))
theorem Y75.dist:aT (places Y75.ann Y75.body)=true:=by kernel_rfl
noncomputable def Y75.J (Q:AV→aA→Prop):JT:=b4 prog C Tryz.f76 Y75.ann Y75.body Q
def Y75.t (Q:AV→aA→Prop) (x0:List UInt8) (h:aA) (J:JT):Prop:=
(bif (decide ((x0:List UInt8)=[67,78])) then
(Q (AV.tu [(AV.s [50,46,53,46,52,46,51]),(AV.b true)]) h)
else
((bif (decide ((x0:List UInt8)=[79])) then
(Q (AV.tu [(AV.s [50,46,53,46,52,46,49,48]),(AV.b true)]) h)
else
((bif (decide ((x0:List UInt8)=[79,85])) then
(Q (AV.tu [(AV.s [50,46,53,46,52,46,49,49]),(AV.b true)]) h)
else
((bif (decide ((x0:List UInt8)=[67])) then
(Q (AV.tu [(AV.s [50,46,53,46,52,46,54]),(AV.b true)]) h)
else
(Q (AV.tu [(AV.s []),(AV.b false)]) h))))))))
theorem Y75.call {K x0 h} (H:Y75.t (aI h K) x0 h (Y75.J (aI h K))):C Y75.id [(AV.s x0)] h K:=
 gC Y75.J Tryz.func76 Y75.dist H
noncomputable def Y20.body:Code:=(Tryz.f77.body).getD .skip
def Y20.ann:Ann:=(sl [0,1] (sl [0,1,5] (sl [0,1,5,6] (sq [5] (sl [0,1,5,6,7] (.one (.loop 1 [0,1,5,6,7] (sq [0,1,5,6,7] (sl [0,1,5,6,7,11] bl) (.seq 3 [0,1,5,6,7] (.one (.seq 2 [0,1,5,6,7,24] lf (.br (sl [0,1,5,7] lf) lf))) lf))))) (sl [4] lf)))))
theorem Y20.dist:aT (places Y20.ann Y20.body)=true:=by kernel_rfl
noncomputable def Y20.J (Q:AV→aA→Prop):JT:=b4 prog C Tryz.f77 Y20.ann Y20.body Q
def Y20.p1 (Q:AV→aA→Prop) (x0:List UInt8) (x1:Int) (x5:AV) (x6 x7:Int) (x24:Bool) (h:aA):Prop:=Y20.J Q 2 [(0,(AV.s x0)),(1,(AV.i .u8 x1)),(5,x5),(6,(AV.i .i64 x6)),(7,(AV.i .i64 x7)),(24,(AV.b x24))] h
def Y20.p2 (Q:AV→aA→Prop) (x0:List UInt8) (x1:Int) (x5:AV) (x6 x7:Int) (h:aA):Prop:=Y20.J Q 3 [(0,(AV.s x0)),(1,(AV.i .u8 x1)),(5,x5),(6,(AV.i .i64 x6)),(7,(AV.i .i64 x7))] h
def Y20.p0 (Q:AV→aA→Prop) (x0:List UInt8) (x1:Int) (x5:AV) (x6 x7:Int) (h:aA):Prop:=Y20.J Q 1 [(0,(AV.s x0)),(1,(AV.i .u8 x1)),(5,x5),(6,(AV.i .i64 x6)),(7,(AV.i .i64 x7))] h
def Y20.t1 (Q:AV→aA→Prop) (x0:List UInt8) (x1:Int) (x5:AV) (x6 x7:Int) (x24:Bool) (h:aA) (J:JT):Prop:=
(bif x24 then
(bW (AV.s x0) (some (AV.i .i64 x6)) (some (AV.i .i64 x7)) fun l10=>
aN 1 1 [(AV.s [])] [(0,1,(AV.s l10))] h fun v11 h12=>
bN none 1 16 x5 v11 h12 fun v13 h14=>
aQ (IntKind.wrap .i64 (x7+1)) fun n16=>
J 3 [(0,(AV.s x0)),(1,(AV.i .u8 x1)),(5,v13),(6,(AV.i .i64 n16)),(7,(AV.i .i64 x7))] h14)
else
(J 3 [(0,(AV.s x0)),(1,(AV.i .u8 x1)),(5,x5),(6,(AV.i .i64 x6)),(7,(AV.i .i64 x7))] h))
theorem Y20.i1 {Q x0 x1 x5 x6 x7 x24 h} (H:Y20.t1 Q x0 x1 x5 x6 x7 x24 h (Y20.J Q)):Y20.p1 Q x0 x1 x5 x6 x7 x24 h:=gR Y20.J Tryz.f77 Y20.dist [1,1,1,0,1,0,0,1,0,0,1] H
def Y20.t2 (Q:AV→aA→Prop) (x0:List UInt8) (x1:Int) (x5:AV) (x6 x7:Int) (h:aA) (J:JT):Prop:=
aQ (IntKind.wrap .i64 (x7+1)) fun n19=>
J 1 [(0,(AV.s x0)),(1,(AV.i .u8 x1)),(5,x5),(6,(AV.i .i64 x6)),(7,(AV.i .i64 n19))] h
theorem Y20.i2 {Q x0 x1 x5 x6 x7 h} (H:Y20.t2 Q x0 x1 x5 x6 x7 h (Y20.J Q)):Y20.p2 Q x0 x1 x5 x6 x7 h:=gR Y20.J Tryz.f77 Y20.dist [1,1,1,0,1,0,0,1,1] H
def Y20.t0 (Q:AV→aA→Prop) (x0:List UInt8) (x1:Int) (x5:AV) (x6 x7:Int) (h:aA) (J:JT):Prop:=
(bif (decide ((x7:Int)≤(x0.length:Int))) then
((bif (decide ((x7:Int)=(x0.length:Int))) then
(J 2 [(0,(AV.s x0)),(1,(AV.i .u8 x1)),(5,x5),(6,(AV.i .i64 x6)),(7,(AV.i .i64 x7)),(24,(AV.b true))] h)
else
(bT (AV.s x0) (AV.i .i64 x7) fun n8=>
J 2 [(0,(AV.s x0)),(1,(AV.i .u8 x1)),(5,x5),(6,(AV.i .i64 x6)),(7,(AV.i .i64 x7)),(24,(AV.b (decide ((n8:Int)=x1))))] h)))
else
(Q x5 h))
theorem Y20.i0 {Q x0 x1 x5 x6 x7 h} (H:Y20.t0 Q x0 x1 x5 x6 x7 h (Y20.J Q)):Y20.p0 Q x0 x1 x5 x6 x7 h:=gH Y20.J Tryz.f77 Y20.dist [1,1,1,0,1,0] H
def Y20.t (Q:AV→aA→Prop) (x0:List UInt8) (x1:Int) (h:aA) (J:JT):Prop:=
J 1 [(0,(AV.s x0)),(1,(AV.i .u8 x1)),(5,(AV.sl none 0 none)),(6,(AV.i .i64 0)),(7,(AV.i .i64 0))] h
theorem Y20.call {K x0 x1 h} (H:Y20.t (aI h K) x0 x1 h (Y20.J (aI h K))):C Y20.id [(AV.s x0),(AV.i .u8 x1)] h K:=
 gC Y20.J Tryz.func77 Y20.dist H
noncomputable def Y23.body:Code:=(Tryz.f78.body).getD .skip
def Y23.ann:Ann:=(sl [0,1] (sq [0,1] (.seq 1 [0,1,19] lf (.br (sl [4] lf) lf)) (sl [0,1,5] (sq [1,5] (sl [0,1,5,6] (.one (.loop 2 [0,1,5,6] (sq [0,1,5,6] (sl [0,1,5,6,23] bl) (sq [0,1,5,6] (.one (sq [0,1,5,6] (.seq 3 [0,1,5,6,35] lf (.br (sl [4] lf) lf)) lf)) lf))))) (sq [5] (sl [5,49] (.br (sl [4] lf) lf)) (sl [4] lf))))))
theorem Y23.dist:aT (places Y23.ann Y23.body)=true:=by kernel_rfl
noncomputable def Y23.J (Q:AV→aA→Prop):JT:=b4 prog C Tryz.f78 Y23.ann Y23.body Q
def Y23.p0 (Q:AV→aA→Prop) (x0:List UInt8) (x1:Int) (x19:Bool) (h:aA):Prop:=Y23.J Q 1 [(0,(AV.s x0)),(1,(AV.i .i64 x1)),(19,(AV.b x19))] h
def Y23.p2 (Q:AV→aA→Prop) (x0:List UInt8) (x1 x5 x6:Int) (x35:Bool) (h:aA):Prop:=Y23.J Q 3 [(0,(AV.s x0)),(1,(AV.i .i64 x1)),(5,(AV.i .i64 x5)),(6,(AV.i .i64 x6)),(35,(AV.b x35))] h
def Y23.p1 (Q:AV→aA→Prop) (x0:List UInt8) (x1 x5 x6:Int) (h:aA):Prop:=Y23.J Q 2 [(0,(AV.s x0)),(1,(AV.i .i64 x1)),(5,(AV.i .i64 x5)),(6,(AV.i .i64 x6))] h
def Y23.t0 (Q:AV→aA→Prop) (x0:List UInt8) (x1:Int) (x19:Bool) (h:aA) (J:JT):Prop:=
(bif x19 then
(Q (AV.i .i64 (-1)) h)
else
(J 2 [(0,(AV.s x0)),(1,(AV.i .i64 x1)),(5,(AV.i .i64 0)),(6,(AV.i .i64 0))] h))
theorem Y23.i0 {Q x0 x1 x19 h} (H:Y23.t0 Q x0 x1 x19 h (Y23.J Q)):Y23.p0 Q x0 x1 x19 h:=gR Y23.J Tryz.f78 Y23.dist [1,0,1] H
def Y23.t2 (Q:AV→aA→Prop) (x0:List UInt8) (x1 x5 x6:Int) (x35:Bool) (h:aA) (J:JT):Prop:=
(bif x35 then
(Q (AV.i .i64 (-1)) h)
else
(aQ (IntKind.wrap .i64 (10 * x5)) fun n18=>
bT (AV.s x0) (AV.i .i64 x6) fun n19=>
aQ (IntKind.wrap .i64 (n18+(IntKind.wrap .i64 n19))) fun n20=>
aQ (IntKind.wrap .i64 (n20 - 48)) fun n21=>
aQ (IntKind.wrap .i64 (x1+1)) fun n22=>
aQ (IntKind.wrap .i64 (x6+1)) fun n24=>
J 2 [(0,(AV.s x0)),(1,(AV.i .i64 x1)),(5,(AV.i .i64 (mmI false n21 n22))),(6,(AV.i .i64 n24))] h))
theorem Y23.i2 {Q x0 x1 x5 x6 x35 h} (H:Y23.t2 Q x0 x1 x5 x6 x35 h (Y23.J Q)):Y23.p2 Q x0 x1 x5 x6 x35 h:=gR Y23.J Tryz.f78 Y23.dist [1,1,1,0,1,0,0,1,0,0,0,1] H
def Y23.t1 (Q:AV→aA→Prop) (x0:List UInt8) (x1 x5 x6:Int) (h:aA) (J:JT):Prop:=
(bif (decide ((x6:Int)<(x0.length:Int))) then
(bT (AV.s x0) (AV.i .i64 x6) fun n12=>
(bif (decide ((n12:Int)<48)) then
(J 3 [(0,(AV.s x0)),(1,(AV.i .i64 x1)),(5,(AV.i .i64 x5)),(6,(AV.i .i64 x6)),(35,(AV.b true))] h)
else
(bT (AV.s x0) (AV.i .i64 x6) fun n14=>
J 3 [(0,(AV.s x0)),(1,(AV.i .i64 x1)),(5,(AV.i .i64 x5)),(6,(AV.i .i64 x6)),(35,(AV.b (decide ((57:Int)<n14))))] h)))
else
((bif (decide ((x1:Int)<x5)) then
(Q (AV.i .i64 (-2)) h)
else
(Q (AV.i .i64 x5) h))))
theorem Y23.i1 {Q x0 x1 x5 x6 h} (H:Y23.t1 Q x0 x1 x5 x6 h (Y23.J Q)):Y23.p1 Q x0 x1 x5 x6 h:=gH Y23.J Tryz.f78 Y23.dist [1,1,1,0,1,0] H
def Y23.t (Q:AV→aA→Prop) (x0:List UInt8) (x1:Int) (h:aA) (J:JT):Prop:=
(bif (decide (((x0.length:Int):Int)=0)) then
(J 1 [(0,(AV.s x0)),(1,(AV.i .i64 x1)),(19,(AV.b true))] h)
else
((bif (decide ((1:Int)<(x0.length:Int))) then
(bT (AV.s x0) (AV.i .i64 0) fun n2=>
J 1 [(0,(AV.s x0)),(1,(AV.i .i64 x1)),(19,(AV.b (decide ((n2:Int)=48))))] h)
else
(J 1 [(0,(AV.s x0)),(1,(AV.i .i64 x1)),(19,(AV.b false))] h))))
theorem Y23.call {K x0 x1 h} (H:Y23.t (aI h K) x0 x1 h (Y23.J (aI h K))):C Y23.id [(AV.s x0),(AV.i .i64 x1)] h K:=
 gC Y23.J Tryz.func78 Y23.dist H
noncomputable def Y50.body:Code:=(Tryz.f79.body).getD .skip
def Y50.ann:Ann:=(sl [0] (sl [0,3] (sq [3] (sl [0,3] (.one (.loop 1 [0,3] (sq [0,3] (sl [0,3,11] bl) (sq [0,3] (.one lf) lf))))) (sl [2] lf))))
theorem Y50.dist:aT (places Y50.ann Y50.body)=true:=by kernel_rfl
noncomputable def Y50.J (Q:AV→aA→Prop):JT:=b4 prog C Tryz.f79 Y50.ann Y50.body Q
def Y50.p0 (Q:AV→aA→Prop) (x0:Int) (x3:AV) (h:aA):Prop:=Y50.J Q 1 [(0,(AV.i .i64 x0)),(3,x3)] h
def Y50.t0 (Q:AV→aA→Prop) (x0:Int) (x3:AV) (h:aA) (J:JT):Prop:=
(bif (decide ((0:Int)<x0)) then
(iJ x0 128 fun n10=>
aQ (IntKind.wrap .i64 (128+n10)) fun n11=>
aN 1 1 [(AV.i .u8 0)] [(0,1,(AV.i .u8 (IntKind.wrap .u8 n11)))] h fun v12 h13=>
bN (some 5) 1 1 v12 x3 h13 fun v14 h15=>
jK .i64 x0 128 fun n17=>
J 1 [(0,(AV.i .i64 n17)),(3,v14)] h15)
else
(cE x3 h fun l19=>
Q (AV.s l19) h))
theorem Y50.i0 {Q x0 x3 h} (H:Y50.t0 Q x0 x3 h (Y50.J Q)):Y50.p0 Q x0 x3 h:=gH Y50.J Tryz.f79 Y50.dist [1,1,0,1,0] H
def Y50.t (Q:AV→aA→Prop) (x0:Int) (h:aA) (J:JT):Prop:=
iJ x0 128 fun n1=>
aN 1 1 [(AV.i .u8 0)] [(0,1,(AV.i .u8 (IntKind.wrap .u8 n1)))] h fun v2 h3=>
jK .i64 x0 128 fun n5=>
J 1 [(0,(AV.i .i64 n5)),(3,v2)] h3
theorem Y50.call {K x0 h} (H:Y50.t (aI h K) x0 h (Y50.J (aI h K))):C Y50.id [(AV.i .i64 x0)] h K:=
 gC Y50.J Tryz.func79 Y50.dist H
noncomputable def Y58.body:Code:=(Tryz.f80.body).getD .skip
def Y58.ann:Ann:=(sl [0] (.seq 1 [2] lf lf))
theorem Y58.dist:aT (places Y58.ann Y58.body)=true:=by kernel_rfl
noncomputable def Y58.J (Q:AV→aA→Prop):JT:=b4 prog C Tryz.f80 Y58.ann Y58.body Q
def Y58.p0 (Q:AV→aA→Prop) (x2:Bool) (h:aA):Prop:=Y58.J Q 1 [(2,(AV.b x2))] h
def Y58.t0 (Q:AV→aA→Prop) (x2:Bool) (h:aA) (J:JT):Prop:=
Q (AV.b x2) h
theorem Y58.i0 {Q x2 h} (H:Y58.t0 Q x2 h (Y58.J Q)):Y58.p0 Q x2 h:=gR Y58.J Tryz.f80 Y58.dist [1,1] H
def Y58.t (Q:AV→aA→Prop) (x0:Int) (h:aA) (J:JT):Prop:=
iJ x0 4 fun n1=>
(bif (decide ((n1:Int)=0)) then
(iJ x0 100 fun n2=>
(bif (!decide ((n2:Int)=0)) then
(J 1 [(2,(AV.b true))] h)
else
(iJ x0 400 fun n4=>
J 1 [(2,(AV.b (decide ((n4:Int)=0))))] h)))
else
(J 1 [(2,(AV.b false))] h))
theorem Y58.call {K x0 h} (H:Y58.t (aI h K) x0 h (Y58.J (aI h K))):C Y58.id [(AV.i .i64 x0)] h K:=
 gC Y58.J Tryz.func80 Y58.dist H
noncomputable def Y52.body:Code:=(Tryz.f81.body).getD .skip
def Y52.ann:Ann:=(sl [0,1] (sq [] (sl [0,5] (.one (sl [0,5,6] (.br (sq [] (sl [9] (.br (sl [4] lf) lf)) (sl [4] lf)) (.seq 1 [10] (sl [5,10] (.br lf (sl [5,10] (.br lf (sl [5,10] bl))))) (.br (sl [4] lf) lf)))))) (sl [4] lf)))
theorem Y52.dist:aT (places Y52.ann Y52.body)=true:=by kernel_rfl
noncomputable def Y52.J (Q:AV→aA→Prop):JT:=b4 prog C Tryz.f81 Y52.ann Y52.body Q
def Y52.p0 (Q:AV→aA→Prop) (x10:Bool) (h:aA):Prop:=Y52.J Q 1 [(10,(AV.b x10))] h
def Y52.t0 (Q:AV→aA→Prop) (x10:Bool) (h:aA) (J:JT):Prop:=
(bif x10 then
(Q (AV.i .i64 30) h)
else
(Q (AV.i .i64 31) h))
theorem Y52.i0 {Q x10 h} (H:Y52.t0 Q x10 h (Y52.J Q)):Y52.p0 Q x10 h:=gR Y52.J Tryz.f81 Y52.dist [1,0,1,0,1,1,1] H
def Y52.t (Q:AV→aA→Prop) (x0 x1:Int) (h:aA) (J:JT):Prop:=
(bif (decide ((x1:Int)=2)) then
(C Y58.id [(AV.i .i64 x0)] h fun v3 h4=>
asB v3 fun c5=>
(bif c5 then
(Q (AV.i .i64 29) h4)
else
(Q (AV.i .i64 28) h4)))
else
((bif (decide ((x1:Int)=4)) then
(J 1 [(10,(AV.b (decide ((x1:Int)=4))))] h)
else
((bif (decide ((x1:Int)=6)) then
(J 1 [(10,(AV.b (decide ((x1:Int)=6))))] h)
else
((bif (decide ((x1:Int)=9)) then
(J 1 [(10,(AV.b (decide ((x1:Int)=9))))] h)
else
(J 1 [(10,(AV.b (decide ((x1:Int)=11))))] h))))))))
theorem Y52.call {K x0 x1 h} (H:Y52.t (aI h K) x0 x1 h (Y52.J (aI h K))):C Y52.id [(AV.i .i64 x0),(AV.i .i64 x1)] h K:=
 gC Y52.J Tryz.func81 Y52.dist H
noncomputable def Y72.body:Code:=(Tryz.f82.body).getD .skip
def Y72.ann:Ann:=(sl [0] (sl [2] lf))
theorem Y72.dist:aT (places Y72.ann Y72.body)=true:=by kernel_rfl
noncomputable def Y72.J (Q:AV→aA→Prop):JT:=b4 prog C Tryz.f82 Y72.ann Y72.body Q
def Y72.t (Q:AV→aA→Prop) (x0:Int) (h:aA) (J:JT):Prop:=
jK .i64 x0 10 fun n1=>
iJ n1 10 fun n2=>
aQ (IntKind.wrap .i64 (48+n2)) fun n3=>
iJ x0 10 fun n4=>
aQ (IntKind.wrap .i64 (48+n4)) fun n5=>
aN 1 2 [(AV.i .u8 0),(AV.i .u8 0)] [(0,1,(AV.i .u8 (IntKind.wrap .u8 n3))),(1,1,(AV.i .u8 (IntKind.wrap .u8 n5)))] h fun v6 h7=>
cE v6 h7 fun l8=>
Q (AV.s l8) h7
theorem Y72.call {K x0 h} (H:Y72.t (aI h K) x0 h (Y72.J (aI h K))):C Y72.id [(AV.i .i64 x0)] h K:=
 gC Y72.J Tryz.func82 Y72.dist H
noncomputable def Y100.body:Code:=(Tryz.f83.body).getD .skip
def Y100.ann:Ann:=(sl [0,1] (sq [0] (sl [0,1,7] (sl [0,1,7,12] (.br (sq [4,5,6] (.ord (nn 0 12 .done)) lf) lf))) (sl [4,5,6] lf)))
theorem Y100.dist:aT (places Y100.ann Y100.body)=true:=by kernel_rfl
noncomputable def Y100.J (Q:AV→aA→Prop):JT:=b4 prog C Tryz.f83 Y100.ann Y100.body Q
def Y100.t (Q:AV→aA→Prop) (x0 x1:List UInt8) (h:aA) (J:JT):Prop:=
C Y65.id [(AV.s x0),(AV.s x1)] h fun v1 h2=>
asI .i64 v1 fun n3=>
(bif (decide ((0:Int)≤n3)) then
(bW (AV.s x0) none (some (AV.i .i64 n3)) fun l6=>
aQ (IntKind.wrap .i64 (n3+(x1.length:Int))) fun n7=>
bW (AV.s x0) (some (AV.i .i64 n7)) none fun l8=>
Q (AV.tu [(AV.s l6),(AV.s l8),(AV.b true)]) h2)
else
(Q (AV.tu [(AV.s x0),(AV.s []),(AV.b false)]) h2))
theorem Y100.call {K x0 x1 h} (H:Y100.t (aI h K) x0 x1 h (Y100.J (aI h K))):C Y100.id [(AV.s x0),(AV.s x1)] h K:=
 gC Y100.J Tryz.func83 Y100.dist H
end Go.Proofs.YtcdkpkkdolmfdaaGreatDoor
