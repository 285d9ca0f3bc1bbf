/- Lemmas (several texts in one). -/
import Derived.Test.YtcdkpkkdolmfdaaGreatDoorMg3
set_option linter.unusedVariables false
set_option linter.unusedSectionVars false
set_option maxRecDepth 100000
namespace Go.Proofs.YtcdkpkkdolmfdaaGreatDoor
open Go.GAM
variable [XR]
noncomputable def Y0.body:Code:=(Tryz.f57.body).getD .skip
def Y0.ann:Ann:=(sl [0,1,4] (sl [0,4,16,17,18] (.one (.loop 1 [0,4,16,17,18] (sl [0,4,16,17,18,19] (sq [0,4,16,17,18] bl (.seq 11 [0,4,16,17,18] (.one (sl [0,4,6,16,17,18] (sl [0,4,6,7,16,17,18] (sq [0,4,6,7,16,17,18] (.seq 2 [0,4,6,7,16,17,18,38] lf bl) (sl [0,4,6,7,8,9,16,17,18] (.seq 3 [0,4,6,7,8,9,10,16,17,18] (.ord (nn 0 8 (.eff 8 (nn 9 11 .done) .stop))) (sq [0,4,6,7,8,16,17,18] (.seq 4 [0,4,6,7,8,16,17,18,82] (.ord (nn 0 13 (.eff 13 (.neu 14 (.eff 15 (.neu 16 .done) .stop)) .stop))) bl) (sq [0,4,6,7,8,16,17,18] (.seq 5 [0,4,6,7,8,16,17,18,93] lf bl) (sl [0,4,6,7,8,16,17,18] (sl [0,4,8,11,12,16,17,18] (sq [0,4,8,11,16,17,18] (.seq 6 [0,4,8,11,16,17,18,116] lf bl) (sq [0,4,11,16,17,18] (sl [0,4,11,16,17,18,118] (.br (.seq 7 [0,4,16,17,18] (.ord (nn 0 11 (.eff 11 (nn 12 21 (.eff 33 .done .stop)) .stop))) lf) lf)) (sl [0,4,16,17,18,153,154,155] (.one (.loop 8 [0,4,16,17,18,153,154,155] (sl [0,4,16,17,18,153,154,155,156] (sq [0,4,16,17,18,153,154,155] bl (.seq 10 [0,4,16,17,18,153,154,155] (.one (sl [0,4,14,16,17,18,153,154,155] (.seq 9 [0,4,14,16,17,18,153,154,155,170] lf (.br (.ord (nn 0 8 (.eff 8 (.eff 9 (.eff 10 (nn 11 3 (.eff 14 .done .stop)) .stop) .stop) .stop))) lf)))) lf)))))))))))))))))) lf)))))))
theorem Y0.dist:aV (places Y0.ann Y0.body)=true:=by kernel_rfl
noncomputable def Y0.J (Q:AV→aA→Prop):JT:=bY prog C Tryz.f57 Y0.ann Y0.body Q
def Y0.p1 (Q:AV→aA→Prop) (x0 x4 x6:AV) (x7:Int) (x16:AV) (x17 x18:Int) (x38:Bool) (h:aA):Prop:=Y0.J Q 2 [(0,x0),(4,x4),(6,x6),(7,(AV.i .i64 x7)),(16,x16),(17,(AV.i .i64 x17)),(18,(AV.i .i64 x18)),(38,(AV.b x38))] h
def Y0.p3 (Q:AV→aA→Prop) (x0 x4 x6:AV) (x7:Int) (x8:List UInt8) (x16:AV) (x17 x18:Int) (x82:Bool) (h:aA):Prop:=Y0.J Q 4 [(0,x0),(4,x4),(6,x6),(7,(AV.i .i64 x7)),(8,(AV.s x8)),(16,x16),(17,(AV.i .i64 x17)),(18,(AV.i .i64 x18)),(82,(AV.b x82))] h
def Y0.p4 (Q:AV→aA→Prop) (x0 x4 x6:AV) (x7:Int) (x8:List UInt8) (x16:AV) (x17 x18:Int) (x93:Bool) (h:aA):Prop:=Y0.J Q 5 [(0,x0),(4,x4),(6,x6),(7,(AV.i .i64 x7)),(8,(AV.s x8)),(16,x16),(17,(AV.i .i64 x17)),(18,(AV.i .i64 x18)),(93,(AV.b x93))] h
def Y0.p5 (Q:AV→aA→Prop) (x0 x4:AV) (x8:List UInt8) (x11 x16:AV) (x17 x18:Int) (x116:Bool) (h:aA):Prop:=Y0.J Q 6 [(0,x0),(4,x4),(8,(AV.s x8)),(11,x11),(16,x16),(17,(AV.i .i64 x17)),(18,(AV.i .i64 x18)),(116,(AV.b x116))] h
def Y0.p6 (Q:AV→aA→Prop) (x0 x4 x16:AV) (x17 x18:Int) (h:aA):Prop:=Y0.J Q 7 [(0,x0),(4,x4),(16,x16),(17,(AV.i .i64 x17)),(18,(AV.i .i64 x18))] h
def Y0.p8 (Q:AV→aA→Prop) (x0 x4 x14 x16:AV) (x17 x18:Int) (x153:AV) (x154 x155:Int) (x170:Bool) (h:aA):Prop:=Y0.J Q 9 [(0,x0),(4,x4),(14,x14),(16,x16),(17,(AV.i .i64 x17)),(18,(AV.i .i64 x18)),(153,x153),(154,(AV.i .i64 x154)),(155,(AV.i .i64 x155)),(170,(AV.b x170))] h
def Y0.p9 (Q:AV→aA→Prop) (x0 x4 x16:AV) (x17 x18:Int) (x153:AV) (x154 x155:Int) (h:aA):Prop:=Y0.J Q 10 [(0,x0),(4,x4),(16,x16),(17,(AV.i .i64 x17)),(18,(AV.i .i64 x18)),(153,x153),(154,(AV.i .i64 x154)),(155,(AV.i .i64 x155))] h
def Y0.p7 (Q:AV→aA→Prop) (x0 x4 x16:AV) (x17 x18:Int) (x153:AV) (x154 x155:Int) (h:aA):Prop:=Y0.J Q 8 [(0,x0),(4,x4),(16,x16),(17,(AV.i .i64 x17)),(18,(AV.i .i64 x18)),(153,x153),(154,(AV.i .i64 x154)),(155,(AV.i .i64 x155))] h
def Y0.p2 (Q:AV→aA→Prop) (x0 x4 x6:AV) (x7:Int) (x8:List UInt8) (x9 x10:Bool) (x16:AV) (x17 x18:Int) (h:aA):Prop:=Y0.J Q 3 [(0,x0),(4,x4),(6,x6),(7,(AV.i .i64 x7)),(8,(AV.s x8)),(9,(AV.b x9)),(10,(AV.b x10)),(16,x16),(17,(AV.i .i64 x17)),(18,(AV.i .i64 x18))] h
def Y0.p10 (Q:AV→aA→Prop) (x0 x4 x16:AV) (x17 x18:Int) (h:aA):Prop:=Y0.J Q 11 [(0,x0),(4,x4),(16,x16),(17,(AV.i .i64 x17)),(18,(AV.i .i64 x18))] h
def Y0.p0 (Q:AV→aA→Prop) (x0 x4 x16:AV) (x17 x18:Int) (h:aA):Prop:=Y0.J Q 1 [(0,x0),(4,x4),(16,x16),(17,(AV.i .i64 x17)),(18,(AV.i .i64 x18))] h
def Y0.t1 (Q:AV→aA→Prop) (x0 x4 x6:AV) (x7:Int) (x16:AV) (x17 x18:Int) (x38:Bool) (h:aA) (J:JT):Prop:=
(bif x38 then
(Q (AV.tu []) h)
else
(aC 4 x6 fun v35=>
aE v35 h fun v36=>
aB 5 v36 (AV.i .i64 0) h fun v37=>
aD 5 v37 h fun v38=>
C Y9.id [v38] h fun v39 h40=>
aH 0 v39 fun v41=>
asS v41 fun l42=>
aH 1 v39 fun v43=>
asB v43 fun c44=>
(bif (decide ((x7:Int)=2)) then
(J 3 [(0,x0),(4,x4),(6,x6),(7,(AV.i .i64 x7)),(8,(AV.s l42)),(9,(AV.b c44)),(10,(AV.b true)),(16,x16),(17,(AV.i .i64 x17)),(18,(AV.i .i64 x18))] h40)
else
(aD 3 (bE h40 5) h40 fun v47=>
aC 4 x6 fun v48=>
aE v48 h40 fun v49=>
aB 5 v49 (AV.i .i64 1) h40 fun v50=>
aD 5 v50 h40 fun v51=>
C Y59.id [v47,v51] h40 fun v52 h53=>
asB v52 fun c54=>
aB 5 v49 (AV.i .i64 1) h53 fun v55=>
(v50=v55 ∧
(aE v48 h53 fun v56=>
(v49=v56 ∧
((bif c54 then
(aC 4 x6 fun v57=>
aE v57 h53 fun v58=>
aB 5 v58 (AV.i .i64 1) h53 fun v59=>
aC 3 v59 fun v60=>
aE v60 h53 fun v61=>
asS v61 fun l62=>
J 3 [(0,x0),(4,x4),(6,x6),(7,(AV.i .i64 x7)),(8,(AV.s l42)),(9,(AV.b c44)),(10,(AV.b (decide (((l62.length:Int):Int)=1)))),(16,x16),(17,(AV.i .i64 x17)),(18,(AV.i .i64 x18))] h53)
else
(J 3 [(0,x0),(4,x4),(6,x6),(7,(AV.i .i64 x7)),(8,(AV.s l42)),(9,(AV.b c44)),(10,(AV.b false)),(16,x16),(17,(AV.i .i64 x17)),(18,(AV.i .i64 x18))] h53))))))))))
theorem Y0.i1 {Q x0 x4 x6 x7 x16 x17 x18 x38 h} (H:Y0.t1 Q x0 x4 x6 x7 x16 x17 x18 x38 h (Y0.J Q)):Y0.p1 Q x0 x4 x6 x7 x16 x17 x18 x38 h:=gR Y0.J Tryz.f57 Y0.dist [1,1,0,0,1,1,0,0,1,1,0,1] H
def Y0.t3 (Q:AV→aA→Prop) (x0 x4 x6:AV) (x7:Int) (x8:List UInt8) (x16:AV) (x17 x18:Int) (x82:Bool) (h:aA) (J:JT):Prop:=
(bif x82 then
(Q (AV.tu []) h)
else
(j6 prog 9 4 false x4 (AV.s x8) h fun v93=>
asB v93 fun c94=>
(bif c94 then
(J 5 [(0,x0),(4,x4),(6,x6),(7,(AV.i .i64 x7)),(8,(AV.s x8)),(16,x16),(17,(AV.i .i64 x17)),(18,(AV.i .i64 x18)),(93,(AV.b true))] h)
else
(sX (!(decide ((x8:List UInt8)=[50,46,53,46,50,57,46,49,55]))) fun c96=>
(bif c96 then
(sX (!(decide ((x8:List UInt8)=[50,46,53,46,50,57,46,49,57]))) fun c97=>
J 5 [(0,x0),(4,x4),(6,x6),(7,(AV.i .i64 x7)),(8,(AV.s x8)),(16,x16),(17,(AV.i .i64 x17)),(18,(AV.i .i64 x18)),(93,(AV.b c97))] h)
else
(J 5 [(0,x0),(4,x4),(6,x6),(7,(AV.i .i64 x7)),(8,(AV.s x8)),(16,x16),(17,(AV.i .i64 x17)),(18,(AV.i .i64 x18)),(93,(AV.b false))] h))))))
theorem Y0.i3 {Q x0 x4 x6 x7 x8 x16 x17 x18 x82 h} (H:Y0.t3 Q x0 x4 x6 x7 x8 x16 x17 x18 x82 h (Y0.J Q)):Y0.p3 Q x0 x4 x6 x7 x8 x16 x17 x18 x82 h:=gR Y0.J Tryz.f57 Y0.dist [1,1,0,0,1,1,0,0,1,1,1,1,1,0,1] H
def Y0.t4 (Q:AV→aA→Prop) (x0 x4 x6:AV) (x7:Int) (x8:List UInt8) (x16:AV) (x17 x18:Int) (x93:Bool) (h:aA) (J:JT):Prop:=
(bif x93 then
(J 11 [(0,x0),(4,x4),(16,x16),(17,(AV.i .i64 x17)),(18,(AV.i .i64 x18))] h)
else
(kB prog 9 x4 (AV.s x8) (AV.b true) h fun h102=>
aC 4 x6 fun v104=>
aE v104 h102 fun v105=>
aR (IntKind.wrap .i64 (x7 - 1)) fun n106=>
aB 5 v105 (AV.i .i64 n106) h102 fun v107=>
aC 3 v107 fun v108=>
aE v108 h102 fun v109=>
asS v109 fun l110=>
C Y35.id [(AV.s l110)] h102 fun v111 h112=>
aH 0 v111 fun v113=>
aH 1 v111 fun v114=>
asI .i64 v114 fun n115=>
bS (some 33) [(AV.i .i64 0),(AV.i .i64 0),(AV.b false),(AV.s []),(AV.sl none 0 none)] h112 fun v116 h117=>
aP 5 v116 v113 h117 fun h118=>
(bif (decide ((n115:Int)=0)) then
(aD 3 (bE h118 0) h118 fun v120=>
aD 5 v116 h118 fun v121=>
C Y59.id [v120,v121] h118 fun v122 h123=>
asB v122 fun c124=>
C Y32.id [x0,(AV.b c124)] h123 fun v125 h126=>
asB v125 fun c127=>
J 6 [(0,x0),(4,x4),(8,(AV.s x8)),(11,v116),(16,x16),(17,(AV.i .i64 x17)),(18,(AV.i .i64 x18)),(116,(AV.b (!c127)))] h126)
else
(C Y32.id [x0,(AV.b false)] h118 fun v129 h130=>
asB v129 fun c131=>
J 6 [(0,x0),(4,x4),(8,(AV.s x8)),(11,v116),(16,x16),(17,(AV.i .i64 x17)),(18,(AV.i .i64 x18)),(116,(AV.b (!c131)))] h130))))
theorem Y0.i4 {Q x0 x4 x6 x7 x8 x16 x17 x18 x93 h} (H:Y0.t4 Q x0 x4 x6 x7 x8 x16 x17 x18 x93 h (Y0.J Q)):Y0.p4 Q x0 x4 x6 x7 x8 x16 x17 x18 x93 h:=gR Y0.J Tryz.f57 Y0.dist [1,1,0,0,1,1,0,0,1,1,1,1,1,1,0,1] H
def Y0.t5 (Q:AV→aA→Prop) (x0 x4:AV) (x8:List UInt8) (x11 x16:AV) (x17 x18:Int) (x116:Bool) (h:aA) (J:JT):Prop:=
(bif x116 then
(Q (AV.tu []) h)
else
(sX (decide ((x8:List UInt8)=[50,46,53,46,50,57,46,49,57])) fun c134=>
(bif c134 then
(aC 4 x11 fun v136=>
aE v136 h fun v137=>
bJ v137 fun n138=>
(bif (decide ((0:Int)<n138)) then
(aD 3 (bE h 5) h fun v139=>
aC 4 x11 fun v140=>
aE v140 h fun v141=>
aB 5 v141 (AV.i .i64 0) h fun v142=>
aD 5 v142 h fun v143=>
C Y59.id [v139,v143] h fun v144 h145=>
asB v144 fun c146=>
aB 5 v141 (AV.i .i64 0) h145 fun v147=>
(v142=v147 ∧
(aE v140 h145 fun v148=>
(v141=v148 ∧
(aE v136 h145 fun v149=>
(v137=v149 ∧
((bif c146 then
(aC 4 x11 fun v150=>
aE v150 h145 fun v151=>
aB 5 v151 (AV.i .i64 0) h145 fun v152=>
aC 3 v152 fun v153=>
aE v153 h145 fun v154=>
asS v154 fun l155=>
(bif (decide (((l155.length:Int):Int)=1)) then
(aC 4 x11 fun v156=>
aE v156 h145 fun v157=>
aB 5 v157 (AV.i .i64 0) h145 fun v158=>
aC 3 v158 fun v159=>
aE v159 h145 fun v160=>
asS v160 fun l161=>
cC x0 fun v162=>
aC 0 v162 fun v163=>
aC 6 v163 fun v164=>
aP 1 v164 (AV.b (!(decide ((l161:List UInt8)=[0])))) h145 fun h165=>
J 7 [(0,x0),(4,x4),(16,x16),(17,(AV.i .i64 x17)),(18,(AV.i .i64 x18))] h165)
else
(cC x0 fun v167=>
aC 0 v167 fun v168=>
aC 6 v168 fun v169=>
aP 1 v169 (AV.b false) h145 fun h170=>
J 7 [(0,x0),(4,x4),(16,x16),(17,(AV.i .i64 x17)),(18,(AV.i .i64 x18))] h170)))
else
(cC x0 fun v172=>
aC 0 v172 fun v173=>
aC 6 v173 fun v174=>
aP 1 v174 (AV.b false) h145 fun h175=>
J 7 [(0,x0),(4,x4),(16,x16),(17,(AV.i .i64 x17)),(18,(AV.i .i64 x18))] h175)))))))))
else
(cC x0 fun v177=>
aC 0 v177 fun v178=>
aC 6 v178 fun v179=>
aP 1 v179 (AV.b false) h fun h180=>
J 7 [(0,x0),(4,x4),(16,x16),(17,(AV.i .i64 x17)),(18,(AV.i .i64 x18))] h180)))
else
(aC 4 x11 fun v184=>
aE v184 h fun v185=>
bJ v185 fun n186=>
J 8 [(0,x0),(4,x4),(16,x16),(17,(AV.i .i64 x17)),(18,(AV.i .i64 x18)),(153,v185),(154,(AV.i .i64 n186)),(155,(AV.i .i64 0))] h))))
theorem Y0.i5 {Q x0 x4 x8 x11 x16 x17 x18 x116 h} (H:Y0.t5 Q x0 x4 x8 x11 x16 x17 x18 x116 h (Y0.J Q)):Y0.p5 Q x0 x4 x8 x11 x16 x17 x18 x116 h:=gR Y0.J Tryz.f57 Y0.dist [1,1,0,0,1,1,0,0,1,1,1,1,1,1,1,1,1,0,1] H
def Y0.t6 (Q:AV→aA→Prop) (x0 x4 x16:AV) (x17 x18:Int) (h:aA) (J:JT):Prop:=
J 11 [(0,x0),(4,x4),(16,x16),(17,(AV.i .i64 x17)),(18,(AV.i .i64 x18))] h
theorem Y0.i6 {Q x0 x4 x16 x17 x18 h} (H:Y0.t6 Q x0 x4 x16 x17 x18 h (Y0.J Q)):Y0.p6 Q x0 x4 x16 x17 x18 h:=gR Y0.J Tryz.f57 Y0.dist [1,1,0,0,1,1,0,0,1,1,1,1,1,1,1,1,1,1,0,1,0,1] H
def Y0.t8 (Q:AV→aA→Prop) (x0 x4 x14 x16:AV) (x17 x18:Int) (x153:AV) (x154 x155:Int) (x170:Bool) (h:aA) (J:JT):Prop:=
(bif x170 then
(cC x0 fun v209=>
aC 0 v209 fun v210=>
aC 5 v210 fun v211=>
aE v211 h fun v212=>
aC 3 x14 fun v213=>
aE v213 h fun v214=>
asS v214 fun l215=>
C Y22.id [(AV.s l215)] h fun v216 h217=>
asS v216 fun l218=>
aE v211 h217 fun v219=>
(v212=v219 ∧
(bD 1 1 [(AV.s [])] [(0,1,(AV.s l218))] h217 fun v220 h221=>
aE v213 h221 fun v222=>
asS v222 fun l223=>
((AV.s l215)=(AV.s l223) ∧
(aE v211 h221 fun v224=>
(v212=v224 ∧
(bQ none 1 16 v212 v220 h221 fun v225 h226=>
aE v213 h226 fun v227=>
asS v227 fun l228=>
((AV.s l215)=(AV.s l228) ∧
(cC x0 fun v229=>
aC 0 v229 fun v230=>
aC 5 v230 fun v231=>
aP 1 v231 v225 h226 fun h232=>
J 10 [(0,x0),(4,x4),(16,x16),(17,(AV.i .i64 x17)),(18,(AV.i .i64 x18)),(153,x153),(154,(AV.i .i64 x154)),(155,(AV.i .i64 x155))] h232)))))))))
else
(J 10 [(0,x0),(4,x4),(16,x16),(17,(AV.i .i64 x17)),(18,(AV.i .i64 x18)),(153,x153),(154,(AV.i .i64 x154)),(155,(AV.i .i64 x155))] h))
theorem Y0.i8 {Q x0 x4 x14 x16 x17 x18 x153 x154 x155 x170 h} (H:Y0.t8 Q x0 x4 x14 x16 x17 x18 x153 x154 x155 x170 h (Y0.J Q)):Y0.p8 Q x0 x4 x14 x16 x17 x18 x153 x154 x155 x170 h:=gR Y0.J Tryz.f57 Y0.dist [1,1,0,0,1,1,0,0,1,1,1,1,1,1,1,1,1,1,1,1,0,0,1,1,0,0,1,1] H
def Y0.t9 (Q:AV→aA→Prop) (x0 x4 x16:AV) (x17 x18:Int) (x153:AV) (x154 x155:Int) (h:aA) (J:JT):Prop:=
aR (IntKind.wrap .i64 (x155+1)) fun n235=>
J 8 [(0,x0),(4,x4),(16,x16),(17,(AV.i .i64 x17)),(18,(AV.i .i64 x18)),(153,x153),(154,(AV.i .i64 x154)),(155,(AV.i .i64 n235))] h
theorem Y0.i9 {Q x0 x4 x16 x17 x18 x153 x154 x155 h} (H:Y0.t9 Q x0 x4 x16 x17 x18 x153 x154 x155 h (Y0.J Q)):Y0.p9 Q x0 x4 x16 x17 x18 x153 x154 x155 h:=gR Y0.J Tryz.f57 Y0.dist [1,1,0,0,1,1,0,0,1,1,1,1,1,1,1,1,1,1,1,1,0,0,1,1,1] H
def Y0.t7 (Q:AV→aA→Prop) (x0 x4 x16:AV) (x17 x18:Int) (x153:AV) (x154 x155:Int) (h:aA) (J:JT):Prop:=
(bif (decide ((x155:Int)<x154)) then
(aB 5 x153 (AV.i .i64 x155) h fun v191=>
aD 5 v191 h fun v192=>
bS (some 33) [(AV.i .i64 0),(AV.i .i64 0),(AV.b false),(AV.s []),(AV.sl none 0 none)] h fun v193 h194=>
aP 5 v193 v192 h194 fun h195=>
aD 3 (bE h195 4) h195 fun v197=>
aD 5 v193 h195 fun v198=>
C Y59.id [v197,v198] h195 fun v199 h200=>
asB v199 fun c201=>
(bif c201 then
(cC x0 fun v202=>
aC 0 v202 fun v203=>
aC 5 v203 fun v204=>
aE v204 h200 fun v205=>
bJ v205 fun n206=>
J 9 [(0,x0),(4,x4),(14,v193),(16,x16),(17,(AV.i .i64 x17)),(18,(AV.i .i64 x18)),(153,x153),(154,(AV.i .i64 x154)),(155,(AV.i .i64 x155)),(170,(AV.b (decide ((n206:Int)<16))))] h200)
else
(J 9 [(0,x0),(4,x4),(14,v193),(16,x16),(17,(AV.i .i64 x17)),(18,(AV.i .i64 x18)),(153,x153),(154,(AV.i .i64 x154)),(155,(AV.i .i64 x155)),(170,(AV.b false))] h200)))
else
(J 11 [(0,x0),(4,x4),(16,x16),(17,(AV.i .i64 x17)),(18,(AV.i .i64 x18))] h))
theorem Y0.i7 {Q x0 x4 x16 x17 x18 x153 x154 x155 h} (H:Y0.t7 Q x0 x4 x16 x17 x18 x153 x154 x155 h (Y0.J Q)):Y0.p7 Q x0 x4 x16 x17 x18 x153 x154 x155 h:=gH Y0.J Tryz.f57 Y0.dist [1,1,0,0,1,1,0,0,1,1,1,1,1,1,1,1,1,1,1,1,0] H
def Y0.t2 (Q:AV→aA→Prop) (x0 x4 x6:AV) (x7:Int) (x8:List UInt8) (x9 x10:Bool) (x16:AV) (x17 x18:Int) (h:aA) (J:JT):Prop:=
(bif x9 then
((bif x10 then
(aD 3 (bE h 9) h fun v65=>
aC 4 x6 fun v66=>
aE v66 h fun v67=>
aR (IntKind.wrap .i64 (x7 - 1)) fun n68=>
aB 5 v67 (AV.i .i64 n68) h fun v69=>
aD 5 v69 h fun v70=>
C Y59.id [v65,v70] h fun v71 h72=>
asB v71 fun c73=>
aB 5 v67 (AV.i .i64 n68) h72 fun v74=>
(v69=v74 ∧
(aE v66 h72 fun v75=>
(v67=v75 ∧
(C Y32.id [x0,(AV.b c73)] h72 fun v76 h77=>
asB v76 fun c78=>
aD 5 v69 h77 fun v79=>
(v70=v79 ∧
(aB 5 v67 (AV.i .i64 n68) h77 fun v80=>
(v69=v80 ∧
(aE v66 h77 fun v81=>
(v67=v81 ∧
(aD 3 (bE h77 9) h77 fun v82=>
(v65=v82 ∧
(J 4 [(0,x0),(4,x4),(6,x6),(7,(AV.i .i64 x7)),(8,(AV.s x8)),(16,x16),(17,(AV.i .i64 x17)),(18,(AV.i .i64 x18)),(82,(AV.b (!c78)))] h77)))))))))))))
else
(C Y32.id [x0,(AV.b false)] h fun v84 h85=>
asB v84 fun c86=>
((AV.tu [])=(AV.tu []) ∧
(((AV.tu [])=(AV.tu []) ∧
(((AV.tu [])=(AV.tu []) ∧
(((AV.tu [])=(AV.tu []) ∧
(J 4 [(0,x0),(4,x4),(6,x6),(7,(AV.i .i64 x7)),(8,(AV.s x8)),(16,x16),(17,(AV.i .i64 x17)),(18,(AV.i .i64 x18)),(82,(AV.b (!c86)))] h85)))))))))))
else
(C Y32.id [x0,(AV.b false)] h fun v88 h89=>
asB v88 fun c90=>
((AV.tu [])=(AV.tu []) ∧
(((AV.tu [])=(AV.tu []) ∧
(((AV.tu [])=(AV.tu []) ∧
(((AV.tu [])=(AV.tu []) ∧
(J 4 [(0,x0),(4,x4),(6,x6),(7,(AV.i .i64 x7)),(8,(AV.s x8)),(16,x16),(17,(AV.i .i64 x17)),(18,(AV.i .i64 x18)),(82,(AV.b (!c90)))] h89))))))))))
theorem Y0.i2 {Q x0 x4 x6 x7 x8 x9 x10 x16 x17 x18 h} (H:Y0.t2 Q x0 x4 x6 x7 x8 x9 x10 x16 x17 x18 h (Y0.J Q)):Y0.p2 Q x0 x4 x6 x7 x8 x9 x10 x16 x17 x18 h:=gR Y0.J Tryz.f57 Y0.dist [1,1,0,0,1,1,0,0,1,1,1,1,1] H
def Y0.t10 (Q:AV→aA→Prop) (x0 x4 x16:AV) (x17 x18:Int) (h:aA) (J:JT):Prop:=
aR (IntKind.wrap .i64 (x18+1)) fun n237=>
J 1 [(0,x0),(4,x4),(16,x16),(17,(AV.i .i64 x17)),(18,(AV.i .i64 n237))] h
theorem Y0.i10 {Q x0 x4 x16 x17 x18 h} (H:Y0.t10 Q x0 x4 x16 x17 x18 h (Y0.J Q)):Y0.p10 Q x0 x4 x16 x17 x18 h:=gR Y0.J Tryz.f57 Y0.dist [1,1,0,0,1,1,1] H
def Y0.t0 (Q:AV→aA→Prop) (x0 x4 x16:AV) (x17 x18:Int) (h:aA) (J:JT):Prop:=
(bif (decide ((x18:Int)<x17)) then
(aB 5 x16 (AV.i .i64 x18) h fun v7=>
aD 5 v7 h fun v8=>
bS (some 33) [(AV.i .i64 0),(AV.i .i64 0),(AV.b false),(AV.s []),(AV.sl none 0 none)] h fun v9 h10=>
aP 5 v9 v8 h10 fun h11=>
aC 4 v9 fun v13=>
aE v13 h11 fun v14=>
bJ v14 fun n15=>
aD 3 (bE h11 0) h11 fun v17=>
aD 5 v9 h11 fun v18=>
C Y59.id [v17,v18] h11 fun v19 h20=>
asB v19 fun c21=>
(bif c21 then
((bif (decide ((n15:Int)=2)) then
(C Y32.id [x0,(AV.b true)] h20 fun v22 h23=>
asB v22 fun c24=>
J 2 [(0,x0),(4,x4),(6,v9),(7,(AV.i .i64 n15)),(16,x16),(17,(AV.i .i64 x17)),(18,(AV.i .i64 x18)),(38,(AV.b (!c24)))] h23)
else
(C Y32.id [x0,(AV.b (decide ((n15:Int)=3)))] h20 fun v26 h27=>
asB v26 fun c28=>
J 2 [(0,x0),(4,x4),(6,v9),(7,(AV.i .i64 n15)),(16,x16),(17,(AV.i .i64 x17)),(18,(AV.i .i64 x18)),(38,(AV.b (!c28)))] h27)))
else
(C Y32.id [x0,(AV.b false)] h20 fun v30 h31=>
asB v30 fun c32=>
J 2 [(0,x0),(4,x4),(6,v9),(7,(AV.i .i64 n15)),(16,x16),(17,(AV.i .i64 x17)),(18,(AV.i .i64 x18)),(38,(AV.b (!c32)))] h31)))
else
(Q (AV.tu []) h))
theorem Y0.i0 {Q x0 x4 x16 x17 x18 h} (H:Y0.t0 Q x0 x4 x16 x17 x18 h (Y0.J Q)):Y0.p0 Q x0 x4 x16 x17 x18 h:=gH Y0.J Tryz.f57 Y0.dist [1,1,0] H
def Y0.t (Q:AV→aA→Prop) (x0 x1:AV) (h:aA) (J:JT):Prop:=
rB h fun v0 h1=>
bJ x1 fun n3=>
J 1 [(0,x0),(4,v0),(16,x1),(17,(AV.i .i64 n3)),(18,(AV.i .i64 0))] h1
theorem Y0.call {K x0 x1 h} (H:Y0.t (aL h K) x0 x1 h (Y0.J (aL h K))):C Y0.id [x0,x1] h K:=
 gC Y0.J Tryz.func57 Y0.dist H
noncomputable def Y57.body:Code:=(Tryz.f58.body).getD .skip
def Y57.ann:Ann:=(sl [0,1,2,6] (sq [0,1,2,6] (sl [0,1,2,6,20] (.br (sl [6,7] lf) lf)) (sq [0,1,2,6,8] (.ord (nn 0 11 .done)) (sl [0,1,2,6,8] (sl [0,1,2,6,8] (sq [0,1,2,6,8] (.one (sl [0,1,2,6,8,46] (.br (sl [6,7] lf) (sl [0,1,2,6,8,51] (.br (sl [6,7] lf) (sl [0,1,2,6,8,55] (.br (sl [6,7] lf) lf))))))) (sl [0,1,2,6,8,9,10] (sq [0,1,2,6,8,9] (sl [0,1,2,6,8,9,10,69] (.br (sl [6,7] lf) lf)) (sq [0,2,6,8,9] (sl [0,2,6,8,9,79] (.br (sl [6,7] lf) lf)) (sl [0,2,6,9,11] (sl [0,2,6,11,12] (sq [0,2,6,11,12] (sl [0,2,6,11,12,98] (.br (sq [0,6,11,12] (.ord (nn 0 11 (.eff 11 .done .stop))) (sl [6,11] (sl [6,7] lf))) lf)) (sq [6,11] (.one (.loop 1 [0,2,6,11,12] (sq [0,2,6,11,12] (sl [0,2,6,11,12,120] bl) (.one (sl [0,2,6,11,12,13,14] (sq [0,2,6,11,12,13] (sl [0,2,6,11,12,13,14,130] (.br (sl [6,7] lf) lf)) lf)))))) (sl [6,7] lf))))))))))))))
theorem Y57.dist:aV (places Y57.ann Y57.body)=true:=by kernel_rfl
noncomputable def Y57.J (Q:AV→aA→Prop):JT:=bY prog C Tryz.f58 Y57.ann Y57.body Q
def Y57.p0 (Q:AV→aA→Prop) (x0:AV) (x2:Int) (x6 x11:AV) (x12:Int) (h:aA):Prop:=Y57.J Q 1 [(0,x0),(2,(AV.i .i64 x2)),(6,x6),(11,x11),(12,(AV.i .i64 x12))] h
def Y57.t0 (Q:AV→aA→Prop) (x0:AV) (x2:Int) (x6 x11:AV) (x12:Int) (h:aA) (J:JT):Prop:=
cC x0 fun v119=>
aC 1 v119 fun v120=>
aE v120 h fun v121=>
asI .i64 v121 fun n122=>
(bif (decide ((n122:Int)<x12)) then
(aR (IntKind.wrap .i64 (x2+1)) fun n126=>
C Y57.id [x0,(AV.i .i64 x12),(AV.i .i64 n126)] h fun v127 h128=>
aH 0 v127 fun v129=>
aH 1 v127 fun v130=>
asI .i64 v130 fun n131=>
bS (some 33) [(AV.i .i64 0),(AV.i .i64 0),(AV.b false),(AV.s []),(AV.sl none 0 none)] h128 fun v132 h133=>
aP 5 v132 v129 h133 fun h134=>
(bif (!decide ((n131:Int)=0)) then
(aP 5 x6 (AV.ag [(AV.i .i64 0),(AV.i .i64 0),(AV.b false),(AV.s []),(AV.sl none 0 none)]) h134 fun h137=>
aD 5 x6 h137 fun v139=>
Q (AV.tu [v139,(AV.i .i64 n131)]) h137)
else
(aC 4 x11 fun v141=>
aE v141 h134 fun v142=>
aD 5 v132 h134 fun v143=>
bD 5 1 [(AV.i .i64 0),(AV.i .i64 0),(AV.b false),(AV.s []),(AV.sl none 0 none)] [(0,5,v143)] h134 fun v144 h145=>
bQ none 5 64 v142 v144 h145 fun v146 h147=>
aC 4 x11 fun v148=>
aP 1 v148 v146 h147 fun h149=>
J 1 [(0,x0),(2,(AV.i .i64 x2)),(6,x6),(11,x11),(12,(AV.i .i64 x12))] h149)))
else
(aD 5 x11 h fun v151=>
aP 5 x6 v151 h fun h152=>
aD 5 x6 h152 fun v154=>
Q (AV.tu [v154,(AV.i .i64 0)]) h152))
theorem Y57.i0 {Q x0 x2 x6 x11 x12 h} (H:Y57.t0 Q x0 x2 x6 x11 x12 h (Y57.J Q)):Y57.p0 Q x0 x2 x6 x11 x12 h:=gH Y57.J Tryz.f58 Y57.dist [1,1,1,1,1,1,1,1,1,1,1,1,0,0] H
def Y57.t (Q:AV→aA→Prop) (x0:AV) (x1 x2:Int) (h:aA) (J:JT):Prop:=
bS (some 33) [(AV.i .i64 0),(AV.i .i64 0),(AV.b false),(AV.s []),(AV.sl none 0 none)] h fun v0 h1=>
cC x0 fun v3=>
aC 1 v3 fun v4=>
aE v4 h1 fun v5=>
asI .i64 v5 fun n6=>
(bif (decide ((x1:Int)≤n6)) then
(aP 5 v0 (AV.ag [(AV.i .i64 0),(AV.i .i64 0),(AV.b false),(AV.s []),(AV.sl none 0 none)]) h1 fun h8=>
aD 5 v0 h8 fun v10=>
Q (AV.tu [v10,(AV.i .i64 1)]) h8)
else
(cC x0 fun v12=>
aC 0 v12 fun v13=>
aE v13 h1 fun v14=>
asS v14 fun l15=>
cC x0 fun v16=>
aC 1 v16 fun v17=>
aE v17 h1 fun v18=>
asI .i64 v18 fun n19=>
bN (AV.s l15) (AV.i .i64 n19) fun n20=>
cC x0 fun v22=>
aC 1 v22 fun v23=>
aE v23 h1 fun v24=>
asI .i64 v24 fun n25=>
aR (IntKind.wrap .i64 (n25+1)) fun n26=>
cC x0 fun v27=>
aC 1 v27 fun v28=>
aP 1 v28 (AV.i .i64 n26) h1 fun h29=>
cC x0 fun v31=>
aC 2 v31 fun v32=>
aE v32 h29 fun v33=>
asI .i64 v33 fun n34=>
aR (IntKind.wrap .i64 (n34+1)) fun n35=>
cC x0 fun v36=>
aC 2 v36 fun v37=>
aP 1 v37 (AV.i .i64 n35) h29 fun h38=>
jQ (IntKind.wrap .i64 n20) 32 fun n40=>
(bif (decide ((n40:Int)=31)) then
(aP 5 v0 (AV.ag [(AV.i .i64 0),(AV.i .i64 0),(AV.b false),(AV.s []),(AV.sl none 0 none)]) h38 fun h42=>
aD 5 v0 h42 fun v44=>
Q (AV.tu [v44,(AV.i .i64 2)]) h42)
else
((bif (decide ((24:Int)<x2)) then
(aP 5 v0 (AV.ag [(AV.i .i64 0),(AV.i .i64 0),(AV.b false),(AV.s []),(AV.sl none 0 none)]) h38 fun h46=>
aD 5 v0 h46 fun v48=>
Q (AV.tu [v48,(AV.i .i64 9)]) h46)
else
(cC x0 fun v49=>
aC 2 v49 fun v50=>
aE v50 h38 fun v51=>
asI .i64 v51 fun n52=>
(bif (decide ((256:Int)<n52)) then
(aP 5 v0 (AV.ag [(AV.i .i64 0),(AV.i .i64 0),(AV.b false),(AV.s []),(AV.sl none 0 none)]) h38 fun h54=>
aD 5 v0 h54 fun v56=>
Q (AV.tu [v56,(AV.i .i64 3)]) h54)
else
(C Y31.id [x0,(AV.i .i64 x1)] h38 fun v58 h59=>
aH 0 v58 fun v60=>
asI .i64 v60 fun n61=>
aH 1 v58 fun v62=>
asI .i64 v62 fun n63=>
(bif (!decide ((n63:Int)=0)) then
(aP 5 v0 (AV.ag [(AV.i .i64 0),(AV.i .i64 0),(AV.b false),(AV.s []),(AV.sl none 0 none)]) h59 fun h66=>
aD 5 v0 h66 fun v68=>
Q (AV.tu [v68,(AV.i .i64 n63)]) h66)
else
(cC x0 fun v70=>
aC 1 v70 fun v71=>
aE v71 h59 fun v72=>
asI .i64 v72 fun n73=>
aR (IntKind.wrap .i64 (x1 - n73)) fun n74=>
(bif (decide ((n74:Int)<n61)) then
(aP 5 v0 (AV.ag [(AV.i .i64 0),(AV.i .i64 0),(AV.b false),(AV.s []),(AV.sl none 0 none)]) h59 fun h76=>
aD 5 v0 h76 fun v78=>
Q (AV.tu [v78,(AV.i .i64 1)]) h76)
else
(kS .i64 (IntKind.wrap .i64 n20) 64 fun n80=>
jQ (IntKind.wrap .i64 n20) 32 fun n81=>
kS .i64 (IntKind.wrap .i64 n20) 32 fun n82=>
jQ n82 2 fun n83=>
bS (some 33) [(AV.i .i64 0),(AV.i .i64 0),(AV.b false),(AV.s []),(AV.sl none 0 none)] h59 fun v84 h85=>
aP 5 v84 (AV.ag [(AV.i .i64 n80),(AV.i .i64 n81),(AV.b (decide ((n83:Int)=1))),(AV.s []),(AV.sl none 0 none)]) h85 fun h86=>
cC x0 fun v88=>
aC 1 v88 fun v89=>
aE v89 h86 fun v90=>
asI .i64 v90 fun n91=>
aR (IntKind.wrap .i64 (n91+n61)) fun n92=>
aC 2 v84 fun v94=>
aE v94 h86 fun v95=>
asB v95 fun c96=>
(bif (!c96) then
(cC x0 fun v98=>
aC 0 v98 fun v99=>
aE v99 h86 fun v100=>
asS v100 fun l101=>
cC x0 fun v102=>
aC 1 v102 fun v103=>
aE v103 h86 fun v104=>
asI .i64 v104 fun n105=>
bV (AV.s l101) (some (AV.i .i64 n105)) (some (AV.i .i64 n92)) fun l106=>
aC 3 v84 fun v107=>
aP 1 v107 (AV.s l106) h86 fun h108=>
cC x0 fun v110=>
aC 1 v110 fun v111=>
aP 1 v111 (AV.i .i64 n92) h108 fun h112=>
aD 5 v84 h112 fun v114=>
aP 5 v0 v114 h112 fun h115=>
aD 5 v0 h115 fun v117=>
Q (AV.tu [v117,(AV.i .i64 0)]) h115)
else
(J 1 [(0,x0),(2,(AV.i .i64 x2)),(6,v0),(11,v84),(12,(AV.i .i64 n92))] h86))))))))))))))
theorem Y57.call {K x0 x1 x2 h} (H:Y57.t (aL h K) x0 x1 x2 h (Y57.J (aL h K))):C Y57.id [x0,(AV.i .i64 x1),(AV.i .i64 x2)] h K:=
 gC Y57.J Tryz.func58 Y57.dist H
noncomputable def Y48.body:Code:=(Tryz.f59.body).getD .skip
def Y48.ann:Ann:=(sl [0] (sl [0,3] (sl [0,3,4] (sq [4] (sl [0,3,4,5] (.one (.loop 1 [0,3,4,5] (sq [0,3,4,5] (sl [0,3,4,5,11] bl) (sq [0,3,4,5] (.one (sl [0,3,4,5,6] (sl [0,3,4,5,6,7] (.ord (nn 0 13 (.eff 13 .done .stop)))))) lf))))) (sl [2] lf)))))
theorem Y48.dist:aV (places Y48.ann Y48.body)=true:=by kernel_rfl
noncomputable def Y48.J (Q:AV→aA→Prop):JT:=bY prog C Tryz.f59 Y48.ann Y48.body Q
def Y48.p0 (Q:AV→aA→Prop) (x0 x3 x4:List UInt8) (x5:Int) (h:aA):Prop:=Y48.J Q 1 [(0,(AV.s x0)),(3,(AV.s x3)),(4,(AV.s x4)),(5,(AV.i .i64 x5))] h
def Y48.t0 (Q:AV→aA→Prop) (x0 x3 x4:List UInt8) (x5:Int) (h:aA) (J:JT):Prop:=
(bif (decide ((x5:Int)<(x0.length:Int))) then
(bN (AV.s x0) (AV.i .i64 x5) fun n7=>
kS .i64 (IntKind.wrap .i64 n7) 16 fun n8=>
bN (AV.s x0) (AV.i .i64 x5) fun n10=>
jQ (IntKind.wrap .i64 n10) 16 fun n11=>
aR (IntKind.wrap .i64 (n8+1)) fun n13=>
bV (AV.s x3) (some (AV.i .i64 n8)) (some (AV.i .i64 n13)) fun l14=>
eI x4 l14 fun l15=>
aR (IntKind.wrap .i64 (n11+1)) fun n16=>
bV (AV.s x3) (some (AV.i .i64 n11)) (some (AV.i .i64 n16)) fun l17=>
eI l15 l17 fun l18=>
aR (IntKind.wrap .i64 (x5+1)) fun n20=>
J 1 [(0,(AV.s x0)),(3,(AV.s x3)),(4,(AV.s l18)),(5,(AV.i .i64 n20))] h)
else
(Q (AV.s x4) h))
theorem Y48.i0 {Q x0 x3 x4 x5 h} (H:Y48.t0 Q x0 x3 x4 x5 h (Y48.J Q)):Y48.p0 Q x0 x3 x4 x5 h:=gH Y48.J Tryz.f59 Y48.dist [1,1,1,0,1,0] H
def Y48.t (Q:AV→aA→Prop) (x0:List UInt8) (h:aA) (J:JT):Prop:=
J 1 [(0,(AV.s x0)),(3,(AV.s [48,49,50,51,52,53,54,55,56,57,97,98,99,100,101,102])),(4,(AV.s [])),(5,(AV.i .i64 0))] h
theorem Y48.call {K x0 h} (H:Y48.t (aL h K) x0 h (Y48.J (aL h K))):C Y48.id [(AV.s x0)] h K:=
 gC Y48.J Tryz.func59 Y48.dist H
noncomputable def Y3.body:Code:=(Tryz.f60.body).getD .skip
def Y3.ann:Ann:=(sl [1] (sq [1] (sl [1,14] (.br (sl [2,3] lf) lf)) (sl [1,4] (sq [4] (sl [1,4,5] (.one (.loop 1 [1,4,5] (sq [1,4,5] (sl [1,4,5,19] bl) (sq [1,4,5] (.one (sl [1,4,5,6] (sq [1,4,5,6] (.seq 2 [1,4,5,6,52] lf (.br (sl [2,3] lf) lf)) (sl [1,4,5,6,7,8] (sl [1,4,5,7,8,9,10] (sq [1,4,5,7,9] (.seq 3 [1,4,5,7,9,80] lf (.br (sl [2,3] lf) lf)) (.seq 4 [1,4,5,7,9] (sl [1,4,5,7,9,82] bl) (sl [1,4,5,9] (sl [1,4,5,9,11] (.one (.loop 5 [1,4,5,9,11] (sq [1,4,5,9,11] (sl [1,4,5,9,11,92] bl) (sq [1,4,5,9,11] (.one (.seq 7 [1,4,5,9,11] (.seq 6 [1,4,5,9,11,110] lf bl) lf)) lf))))))))))))) lf))))) (sl [2,3] lf)))))
theorem Y3.dist:aV (places Y3.ann Y3.body)=true:=by kernel_rfl
noncomputable def Y3.J (Q:AV→aA→Prop):JT:=bY prog C Tryz.f60 Y3.ann Y3.body Q
def Y3.p1 (Q:AV→aA→Prop) (x1:AV) (x4:List UInt8) (x5:Int) (x6:AV) (x52:Bool) (h:aA):Prop:=Y3.J Q 2 [(1,x1),(4,(AV.s x4)),(5,(AV.i .i64 x5)),(6,x6),(52,(AV.b x52))] h
def Y3.p2 (Q:AV→aA→Prop) (x1:AV) (x4:List UInt8) (x5:Int) (x7 x9:List UInt8) (x80:Bool) (h:aA):Prop:=Y3.J Q 3 [(1,x1),(4,(AV.s x4)),(5,(AV.i .i64 x5)),(7,(AV.s x7)),(9,(AV.s x9)),(80,(AV.b x80))] h
def Y3.p5 (Q:AV→aA→Prop) (x1:AV) (x4:List UInt8) (x5:Int) (x9:List UInt8) (x11:Int) (x110:Bool) (h:aA):Prop:=Y3.J Q 6 [(1,x1),(4,(AV.s x4)),(5,(AV.i .i64 x5)),(9,(AV.s x9)),(11,(AV.i .i64 x11)),(110,(AV.b x110))] h
def Y3.p6 (Q:AV→aA→Prop) (x1:AV) (x4:List UInt8) (x5:Int) (x9:List UInt8) (x11:Int) (h:aA):Prop:=Y3.J Q 7 [(1,x1),(4,(AV.s x4)),(5,(AV.i .i64 x5)),(9,(AV.s x9)),(11,(AV.i .i64 x11))] h
def Y3.p4 (Q:AV→aA→Prop) (x1:AV) (x4:List UInt8) (x5:Int) (x9:List UInt8) (x11:Int) (h:aA):Prop:=Y3.J Q 5 [(1,x1),(4,(AV.s x4)),(5,(AV.i .i64 x5)),(9,(AV.s x9)),(11,(AV.i .i64 x11))] h
def Y3.p3 (Q:AV→aA→Prop) (x1:AV) (x4:List UInt8) (x5:Int) (x7 x9:List UInt8) (h:aA):Prop:=Y3.J Q 4 [(1,x1),(4,(AV.s x4)),(5,(AV.i .i64 x5)),(7,(AV.s x7)),(9,(AV.s x9))] h
def Y3.p0 (Q:AV→aA→Prop) (x1:AV) (x4:List UInt8) (x5:Int) (h:aA):Prop:=Y3.J Q 1 [(1,x1),(4,(AV.s x4)),(5,(AV.i .i64 x5))] h
def Y3.t1 (Q:AV→aA→Prop) (x1:AV) (x4:List UInt8) (x5:Int) (x6:AV) (x52:Bool) (h:aA) (J:JT):Prop:=
(bif x52 then
(Q (AV.tu [(AV.s []),(AV.i .i64 2)]) h)
else
(aC 4 x6 fun v52=>
aE v52 h fun v53=>
aB 5 v53 (AV.i .i64 0) h fun v54=>
aC 4 v54 fun v55=>
aE v55 h fun v56=>
aB 5 v56 (AV.i .i64 0) h fun v57=>
aD 5 v57 h fun v58=>
C Y96.id [v58] h fun v59 h60=>
aH 0 v59 fun v61=>
asS v61 fun l62=>
aH 1 v59 fun v63=>
asB v63 fun c64=>
aC 4 x6 fun v66=>
aE v66 h60 fun v67=>
aB 5 v67 (AV.i .i64 0) h60 fun v68=>
aC 4 v68 fun v69=>
aE v69 h60 fun v70=>
aB 5 v70 (AV.i .i64 1) h60 fun v71=>
aD 5 v71 h60 fun v72=>
C Y28.id [v72] h60 fun v73 h74=>
aH 0 v73 fun v75=>
asS v75 fun l76=>
aH 1 v73 fun v77=>
asB v77 fun c78=>
(bif (!c64) then
(J 3 [(1,x1),(4,(AV.s x4)),(5,(AV.i .i64 x5)),(7,(AV.s l62)),(9,(AV.s l76)),(80,(AV.b true))] h74)
else
(J 3 [(1,x1),(4,(AV.s x4)),(5,(AV.i .i64 x5)),(7,(AV.s l62)),(9,(AV.s l76)),(80,(AV.b (!c78)))] h74))))
theorem Y3.i1 {Q x1 x4 x5 x6 x52 h} (H:Y3.t1 Q x1 x4 x5 x6 x52 h (Y3.J Q)):Y3.p1 Q x1 x4 x5 x6 x52 h:=gR Y3.J Tryz.f60 Y3.dist [1,1,1,0,1,0,0,1,0,0,1,0,1] H
def Y3.t2 (Q:AV→aA→Prop) (x1:AV) (x4:List UInt8) (x5:Int) (x7 x9:List UInt8) (x80:Bool) (h:aA) (J:JT):Prop:=
(bif x80 then
(Q (AV.tu [(AV.s []),(AV.i .i64 2)]) h)
else
((bif (decide ((0:Int)<x5)) then
(eI x4 [44] fun l85=>
J 4 [(1,x1),(4,(AV.s l85)),(5,(AV.i .i64 x5)),(7,(AV.s x7)),(9,(AV.s x9))] h)
else
(J 4 [(1,x1),(4,(AV.s x4)),(5,(AV.i .i64 x5)),(7,(AV.s x7)),(9,(AV.s x9))] h))))
theorem Y3.i2 {Q x1 x4 x5 x7 x9 x80 h} (H:Y3.t2 Q x1 x4 x5 x7 x9 x80 h (Y3.J Q)):Y3.p2 Q x1 x4 x5 x7 x9 x80 h:=gR Y3.J Tryz.f60 Y3.dist [1,1,1,0,1,0,0,1,0,0,1,1,1,1,0,1] H
def Y3.t5 (Q:AV→aA→Prop) (x1:AV) (x4:List UInt8) (x5:Int) (x9:List UInt8) (x11:Int) (x110:Bool) (h:aA) (J:JT):Prop:=
(bif x110 then
(eI x4 [92] fun l101=>
J 7 [(1,x1),(4,(AV.s l101)),(5,(AV.i .i64 x5)),(9,(AV.s x9)),(11,(AV.i .i64 x11))] h)
else
(J 7 [(1,x1),(4,(AV.s x4)),(5,(AV.i .i64 x5)),(9,(AV.s x9)),(11,(AV.i .i64 x11))] h))
theorem Y3.i5 {Q x1 x4 x5 x9 x11 x110 h} (H:Y3.t5 Q x1 x4 x5 x9 x11 x110 h (Y3.J Q)):Y3.p5 Q x1 x4 x5 x9 x11 x110 h:=gR Y3.J Tryz.f60 Y3.dist [1,1,1,0,1,0,0,1,0,0,1,1,1,1,1,1,1,1,0,0,1,0,0,0,1] H
def Y3.t6 (Q:AV→aA→Prop) (x1:AV) (x4:List UInt8) (x5:Int) (x9:List UInt8) (x11:Int) (h:aA) (J:JT):Prop:=
aR (IntKind.wrap .i64 (x11+1)) fun n104=>
bV (AV.s x9) (some (AV.i .i64 x11)) (some (AV.i .i64 n104)) fun l105=>
eI x4 l105 fun l106=>
aR (IntKind.wrap .i64 (x11+1)) fun n108=>
J 5 [(1,x1),(4,(AV.s l106)),(5,(AV.i .i64 x5)),(9,(AV.s x9)),(11,(AV.i .i64 n108))] h
theorem Y3.i6 {Q x1 x4 x5 x9 x11 h} (H:Y3.t6 Q x1 x4 x5 x9 x11 h (Y3.J Q)):Y3.p6 Q x1 x4 x5 x9 x11 h:=gR Y3.J Tryz.f60 Y3.dist [1,1,1,0,1,0,0,1,0,0,1,1,1,1,1,1,1,1,0,0,1,0,0,1] H
def Y3.t4 (Q:AV→aA→Prop) (x1:AV) (x4:List UInt8) (x5:Int) (x9:List UInt8) (x11:Int) (h:aA) (J:JT):Prop:=
(bif (decide ((x11:Int)<(x9.length:Int))) then
(bN (AV.s x9) (AV.i .i64 x11) fun n95=>
(bif (decide ((n95:Int)=44)) then
(J 6 [(1,x1),(4,(AV.s x4)),(5,(AV.i .i64 x5)),(9,(AV.s x9)),(11,(AV.i .i64 x11)),(110,(AV.b true))] h)
else
(bN (AV.s x9) (AV.i .i64 x11) fun n97=>
(bif (decide ((n97:Int)=61)) then
(J 6 [(1,x1),(4,(AV.s x4)),(5,(AV.i .i64 x5)),(9,(AV.s x9)),(11,(AV.i .i64 x11)),(110,(AV.b true))] h)
else
(bN (AV.s x9) (AV.i .i64 x11) fun n99=>
J 6 [(1,x1),(4,(AV.s x4)),(5,(AV.i .i64 x5)),(9,(AV.s x9)),(11,(AV.i .i64 x11)),(110,(AV.b (decide ((n99:Int)=92))))] h)))))
else
(aR (IntKind.wrap .i64 (x5+1)) fun n110=>
J 1 [(1,x1),(4,(AV.s x4)),(5,(AV.i .i64 n110))] h))
theorem Y3.i4 {Q x1 x4 x5 x9 x11 h} (H:Y3.t4 Q x1 x4 x5 x9 x11 h (Y3.J Q)):Y3.p4 Q x1 x4 x5 x9 x11 h:=gH Y3.J Tryz.f60 Y3.dist [1,1,1,0,1,0,0,1,0,0,1,1,1,1,1,1,1,1,0] H
def Y3.t3 (Q:AV→aA→Prop) (x1:AV) (x4:List UInt8) (x5:Int) (x7 x9:List UInt8) (h:aA) (J:JT):Prop:=
eI x4 x7 fun l88=>
eI l88 [61] fun l89=>
J 5 [(1,x1),(4,(AV.s l89)),(5,(AV.i .i64 x5)),(9,(AV.s x9)),(11,(AV.i .i64 0))] h
theorem Y3.i3 {Q x1 x4 x5 x7 x9 h} (H:Y3.t3 Q x1 x4 x5 x7 x9 h (Y3.J Q)):Y3.p3 Q x1 x4 x5 x7 x9 h:=gR Y3.J Tryz.f60 Y3.dist [1,1,1,0,1,0,0,1,0,0,1,1,1,1,1,1] H
def Y3.t0 (Q:AV→aA→Prop) (x1:AV) (x4:List UInt8) (x5:Int) (h:aA) (J:JT):Prop:=
aC 4 x1 fun v12=>
aE v12 h fun v13=>
bJ v13 fun n14=>
(bif (decide ((x5:Int)<n14)) then
(aC 4 x1 fun v18=>
aE v18 h fun v19=>
aB 5 v19 (AV.i .i64 x5) h fun v20=>
aD 5 v20 h fun v21=>
bS (some 33) [(AV.i .i64 0),(AV.i .i64 0),(AV.b false),(AV.s []),(AV.sl none 0 none)] h fun v22 h23=>
aP 5 v22 v21 h23 fun h24=>
aD 5 v22 h24 fun v26=>
C Y33.id [v26,(AV.i .i64 0),(AV.i .i64 17),(AV.b true)] h24 fun v27 h28=>
asB v27 fun c29=>
(bif (!c29) then
(J 2 [(1,x1),(4,(AV.s x4)),(5,(AV.i .i64 x5)),(6,v22),(52,(AV.b true))] h28)
else
(aC 4 v22 fun v31=>
aE v31 h28 fun v32=>
bJ v32 fun n33=>
(bif (!decide ((n33:Int)=1)) then
(J 2 [(1,x1),(4,(AV.s x4)),(5,(AV.i .i64 x5)),(6,v22),(52,(AV.b true))] h28)
else
(aC 4 v22 fun v35=>
aE v35 h28 fun v36=>
aB 5 v36 (AV.i .i64 0) h28 fun v37=>
aD 5 v37 h28 fun v38=>
C Y33.id [v38,(AV.i .i64 0),(AV.i .i64 16),(AV.b true)] h28 fun v39 h40=>
asB v39 fun c41=>
(bif (!c41) then
(J 2 [(1,x1),(4,(AV.s x4)),(5,(AV.i .i64 x5)),(6,v22),(52,(AV.b true))] h40)
else
(aC 4 v22 fun v43=>
aE v43 h40 fun v44=>
aB 5 v44 (AV.i .i64 0) h40 fun v45=>
aC 4 v45 fun v46=>
aE v46 h40 fun v47=>
bJ v47 fun n48=>
J 2 [(1,x1),(4,(AV.s x4)),(5,(AV.i .i64 x5)),(6,v22),(52,(AV.b (!decide ((n48:Int)=2))))] h40)))))))
else
(Q (AV.tu [(AV.s x4),(AV.i .i64 0)]) h))
theorem Y3.i0 {Q x1 x4 x5 h} (H:Y3.t0 Q x1 x4 x5 h (Y3.J Q)):Y3.p0 Q x1 x4 x5 h:=gH Y3.J Tryz.f60 Y3.dist [1,1,1,0,1,0] H
def Y3.t (Q:AV→aA→Prop) (x0:AV) (h:aA) (J:JT):Prop:=
dQ (some 33) x0 h fun v0 h1=>
aD 5 v0 h1 fun v3=>
C Y33.id [v3,(AV.i .i64 0),(AV.i .i64 16),(AV.b true)] h1 fun v4 h5=>
asB v4 fun c6=>
(bif (!c6) then
(Q (AV.tu [(AV.s []),(AV.i .i64 2)]) h5)
else
(J 1 [(1,v0),(4,(AV.s [])),(5,(AV.i .i64 0))] h5))
theorem Y3.call {K x0 h} (H:Y3.t (aL h K) x0 h (Y3.J (aL h K))):C Y3.id [x0] h K:=
 gC Y3.J Tryz.func60 Y3.dist H
noncomputable def Y4.body:Code:=(Tryz.f61.body).getD .skip
def Y4.ann:Ann:=(sl [1] (sl [1,4] (.seq 3 [4] (.one (.seq 1 [1,4,11] lf (.br (sl [4,21] bl) (.seq 2 [4,26] lf (.br lf (sl [2,3] lf)))))) (sq [4] (sl [4,36] (.br (sl [2,3] lf) lf)) (sl [4,5] (sl [4,5,6] (sq [5,6] (sl [4,5,6,7] (.one (.loop 4 [4,5,6,7] (sq [4,5,6,7] (sl [4,5,6,7,38] bl) (.seq 6 [4,5,6,7] (.one (sq [4,5,6,7] (.seq 5 [4,5,6,7,50] lf (.br (sl [2,3] lf) lf)) (sl [4,5,6,7,8] (sl [4,5,6,7,8,57] (.br lf (sl [4,5,6,7,8,64] bl)))))) lf))))) (sq [5,6] (.seq 7 [5,6,127] (.ord (nn 0 28 (.eff 28 (nn 29 20 .done) .stop))) (.br (sl [2,3] lf) lf)) (sq [2,3] (.ord (nn 0 16 (.eff 16 (nn 17 2 .done) .stop))) lf)))))))))
theorem Y4.dist:aV (places Y4.ann Y4.body)=true:=by kernel_rfl
noncomputable def Y4.J (Q:AV→aA→Prop):JT:=bY prog C Tryz.f61 Y4.ann Y4.body Q
def Y4.p1 (Q:AV→aA→Prop) (x4:List UInt8) (x26:Bool) (h:aA):Prop:=Y4.J Q 2 [(4,(AV.s x4)),(26,(AV.b x26))] h
def Y4.p0 (Q:AV→aA→Prop) (x1:AV) (x4:List UInt8) (x11:Bool) (h:aA):Prop:=Y4.J Q 1 [(1,x1),(4,(AV.s x4)),(11,(AV.b x11))] h
def Y4.p4 (Q:AV→aA→Prop) (x4:List UInt8) (x5:AV) (x6 x7:Int) (x50:Bool) (h:aA):Prop:=Y4.J Q 5 [(4,(AV.s x4)),(5,x5),(6,(AV.i .i64 x6)),(7,(AV.i .i64 x7)),(50,(AV.b x50))] h
def Y4.p5 (Q:AV→aA→Prop) (x4:List UInt8) (x5:AV) (x6 x7:Int) (h:aA):Prop:=Y4.J Q 6 [(4,(AV.s x4)),(5,x5),(6,(AV.i .i64 x6)),(7,(AV.i .i64 x7))] h
def Y4.p3 (Q:AV→aA→Prop) (x4:List UInt8) (x5:AV) (x6 x7:Int) (h:aA):Prop:=Y4.J Q 4 [(4,(AV.s x4)),(5,x5),(6,(AV.i .i64 x6)),(7,(AV.i .i64 x7))] h
def Y4.p6 (Q:AV→aA→Prop) (x5:AV) (x6:Int) (x127:Bool) (h:aA):Prop:=Y4.J Q 7 [(5,x5),(6,(AV.i .i64 x6)),(127,(AV.b x127))] h
def Y4.p2 (Q:AV→aA→Prop) (x4:List UInt8) (h:aA):Prop:=Y4.J Q 3 [(4,(AV.s x4))] h
def Y4.t1 (Q:AV→aA→Prop) (x4:List UInt8) (x26:Bool) (h:aA) (J:JT):Prop:=
(bif x26 then
(J 3 [(4,(AV.s x4))] h)
else
(Q (AV.tu [(AV.i .i64 0),(AV.b false)]) h))
theorem Y4.i1 {Q x4 x26 h} (H:Y4.t1 Q x4 x26 h (Y4.J Q)):Y4.p1 Q x4 x26 h:=gR Y4.J Tryz.f61 Y4.dist [1,1,0,0,1,1,1] H
def Y4.t0 (Q:AV→aA→Prop) (x1:AV) (x4:List UInt8) (x11:Bool) (h:aA) (J:JT):Prop:=
(bif x11 then
(bN (AV.s x4) (AV.i .i64 0) fun n13=>
(bif (decide ((53:Int)≤n13)) then
(eI [49,57] x4 fun l15=>
J 3 [(4,(AV.s l15))] h)
else
(eI [50,48] x4 fun l17=>
J 3 [(4,(AV.s l17))] h)))
else
(aD 5 x1 h fun v19=>
C Y44.id [v19,(AV.i .i64 24)] h fun v20 h21=>
asB v20 fun c22=>
(bif c22 then
(J 2 [(4,(AV.s x4)),(26,(AV.b (decide (((x4.length:Int):Int)=15))))] h21)
else
(J 2 [(4,(AV.s x4)),(26,(AV.b false))] h21))))
theorem Y4.i0 {Q x1 x4 x11 h} (H:Y4.t0 Q x1 x4 x11 h (Y4.J Q)):Y4.p0 Q x1 x4 x11 h:=gR Y4.J Tryz.f61 Y4.dist [1,1,0,0,1] H
def Y4.t4 (Q:AV→aA→Prop) (x4:List UInt8) (x5:AV) (x6 x7:Int) (x50:Bool) (h:aA) (J:JT):Prop:=
(bif x50 then
(Q (AV.tu [(AV.i .i64 0),(AV.b false)]) h)
else
(bN (AV.s x4) (AV.i .i64 x7) fun n43=>
aR (IntKind.wrap .i64 ((IntKind.wrap .i64 n43) - 48)) fun n44=>
(bif (decide ((x7:Int)<4)) then
(aR (IntKind.wrap .i64 (10 * x6)) fun n47=>
aR (IntKind.wrap .i64 (n47+n44)) fun n48=>
J 6 [(4,(AV.s x4)),(5,x5),(6,(AV.i .i64 n48)),(7,(AV.i .i64 x7))] h)
else
(jQ x7 2 fun n50=>
(bif (decide ((n50:Int)=0)) then
(aR (IntKind.wrap .i64 (10 * n44)) fun n52=>
bD 1 1 [(AV.i .i64 0)] [(0,1,(AV.i .i64 n52))] h fun v53 h54=>
bQ none 1 8 x5 v53 h54 fun v55 h56=>
J 6 [(4,(AV.s x4)),(5,v55),(6,(AV.i .i64 x6)),(7,(AV.i .i64 x7))] h56)
else
(bJ x5 fun n58=>
aR (IntKind.wrap .i64 (n58 - 1)) fun n59=>
aB 1 x5 (AV.i .i64 n59) h fun v60=>
aE v60 h fun v61=>
asI .i64 v61 fun n62=>
aR (IntKind.wrap .i64 (n62+n44)) fun n63=>
aB 1 x5 (AV.i .i64 n59) h fun v64=>
aP 1 v64 (AV.i .i64 n63) h fun h65=>
J 6 [(4,(AV.s x4)),(5,x5),(6,(AV.i .i64 x6)),(7,(AV.i .i64 x7))] h65))))))
theorem Y4.i4 {Q x4 x5 x6 x7 x50 h} (H:Y4.t4 Q x4 x5 x6 x7 x50 h (Y4.J Q)):Y4.p4 Q x4 x5 x6 x7 x50 h:=gR Y4.J Tryz.f61 Y4.dist [1,1,1,1,1,1,0,1,0,0,1,0,0,0,1] H
def Y4.t5 (Q:AV→aA→Prop) (x4:List UInt8) (x5:AV) (x6 x7:Int) (h:aA) (J:JT):Prop:=
aR (IntKind.wrap .i64 (x7+1)) fun n67=>
J 4 [(4,(AV.s x4)),(5,x5),(6,(AV.i .i64 x6)),(7,(AV.i .i64 n67))] h
theorem Y4.i5 {Q x4 x5 x6 x7 h} (H:Y4.t5 Q x4 x5 x6 x7 h (Y4.J Q)):Y4.p5 Q x4 x5 x6 x7 h:=gR Y4.J Tryz.f61 Y4.dist [1,1,1,1,1,1,0,1,0,0,1,1] H
def Y4.t3 (Q:AV→aA→Prop) (x4:List UInt8) (x5:AV) (x6 x7:Int) (h:aA) (J:JT):Prop:=
(bif (decide ((x7:Int)<14)) then
(bN (AV.s x4) (AV.i .i64 x7) fun n37=>
(bif (decide ((n37:Int)<48)) then
(J 5 [(4,(AV.s x4)),(5,x5),(6,(AV.i .i64 x6)),(7,(AV.i .i64 x7)),(50,(AV.b true))] h)
else
(bN (AV.s x4) (AV.i .i64 x7) fun n39=>
J 5 [(4,(AV.s x4)),(5,x5),(6,(AV.i .i64 x6)),(7,(AV.i .i64 x7)),(50,(AV.b (decide ((57:Int)<n39))))] h)))
else
((bif (decide ((x6:Int)<1970)) then
(J 7 [(5,x5),(6,(AV.i .i64 x6)),(127,(AV.b true))] h)
else
(aB 1 x5 (AV.i .i64 0) h fun v70=>
aE v70 h fun v71=>
asI .i64 v71 fun n72=>
(bif (decide ((n72:Int)<1)) then
(J 7 [(5,x5),(6,(AV.i .i64 x6)),(127,(AV.b true))] h)
else
(aB 1 x5 (AV.i .i64 0) h fun v74=>
aE v74 h fun v75=>
asI .i64 v75 fun n76=>
(bif (decide ((12:Int)<n76)) then
(J 7 [(5,x5),(6,(AV.i .i64 x6)),(127,(AV.b true))] h)
else
(aB 1 x5 (AV.i .i64 1) h fun v78=>
aE v78 h fun v79=>
asI .i64 v79 fun n80=>
(bif (decide ((n80:Int)<1)) then
(J 7 [(5,x5),(6,(AV.i .i64 x6)),(127,(AV.b true))] h)
else
(aB 1 x5 (AV.i .i64 1) h fun v82=>
aE v82 h fun v83=>
asI .i64 v83 fun n84=>
aB 1 x5 (AV.i .i64 0) h fun v85=>
aE v85 h fun v86=>
asI .i64 v86 fun n87=>
C Y58.id [(AV.i .i64 x6),(AV.i .i64 n87)] h fun v88 h89=>
asI .i64 v88 fun n90=>
aB 1 x5 (AV.i .i64 0) h89 fun v91=>
(v85=v91 ∧
(aE v82 h89 fun v92=>
asI .i64 v92 fun n93=>
((AV.i .i64 n84)=(AV.i .i64 n93) ∧
(aB 1 x5 (AV.i .i64 1) h89 fun v94=>
(v82=v94 ∧
(aE v78 h89 fun v95=>
asI .i64 v95 fun n96=>
((AV.i .i64 n80)=(AV.i .i64 n96) ∧
(aB 1 x5 (AV.i .i64 1) h89 fun v97=>
(v78=v97 ∧
(aE v74 h89 fun v98=>
asI .i64 v98 fun n99=>
((AV.i .i64 n76)=(AV.i .i64 n99) ∧
(aB 1 x5 (AV.i .i64 0) h89 fun v100=>
(v74=v100 ∧
(aE v70 h89 fun v101=>
asI .i64 v101 fun n102=>
((AV.i .i64 n72)=(AV.i .i64 n102) ∧
(aB 1 x5 (AV.i .i64 0) h89 fun v103=>
(v70=v103 ∧
((bif (decide ((n90:Int)<n84)) then
(J 7 [(5,x5),(6,(AV.i .i64 x6)),(127,(AV.b true))] h89)
else
(aB 1 x5 (AV.i .i64 2) h89 fun v105=>
aE v105 h89 fun v106=>
asI .i64 v106 fun n107=>
(bif (decide ((23:Int)<n107)) then
(J 7 [(5,x5),(6,(AV.i .i64 x6)),(127,(AV.b true))] h89)
else
(aB 1 x5 (AV.i .i64 3) h89 fun v109=>
aE v109 h89 fun v110=>
asI .i64 v110 fun n111=>
(bif (decide ((59:Int)<n111)) then
(J 7 [(5,x5),(6,(AV.i .i64 x6)),(127,(AV.b true))] h89)
else
(aB 1 x5 (AV.i .i64 4) h89 fun v113=>
aE v113 h89 fun v114=>
asI .i64 v114 fun n115=>
J 7 [(5,x5),(6,(AV.i .i64 x6)),(127,(AV.b (decide ((59:Int)<n115))))] h89))))))))))))))))))))))))))))))))))
theorem Y4.i3 {Q x4 x5 x6 x7 h} (H:Y4.t3 Q x4 x5 x6 x7 h (Y4.J Q)):Y4.p3 Q x4 x5 x6 x7 h:=gH Y4.J Tryz.f61 Y4.dist [1,1,1,1,1,1,0,1,0] H
def Y4.t6 (Q:AV→aA→Prop) (x5:AV) (x6:Int) (x127:Bool) (h:aA) (J:JT):Prop:=
(bif x127 then
(Q (AV.tu [(AV.i .i64 0),(AV.b false)]) h)
else
(aB 1 x5 (AV.i .i64 0) h fun v119=>
aE v119 h fun v120=>
asI .i64 v120 fun n121=>
aB 1 x5 (AV.i .i64 1) h fun v122=>
aE v122 h fun v123=>
asI .i64 v123 fun n124=>
aB 1 x5 (AV.i .i64 2) h fun v125=>
aE v125 h fun v126=>
asI .i64 v126 fun n127=>
aB 1 x5 (AV.i .i64 3) h fun v128=>
aE v128 h fun v129=>
asI .i64 v129 fun n130=>
aB 1 x5 (AV.i .i64 4) h fun v131=>
aE v131 h fun v132=>
asI .i64 v132 fun n133=>
C Y21.id [(AV.i .i64 x6),(AV.i .i64 n121),(AV.i .i64 n124),(AV.i .i64 n127),(AV.i .i64 n130),(AV.i .i64 n133)] h fun v134 h135=>
asI .i64 v134 fun n136=>
aB 1 x5 (AV.i .i64 4) h135 fun v137=>
(v131=v137 ∧
(aB 1 x5 (AV.i .i64 3) h135 fun v138=>
(v128=v138 ∧
(aB 1 x5 (AV.i .i64 2) h135 fun v139=>
(v125=v139 ∧
(aB 1 x5 (AV.i .i64 1) h135 fun v140=>
(v122=v140 ∧
(aB 1 x5 (AV.i .i64 0) h135 fun v141=>
(v119=v141 ∧
(Q (AV.tu [(AV.i .i64 n136),(AV.b true)]) h135))))))))))))
theorem Y4.i6 {Q x5 x6 x127 h} (H:Y4.t6 Q x5 x6 x127 h (Y4.J Q)):Y4.p6 Q x5 x6 x127 h:=gR Y4.J Tryz.f61 Y4.dist [1,1,1,1,1,1,1,0,1] H
def Y4.t2 (Q:AV→aA→Prop) (x4:List UInt8) (h:aA) (J:JT):Prop:=
bN (AV.s x4) (AV.i .i64 14) fun n27=>
(bif (!decide ((n27:Int)=90)) then
(Q (AV.tu [(AV.i .i64 0),(AV.b false)]) h)
else
(J 4 [(4,(AV.s x4)),(5,(AV.sl none 0 none)),(6,(AV.i .i64 0)),(7,(AV.i .i64 0))] h))
theorem Y4.i2 {Q x4 h} (H:Y4.t2 Q x4 h (Y4.J Q)):Y4.p2 Q x4 h:=gR Y4.J Tryz.f61 Y4.dist [1,1,1] H
def Y4.t (Q:AV→aA→Prop) (x0:AV) (h:aA) (J:JT):Prop:=
dQ (some 33) x0 h fun v0 h1=>
aC 3 v0 fun v3=>
aE v3 h1 fun v4=>
asS v4 fun l5=>
aD 5 v0 h1 fun v7=>
C Y44.id [v7,(AV.i .i64 23)] h1 fun v8 h9=>
asB v8 fun c10=>
(bif c10 then
(J 1 [(1,v0),(4,(AV.s l5)),(11,(AV.b (decide (((l5.length:Int):Int)=13))))] h9)
else
(J 1 [(1,v0),(4,(AV.s l5)),(11,(AV.b false))] h9))
theorem Y4.call {K x0 h} (H:Y4.t (aL h K) x0 h (Y4.J (aL h K))):C Y4.id [x0] h K:=
 gC Y4.J Tryz.func61 Y4.dist H
noncomputable def Y1.body:Code:=(Tryz.f62.body).getD .skip
def Y1.ann:Ann:=(sl [1,2,4] (sl [1,2,4,6,7] (sq [2,4] (sl [1,2,4,6,7,8] (.one (.loop 1 [1,2,4,6,7,8] (sq [1,2,4,6,7,8] (sl [1,2,4,6,7,8,20] bl) (.seq 10 [1,2,4,6,7,8] (.one (sl [1,2,4,6,7,8,9,10,11] (sq [1,2,4,6,7,8,9,10] (sl [1,2,4,6,7,8,9,10,33] (.br (sl [4,5] lf) lf)) (.seq 7 [1,2,4,6,7,8,9,10] (.seq 2 [1,2,4,6,7,8,9,10,40] lf (.br (sl [1,2,4,6,7,8,9,10] (sl [1,2,4,6,7,8,9,10,12,13] (sq [1,2,4,6,7,8,9,10,12] (.seq 3 [1,2,4,6,7,8,9,10,12,52] lf (.br (sl [4,5] lf) lf)) (sl [1,2,4,6,7,8,9,10,12,14] (.one (.loop 4 [1,2,4,6,7,8,9,10,12,14] (sq [1,2,4,6,7,8,9,10,12,14] (sl [1,2,4,6,7,8,9,10,12,14,58] bl) (.seq 6 [1,2,4,6,7,8,9,10,12,14] (.one (.seq 5 [1,2,4,6,7,8,9,10,12,14,72] lf (.br (.ord (nn 0 8 (.eff 8 (.eff 9 (.eff 10 (.neu 11 (.eff 12 .done .stop)) .stop) .stop) .stop))) lf))) lf)))))))) lf)) (.seq 8 [1,2,4,6,7,8,10,90] lf (.br (sl [1,2,4,6,7,8,10] (sl [1,2,4,6,7,8,15,16] (sq [1,2,4,6,7,8,15] (.seq 9 [1,2,4,6,7,8,15,102] lf (.br (sl [4,5] lf) lf)) lf))) lf)))))) lf))))) (sl [4,5] lf))))
theorem Y1.dist:aV (places Y1.ann Y1.body)=true:=by kernel_rfl
noncomputable def Y1.J (Q:AV→aA→Prop):JT:=bY prog C Tryz.f62 Y1.ann Y1.body Q
def Y1.p2 (Q:AV→aA→Prop) (x1 x2 x4:AV) (x6 x7:Bool) (x8:Int) (x9 x10:List UInt8) (x12:AV) (x52:Bool) (h:aA):Prop:=Y1.J Q 3 [(1,x1),(2,x2),(4,x4),(6,(AV.b x6)),(7,(AV.b x7)),(8,(AV.i .i64 x8)),(9,(AV.s x9)),(10,(AV.s x10)),(12,x12),(52,(AV.b x52))] h
def Y1.p4 (Q:AV→aA→Prop) (x1 x2 x4:AV) (x6 x7:Bool) (x8:Int) (x9 x10:List UInt8) (x12:AV) (x14:Int) (x72:Bool) (h:aA):Prop:=Y1.J Q 5 [(1,x1),(2,x2),(4,x4),(6,(AV.b x6)),(7,(AV.b x7)),(8,(AV.i .i64 x8)),(9,(AV.s x9)),(10,(AV.s x10)),(12,x12),(14,(AV.i .i64 x14)),(72,(AV.b x72))] h
def Y1.p5 (Q:AV→aA→Prop) (x1 x2 x4:AV) (x6 x7:Bool) (x8:Int) (x9 x10:List UInt8) (x12:AV) (x14:Int) (h:aA):Prop:=Y1.J Q 6 [(1,x1),(2,x2),(4,x4),(6,(AV.b x6)),(7,(AV.b x7)),(8,(AV.i .i64 x8)),(9,(AV.s x9)),(10,(AV.s x10)),(12,x12),(14,(AV.i .i64 x14))] h
def Y1.p3 (Q:AV→aA→Prop) (x1 x2 x4:AV) (x6 x7:Bool) (x8:Int) (x9 x10:List UInt8) (x12:AV) (x14:Int) (h:aA):Prop:=Y1.J Q 4 [(1,x1),(2,x2),(4,x4),(6,(AV.b x6)),(7,(AV.b x7)),(8,(AV.i .i64 x8)),(9,(AV.s x9)),(10,(AV.s x10)),(12,x12),(14,(AV.i .i64 x14))] h
def Y1.p1 (Q:AV→aA→Prop) (x1 x2 x4:AV) (x6 x7:Bool) (x8:Int) (x9 x10:List UInt8) (x40:Bool) (h:aA):Prop:=Y1.J Q 2 [(1,x1),(2,x2),(4,x4),(6,(AV.b x6)),(7,(AV.b x7)),(8,(AV.i .i64 x8)),(9,(AV.s x9)),(10,(AV.s x10)),(40,(AV.b x40))] h
def Y1.p8 (Q:AV→aA→Prop) (x1 x2 x4:AV) (x6 x7:Bool) (x8:Int) (x15:AV) (x102:Bool) (h:aA):Prop:=Y1.J Q 9 [(1,x1),(2,x2),(4,x4),(6,(AV.b x6)),(7,(AV.b x7)),(8,(AV.i .i64 x8)),(15,x15),(102,(AV.b x102))] h
def Y1.p7 (Q:AV→aA→Prop) (x1 x2 x4:AV) (x6 x7:Bool) (x8:Int) (x10:List UInt8) (x90:Bool) (h:aA):Prop:=Y1.J Q 8 [(1,x1),(2,x2),(4,x4),(6,(AV.b x6)),(7,(AV.b x7)),(8,(AV.i .i64 x8)),(10,(AV.s x10)),(90,(AV.b x90))] h
def Y1.p6 (Q:AV→aA→Prop) (x1 x2 x4:AV) (x6 x7:Bool) (x8:Int) (x9 x10:List UInt8) (h:aA):Prop:=Y1.J Q 7 [(1,x1),(2,x2),(4,x4),(6,(AV.b x6)),(7,(AV.b x7)),(8,(AV.i .i64 x8)),(9,(AV.s x9)),(10,(AV.s x10))] h
def Y1.p9 (Q:AV→aA→Prop) (x1 x2 x4:AV) (x6 x7:Bool) (x8:Int) (h:aA):Prop:=Y1.J Q 10 [(1,x1),(2,x2),(4,x4),(6,(AV.b x6)),(7,(AV.b x7)),(8,(AV.i .i64 x8))] h
def Y1.p0 (Q:AV→aA→Prop) (x1 x2 x4:AV) (x6 x7:Bool) (x8:Int) (h:aA):Prop:=Y1.J Q 1 [(1,x1),(2,x2),(4,x4),(6,(AV.b x6)),(7,(AV.b x7)),(8,(AV.i .i64 x8))] h
def Y1.t2 (Q:AV→aA→Prop) (x1 x2 x4:AV) (x6 x7:Bool) (x8:Int) (x9 x10:List UInt8) (x12:AV) (x52:Bool) (h:aA) (J:JT):Prop:=
(bif x52 then
(aD 8 x2 h fun v47=>
aP 8 x4 v47 h fun h48=>
aD 8 x4 h48 fun v50=>
Q (AV.tu [v50,(AV.b false)]) h48)
else
(J 4 [(1,x1),(2,x2),(4,x4),(6,(AV.b x6)),(7,(AV.b x7)),(8,(AV.i .i64 x8)),(9,(AV.s x9)),(10,(AV.s x10)),(12,x12),(14,(AV.i .i64 0))] h))
theorem Y1.i2 {Q x1 x2 x4 x6 x7 x8 x9 x10 x12 x52 h} (H:Y1.t2 Q x1 x2 x4 x6 x7 x8 x9 x10 x12 x52 h (Y1.J Q)):Y1.p2 Q x1 x2 x4 x6 x7 x8 x9 x10 x12 x52 h:=gR Y1.J Tryz.f62 Y1.dist [1,1,0,1,0,0,1,0,0,1,1,0,1,0,1,1,0,1] H
def Y1.t4 (Q:AV→aA→Prop) (x1 x2 x4:AV) (x6 x7:Bool) (x8:Int) (x9 x10:List UInt8) (x12:AV) (x14:Int) (x72:Bool) (h:aA) (J:JT):Prop:=
(bif x72 then
(aC 5 x2 fun v71=>
aE v71 h fun v72=>
aC 4 x12 fun v73=>
aE v73 h fun v74=>
aB 5 v74 (AV.i .i64 x14) h fun v75=>
aC 3 v75 fun v76=>
aE v76 h fun v77=>
asS v77 fun l78=>
C Y25.id [(AV.s l78)] h fun v79 h80=>
asS v79 fun l81=>
aB 5 v74 (AV.i .i64 x14) h80 fun v82=>
(v75=v82 ∧
(aE v73 h80 fun v83=>
(v74=v83 ∧
(aE v71 h80 fun v84=>
(v72=v84 ∧
(bD 1 1 [(AV.s [])] [(0,1,(AV.s l81))] h80 fun v85 h86=>
aE v76 h86 fun v87=>
asS v87 fun l88=>
((AV.s l78)=(AV.s l88) ∧
(aB 5 v74 (AV.i .i64 x14) h86 fun v89=>
(v75=v89 ∧
(aE v73 h86 fun v90=>
(v74=v90 ∧
(aE v71 h86 fun v91=>
(v72=v91 ∧
(bQ none 1 16 v72 v85 h86 fun v92 h93=>
aE v76 h93 fun v94=>
asS v94 fun l95=>
((AV.s l78)=(AV.s l95) ∧
(aB 5 v74 (AV.i .i64 x14) h93 fun v96=>
(v75=v96 ∧
(aE v73 h93 fun v97=>
(v74=v97 ∧
(aC 5 x2 fun v98=>
aP 1 v98 v92 h93 fun h99=>
J 6 [(1,x1),(2,x2),(4,x4),(6,(AV.b x6)),(7,(AV.b x7)),(8,(AV.i .i64 x8)),(9,(AV.s x9)),(10,(AV.s x10)),(12,x12),(14,(AV.i .i64 x14))] h99)))))))))))))))))))))
else
(J 6 [(1,x1),(2,x2),(4,x4),(6,(AV.b x6)),(7,(AV.b x7)),(8,(AV.i .i64 x8)),(9,(AV.s x9)),(10,(AV.s x10)),(12,x12),(14,(AV.i .i64 x14))] h))
theorem Y1.i4 {Q x1 x2 x4 x6 x7 x8 x9 x10 x12 x14 x72 h} (H:Y1.t4 Q x1 x2 x4 x6 x7 x8 x9 x10 x12 x14 x72 h (Y1.J Q)):Y1.p4 Q x1 x2 x4 x6 x7 x8 x9 x10 x12 x14 x72 h:=gR Y1.J Tryz.f62 Y1.dist [1,1,0,1,0,0,1,0,0,1,1,0,1,0,1,1,1,1,0,0,1,0,0,1] H
def Y1.t5 (Q:AV→aA→Prop) (x1 x2 x4:AV) (x6 x7:Bool) (x8:Int) (x9 x10:List UInt8) (x12:AV) (x14:Int) (h:aA) (J:JT):Prop:=
aR (IntKind.wrap .i64 (x14+1)) fun n102=>
J 4 [(1,x1),(2,x2),(4,x4),(6,(AV.b x6)),(7,(AV.b x7)),(8,(AV.i .i64 x8)),(9,(AV.s x9)),(10,(AV.s x10)),(12,x12),(14,(AV.i .i64 n102))] h
theorem Y1.i5 {Q x1 x2 x4 x6 x7 x8 x9 x10 x12 x14 h} (H:Y1.t5 Q x1 x2 x4 x6 x7 x8 x9 x10 x12 x14 h (Y1.J Q)):Y1.p5 Q x1 x2 x4 x6 x7 x8 x9 x10 x12 x14 h:=gR Y1.J Tryz.f62 Y1.dist [1,1,0,1,0,0,1,0,0,1,1,0,1,0,1,1,1,1,0,0,1,1] H
def Y1.t3 (Q:AV→aA→Prop) (x1 x2 x4:AV) (x6 x7:Bool) (x8:Int) (x9 x10:List UInt8) (x12:AV) (x14:Int) (h:aA) (J:JT):Prop:=
aC 4 x12 fun v53=>
aE v53 h fun v54=>
bJ v54 fun n55=>
(bif (decide ((x14:Int)<n55)) then
(aC 4 x12 fun v59=>
aE v59 h fun v60=>
aB 5 v60 (AV.i .i64 x14) h fun v61=>
aD 5 v61 h fun v62=>
C Y33.id [v62,(AV.i .i64 2),(AV.i .i64 2),(AV.b false)] h fun v63 h64=>
asB v63 fun c65=>
(bif c65 then
(aC 5 x2 fun v66=>
aE v66 h64 fun v67=>
bJ v67 fun n68=>
J 5 [(1,x1),(2,x2),(4,x4),(6,(AV.b x6)),(7,(AV.b x7)),(8,(AV.i .i64 x8)),(9,(AV.s x9)),(10,(AV.s x10)),(12,x12),(14,(AV.i .i64 x14)),(72,(AV.b (decide ((n68:Int)<16))))] h64)
else
(J 5 [(1,x1),(2,x2),(4,x4),(6,(AV.b x6)),(7,(AV.b x7)),(8,(AV.i .i64 x8)),(9,(AV.s x9)),(10,(AV.s x10)),(12,x12),(14,(AV.i .i64 x14)),(72,(AV.b false))] h64)))
else
(J 7 [(1,x1),(2,x2),(4,x4),(6,(AV.b x6)),(7,(AV.b x7)),(8,(AV.i .i64 x8)),(9,(AV.s x9)),(10,(AV.s x10))] h))
theorem Y1.i3 {Q x1 x2 x4 x6 x7 x8 x9 x10 x12 x14 h} (H:Y1.t3 Q x1 x2 x4 x6 x7 x8 x9 x10 x12 x14 h (Y1.J Q)):Y1.p3 Q x1 x2 x4 x6 x7 x8 x9 x10 x12 x14 h:=gH Y1.J Tryz.f62 Y1.dist [1,1,0,1,0,0,1,0,0,1,1,0,1,0,1,1,1,1,0] H
def Y1.t1 (Q:AV→aA→Prop) (x1 x2 x4:AV) (x6 x7:Bool) (x8:Int) (x9 x10:List UInt8) (x40:Bool) (h:aA) (J:JT):Prop:=
(bif x40 then
(C Y75.id [(AV.s x10)] h fun v32 h33=>
aH 0 v32 fun v34=>
aH 1 v32 fun v35=>
asI .i64 v35 fun n36=>
bS (some 33) [(AV.i .i64 0),(AV.i .i64 0),(AV.b false),(AV.s []),(AV.sl none 0 none)] h33 fun v37 h38=>
aP 5 v37 v34 h38 fun h39=>
(bif (!decide ((n36:Int)=0)) then
(J 3 [(1,x1),(2,x2),(4,x4),(6,(AV.b true)),(7,(AV.b x7)),(8,(AV.i .i64 x8)),(9,(AV.s x9)),(10,(AV.s x10)),(12,v37),(52,(AV.b true))] h39)
else
(aD 5 v37 h39 fun v42=>
C Y33.id [v42,(AV.i .i64 0),(AV.i .i64 16),(AV.b true)] h39 fun v43 h44=>
asB v43 fun c45=>
J 3 [(1,x1),(2,x2),(4,x4),(6,(AV.b true)),(7,(AV.b x7)),(8,(AV.i .i64 x8)),(9,(AV.s x9)),(10,(AV.s x10)),(12,v37),(52,(AV.b (!c45)))] h44)))
else
(J 7 [(1,x1),(2,x2),(4,x4),(6,(AV.b x6)),(7,(AV.b x7)),(8,(AV.i .i64 x8)),(9,(AV.s x9)),(10,(AV.s x10))] h))
theorem Y1.i1 {Q x1 x2 x4 x6 x7 x8 x9 x10 x40 h} (H:Y1.t1 Q x1 x2 x4 x6 x7 x8 x9 x10 x40 h (Y1.J Q)):Y1.p1 Q x1 x2 x4 x6 x7 x8 x9 x10 x40 h:=gR Y1.J Tryz.f62 Y1.dist [1,1,0,1,0,0,1,0,0,1,1,0,1] H
def Y1.t8 (Q:AV→aA→Prop) (x1 x2 x4:AV) (x6 x7:Bool) (x8:Int) (x15:AV) (x102:Bool) (h:aA) (J:JT):Prop:=
(bif x102 then
(aD 8 x2 h fun v124=>
aP 8 x4 v124 h fun h125=>
aD 8 x4 h125 fun v127=>
Q (AV.tu [v127,(AV.b false)]) h125)
else
(aC 4 x15 fun v129=>
aE v129 h fun v130=>
bJ v130 fun n131=>
(bif (decide ((0:Int)<n131)) then
(aC 4 x15 fun v132=>
aE v132 h fun v133=>
aB 5 v133 (AV.i .i64 0) h fun v134=>
aD 5 v134 h fun v135=>
C Y60.id [v135] h fun v136 h137=>
asB v136 fun c138=>
(bif c138 then
(aC 4 x15 fun v139=>
aE v139 h137 fun v140=>
aB 5 v140 (AV.i .i64 0) h137 fun v141=>
aC 3 v141 fun v142=>
aE v142 h137 fun v143=>
asS v143 fun l144=>
bN (AV.s l144) (AV.i .i64 0) fun n145=>
aC 6 x2 fun v146=>
aP 1 v146 (AV.b (!decide ((n145:Int)=0))) h137 fun h147=>
J 10 [(1,x1),(2,x2),(4,x4),(6,(AV.b x6)),(7,(AV.b x7)),(8,(AV.i .i64 x8))] h147)
else
(aC 6 x2 fun v149=>
aP 1 v149 (AV.b false) h137 fun h150=>
J 10 [(1,x1),(2,x2),(4,x4),(6,(AV.b x6)),(7,(AV.b x7)),(8,(AV.i .i64 x8))] h150)))
else
(aC 6 x2 fun v152=>
aP 1 v152 (AV.b false) h fun h153=>
J 10 [(1,x1),(2,x2),(4,x4),(6,(AV.b x6)),(7,(AV.b x7)),(8,(AV.i .i64 x8))] h153))))
theorem Y1.i8 {Q x1 x2 x4 x6 x7 x8 x15 x102 h} (H:Y1.t8 Q x1 x2 x4 x6 x7 x8 x15 x102 h (Y1.J Q)):Y1.p8 Q x1 x2 x4 x6 x7 x8 x15 x102 h:=gR Y1.J Tryz.f62 Y1.dist [1,1,0,1,0,0,1,0,0,1,1,1,1,0,1,1,0,1] H
def Y1.t7 (Q:AV→aA→Prop) (x1 x2 x4:AV) (x6 x7:Bool) (x8:Int) (x10:List UInt8) (x90:Bool) (h:aA) (J:JT):Prop:=
(bif x90 then
(C Y75.id [(AV.s x10)] h fun v109 h110=>
aH 0 v109 fun v111=>
aH 1 v109 fun v112=>
asI .i64 v112 fun n113=>
bS (some 33) [(AV.i .i64 0),(AV.i .i64 0),(AV.b false),(AV.s []),(AV.sl none 0 none)] h110 fun v114 h115=>
aP 5 v114 v111 h115 fun h116=>
(bif (!decide ((n113:Int)=0)) then
(J 9 [(1,x1),(2,x2),(4,x4),(6,(AV.b x6)),(7,(AV.b true)),(8,(AV.i .i64 x8)),(15,v114),(102,(AV.b true))] h116)
else
(aD 5 v114 h116 fun v119=>
C Y33.id [v119,(AV.i .i64 0),(AV.i .i64 16),(AV.b true)] h116 fun v120 h121=>
asB v120 fun c122=>
J 9 [(1,x1),(2,x2),(4,x4),(6,(AV.b x6)),(7,(AV.b true)),(8,(AV.i .i64 x8)),(15,v114),(102,(AV.b (!c122)))] h121)))
else
(J 10 [(1,x1),(2,x2),(4,x4),(6,(AV.b x6)),(7,(AV.b x7)),(8,(AV.i .i64 x8))] h))
theorem Y1.i7 {Q x1 x2 x4 x6 x7 x8 x10 x90 h} (H:Y1.t7 Q x1 x2 x4 x6 x7 x8 x10 x90 h (Y1.J Q)):Y1.p7 Q x1 x2 x4 x6 x7 x8 x10 x90 h:=gR Y1.J Tryz.f62 Y1.dist [1,1,0,1,0,0,1,0,0,1,1,1,1] H
def Y1.t6 (Q:AV→aA→Prop) (x1 x2 x4:AV) (x6 x7:Bool) (x8:Int) (x9 x10:List UInt8) (h:aA) (J:JT):Prop:=
sX (decide ((x9:List UInt8)=[50,46,53,46,50,57,46,49,57])) fun c105=>
(bif c105 then
(J 8 [(1,x1),(2,x2),(4,x4),(6,(AV.b x6)),(7,(AV.b x7)),(8,(AV.i .i64 x8)),(10,(AV.s x10)),(90,(AV.b (!x7)))] h)
else
(J 8 [(1,x1),(2,x2),(4,x4),(6,(AV.b x6)),(7,(AV.b x7)),(8,(AV.i .i64 x8)),(10,(AV.s x10)),(90,(AV.b false))] h))
theorem Y1.i6 {Q x1 x2 x4 x6 x7 x8 x9 x10 h} (H:Y1.t6 Q x1 x2 x4 x6 x7 x8 x9 x10 h (Y1.J Q)):Y1.p6 Q x1 x2 x4 x6 x7 x8 x9 x10 h:=gR Y1.J Tryz.f62 Y1.dist [1,1,0,1,0,0,1,0,0,1,1,1] H
def Y1.t9 (Q:AV→aA→Prop) (x1 x2 x4:AV) (x6 x7:Bool) (x8:Int) (h:aA) (J:JT):Prop:=
aR (IntKind.wrap .i64 (x8+1)) fun n156=>
J 1 [(1,x1),(2,x2),(4,x4),(6,(AV.b x6)),(7,(AV.b x7)),(8,(AV.i .i64 n156))] h
theorem Y1.i9 {Q x1 x2 x4 x6 x7 x8 h} (H:Y1.t9 Q x1 x2 x4 x6 x7 x8 h (Y1.J Q)):Y1.p9 Q x1 x2 x4 x6 x7 x8 h:=gR Y1.J Tryz.f62 Y1.dist [1,1,0,1,0,0,1,1] H
def Y1.t0 (Q:AV→aA→Prop) (x1 x2 x4:AV) (x6 x7:Bool) (x8:Int) (h:aA) (J:JT):Prop:=
bJ x1 fun n7=>
(bif (decide ((x8:Int)<n7)) then
(aB 5 x1 (AV.i .i64 x8) h fun v11=>
aD 5 v11 h fun v12=>
C Y52.id [v12] h fun v13 h14=>
aH 0 v13 fun v15=>
asS v15 fun l16=>
aH 1 v13 fun v17=>
asS v17 fun l18=>
aH 2 v13 fun v19=>
asB v19 fun c20=>
(bif (!c20) then
(aD 8 x2 h14 fun v23=>
aP 8 x4 v23 h14 fun h24=>
aD 8 x4 h24 fun v26=>
Q (AV.tu [v26,(AV.b false)]) h24)
else
(sX (decide ((l16:List UInt8)=[50,46,53,46,50,57,46,49,55])) fun c28=>
(bif c28 then
(J 2 [(1,x1),(2,x2),(4,x4),(6,(AV.b x6)),(7,(AV.b x7)),(8,(AV.i .i64 x8)),(9,(AV.s l16)),(10,(AV.s l18)),(40,(AV.b (!x6)))] h14)
else
(J 2 [(1,x1),(2,x2),(4,x4),(6,(AV.b x6)),(7,(AV.b x7)),(8,(AV.i .i64 x8)),(9,(AV.s l16)),(10,(AV.s l18)),(40,(AV.b false))] h14)))))
else
(aD 8 x2 h fun v158=>
aP 8 x4 v158 h fun h159=>
aD 8 x4 h159 fun v161=>
Q (AV.tu [v161,(AV.b true)]) h159))
theorem Y1.i0 {Q x1 x2 x4 x6 x7 x8 h} (H:Y1.t0 Q x1 x2 x4 x6 x7 x8 h (Y1.J Q)):Y1.p0 Q x1 x2 x4 x6 x7 x8 h:=gH Y1.J Tryz.f62 Y1.dist [1,1,0,1,0] H
def Y1.t (Q:AV→aA→Prop) (x0 x1:AV) (h:aA) (J:JT):Prop:=
dQ (some 25) x0 h fun v0 h1=>
bS (some 25) [(AV.s []),(AV.s []),(AV.s []),(AV.i .i64 0),(AV.i .i64 0),(AV.sl none 0 none),(AV.b false),(AV.s [])] h1 fun v2 h3=>
J 1 [(1,x1),(2,v0),(4,v2),(6,(AV.b false)),(7,(AV.b false)),(8,(AV.i .i64 0))] h3
theorem Y1.call {K x0 x1 h} (H:Y1.t (aL h K) x0 x1 h (Y1.J (aL h K))):C Y1.id [x0,x1] h K:=
 gC Y1.J Tryz.func62 Y1.dist H
noncomputable def Y43.body:Code:=(Tryz.f63.body).getD .skip
def Y43.ann:Ann:=(sl [0] (sq [0] (sl [0,6] (.br (sl [2] lf) lf)) (sl [0,3] (sq [3] (sl [3,4] (.one (.loop 1 [3,4] (sq [3,4] (sl [3,4,13] bl) (sq [3,4] (.one lf) lf))))) (sl [2] lf)))))
theorem Y43.dist:aV (places Y43.ann Y43.body)=true:=by kernel_rfl
noncomputable def Y43.J (Q:AV→aA→Prop):JT:=bY prog C Tryz.f63 Y43.ann Y43.body Q
def Y43.p0 (Q:AV→aA→Prop) (x3:AV) (x4:Int) (h:aA):Prop:=Y43.J Q 1 [(3,x3),(4,(AV.i .i64 x4))] h
def Y43.t0 (Q:AV→aA→Prop) (x3:AV) (x4:Int) (h:aA) (J:JT):Prop:=
(bif (decide ((0:Int)<x4)) then
(bD 1 1 [(AV.i .u8 0)] [(0,1,(AV.i .u8 (IntKind.wrap .u8 x4)))] h fun v12 h13=>
bQ (some 5) 1 1 v12 x3 h13 fun v14 h15=>
rE .i64 x4 8 fun n17=>
J 1 [(3,v14),(4,(AV.i .i64 n17))] h15)
else
(bJ x3 fun n19=>
aR (IntKind.wrap .i64 (128+n19)) fun n20=>
bD 1 1 [(AV.i .u8 0)] [(0,1,(AV.i .u8 (IntKind.wrap .u8 n20)))] h fun v21 h22=>
cE v21 h22 fun l23=>
cE x3 h22 fun l24=>
eI l23 l24 fun l25=>
Q (AV.s l25) h22))
theorem Y43.i0 {Q x3 x4 h} (H:Y43.t0 Q x3 x4 h (Y43.J Q)):Y43.p0 Q x3 x4 h:=gH Y43.J Tryz.f63 Y43.dist [1,1,1,0,1,0] H
def Y43.t (Q:AV→aA→Prop) (x0:Int) (h:aA) (J:JT):Prop:=
(bif (decide ((x0:Int)<128)) then
(bD 1 1 [(AV.i .u8 0)] [(0,1,(AV.i .u8 (IntKind.wrap .u8 x0)))] h fun v2 h3=>
cE v2 h3 fun l4=>
Q (AV.s l4) h3)
else
(J 1 [(3,(AV.sl none 0 none)),(4,(AV.i .i64 x0))] h))
theorem Y43.call {K x0 h} (H:Y43.t (aL h K) x0 h (Y43.J (aL h K))):C Y43.id [(AV.i .i64 x0)] h K:=
 gC Y43.J Tryz.func63 Y43.dist H
noncomputable def Y22.body:Code:=(Tryz.f64.body).getD .skip
def Y22.ann:Ann:=(sl [0] (sl [3] (sq [3] (sl [3,8,9,10] (.one (.loop 1 [3,8,9,10] (sl [3,8,9,10,11] (sq [3,8,9,10] bl (.seq 3 [3,8,9,10] (.one (sl [3,4,5,8,9,10] (.seq 2 [3,4,5,8,9,10,20] lf bl))) lf)))))) (sl [2] lf))))
theorem Y22.dist:aV (places Y22.ann Y22.body)=true:=by kernel_rfl
noncomputable def Y22.J (Q:AV→aA→Prop):JT:=bY prog C Tryz.f64 Y22.ann Y22.body Q
def Y22.p1 (Q:AV→aA→Prop) (x3:AV) (x4 x5:Int) (x8:AV) (x9 x10:Int) (x20:Bool) (h:aA):Prop:=Y22.J Q 2 [(3,x3),(4,(AV.i .i64 x4)),(5,(AV.i .u8 x5)),(8,x8),(9,(AV.i .i64 x9)),(10,(AV.i .i64 x10)),(20,(AV.b x20))] h
def Y22.p2 (Q:AV→aA→Prop) (x3 x8:AV) (x9 x10:Int) (h:aA):Prop:=Y22.J Q 3 [(3,x3),(8,x8),(9,(AV.i .i64 x9)),(10,(AV.i .i64 x10))] h
def Y22.p0 (Q:AV→aA→Prop) (x3 x8:AV) (x9 x10:Int) (h:aA):Prop:=Y22.J Q 1 [(3,x3),(8,x8),(9,(AV.i .i64 x9)),(10,(AV.i .i64 x10))] h
def Y22.t1 (Q:AV→aA→Prop) (x3:AV) (x4 x5:Int) (x8:AV) (x9 x10:Int) (x20:Bool) (h:aA) (J:JT):Prop:=
(bif x20 then
(aR (IntKind.wrap .u8 (x5+97)) fun n15=>
aR (IntKind.wrap .u8 (n15 - 65)) fun n16=>
aB 1 x3 (AV.i .i64 x4) h fun v17=>
aP 1 v17 (AV.i .u8 n16) h fun h18=>
J 3 [(3,x3),(8,x8),(9,(AV.i .i64 x9)),(10,(AV.i .i64 x10))] h18)
else
(J 3 [(3,x3),(8,x8),(9,(AV.i .i64 x9)),(10,(AV.i .i64 x10))] h))
theorem Y22.i1 {Q x3 x4 x5 x8 x9 x10 x20 h} (H:Y22.t1 Q x3 x4 x5 x8 x9 x10 x20 h (Y22.J Q)):Y22.p1 Q x3 x4 x5 x8 x9 x10 x20 h:=gR Y22.J Tryz.f64 Y22.dist [1,1,0,1,0,0,1,1,0,0,1,1] H
def Y22.t2 (Q:AV→aA→Prop) (x3 x8:AV) (x9 x10:Int) (h:aA) (J:JT):Prop:=
aR (IntKind.wrap .i64 (x10+1)) fun n21=>
J 1 [(3,x3),(8,x8),(9,(AV.i .i64 x9)),(10,(AV.i .i64 n21))] h
theorem Y22.i2 {Q x3 x8 x9 x10 h} (H:Y22.t2 Q x3 x8 x9 x10 h (Y22.J Q)):Y22.p2 Q x3 x8 x9 x10 h:=gR Y22.J Tryz.f64 Y22.dist [1,1,0,1,0,0,1,1,1] H
def Y22.t0 (Q:AV→aA→Prop) (x3 x8:AV) (x9 x10:Int) (h:aA) (J:JT):Prop:=
(bif (decide ((x10:Int)<x9)) then
(aB 1 x8 (AV.i .i64 x10) h fun v9=>
aE v9 h fun v10=>
asI .u8 v10 fun n11=>
(bif (decide ((65:Int)≤n11)) then
(J 2 [(3,x3),(4,(AV.i .i64 x10)),(5,(AV.i .u8 n11)),(8,x8),(9,(AV.i .i64 x9)),(10,(AV.i .i64 x10)),(20,(AV.b (decide ((n11:Int)≤90))))] h)
else
(J 2 [(3,x3),(4,(AV.i .i64 x10)),(5,(AV.i .u8 n11)),(8,x8),(9,(AV.i .i64 x9)),(10,(AV.i .i64 x10)),(20,(AV.b false))] h)))
else
(cE x3 h fun l23=>
Q (AV.s l23) h))
theorem Y22.i0 {Q x3 x8 x9 x10 h} (H:Y22.t0 Q x3 x8 x9 x10 h (Y22.J Q)):Y22.p0 Q x3 x8 x9 x10 h:=gH Y22.J Tryz.f64 Y22.dist [1,1,0,1,0] H
def Y22.t (Q:AV→aA→Prop) (x0:List UInt8) (h:aA) (J:JT):Prop:=
fM (AV.s x0) h fun v1 h2=>
bJ v1 fun n4=>
J 1 [(3,v1),(8,v1),(9,(AV.i .i64 n4)),(10,(AV.i .i64 0))] h2
theorem Y22.call {K x0 h} (H:Y22.t (aL h K) x0 h (Y22.J (aL h K))):C Y22.id [(AV.s x0)] h K:=
 gC Y22.J Tryz.func64 Y22.dist H
noncomputable def Y89.body:Code:=(Tryz.f65.body).getD .skip
def Y89.ann:Ann:=(sl [0,1] (sl [4] lf))
theorem Y89.dist:aV (places Y89.ann Y89.body)=true:=by kernel_rfl
noncomputable def Y89.J (Q:AV→aA→Prop):JT:=bY prog C Tryz.f65 Y89.ann Y89.body Q
def Y89.t (Q:AV→aA→Prop) (x0 x1:List UInt8) (h:aA) (J:JT):Prop:=
C Y29.id [(AV.s x0),(AV.s x1),(AV.i .i64 0),(AV.i .i64 (-1))] h fun v1 h2=>
Q v1 h2
theorem Y89.call {K x0 x1 h} (H:Y89.t (aL h K) x0 x1 h (Y89.J (aL h K))):C Y89.id [(AV.s x0),(AV.s x1)] h K:=
 gC Y89.J Tryz.func65 Y89.dist H
noncomputable def Y23.body:Code:=(Tryz.f66.body).getD .skip
def Y23.ann:Ann:=(sl [0] (sq [0] (.seq 1 [0,22] lf (.br (sl [2,3] lf) lf)) (sl [0,4] (sq [4] (sl [0,4,24,25] (.one (.loop 2 [0,4,24,25] (sl [0,4,24,25,26] (sq [0,4,24,25] bl (sq [0,4,24,25] (.one (sl [0,4,5,24,25] (sq [0,4,5,24,25] (.seq 3 [0,4,5,24,25,37] lf (.br (sl [2,3] lf) lf)) lf))) lf)))))) (sl [2,3] lf)))))
theorem Y23.dist:aV (places Y23.ann Y23.body)=true:=by kernel_rfl
noncomputable def Y23.J (Q:AV→aA→Prop):JT:=bY prog C Tryz.f66 Y23.ann Y23.body Q
def Y23.p0 (Q:AV→aA→Prop) (x0:List UInt8) (x22:Bool) (h:aA):Prop:=Y23.J Q 1 [(0,(AV.s x0)),(22,(AV.b x22))] h
def Y23.p2 (Q:AV→aA→Prop) (x0:List UInt8) (x4 x5 x24 x25:Int) (x37:Bool) (h:aA):Prop:=Y23.J Q 3 [(0,(AV.s x0)),(4,(AV.i .i64 x4)),(5,(AV.i .i64 x5)),(24,(AV.i .i64 x24)),(25,(AV.i .i64 x25)),(37,(AV.b x37))] h
def Y23.p1 (Q:AV→aA→Prop) (x0:List UInt8) (x4 x24 x25:Int) (h:aA):Prop:=Y23.J Q 2 [(0,(AV.s x0)),(4,(AV.i .i64 x4)),(24,(AV.i .i64 x24)),(25,(AV.i .i64 x25))] h
def Y23.t0 (Q:AV→aA→Prop) (x0:List UInt8) (x22:Bool) (h:aA) (J:JT):Prop:=
(bif x22 then
(Q (AV.tu [(AV.i .i64 0),(AV.b false)]) h)
else
(J 2 [(0,(AV.s x0)),(4,(AV.i .i64 0)),(24,(AV.i .i64 (x0.length:Int))),(25,(AV.i .i64 0))] h))
theorem Y23.i0 {Q x0 x22 h} (H:Y23.t0 Q x0 x22 h (Y23.J Q)):Y23.p0 Q x0 x22 h:=gR Y23.J Tryz.f66 Y23.dist [1,0,1] H
def Y23.t2 (Q:AV→aA→Prop) (x0:List UInt8) (x4 x5 x24 x25:Int) (x37:Bool) (h:aA) (J:JT):Prop:=
(bif x37 then
(Q (AV.tu [(AV.i .i64 0),(AV.b false)]) h)
else
(aR (IntKind.wrap .i64 (x4 * 10)) fun n20=>
bN (AV.s x0) (AV.i .i64 x5) fun n21=>
aR (IntKind.wrap .u8 (n21 - 48)) fun n22=>
aR (IntKind.wrap .i64 (n20+(IntKind.wrap .i64 n22))) fun n23=>
aR (IntKind.wrap .i64 (x25+1)) fun n25=>
J 2 [(0,(AV.s x0)),(4,(AV.i .i64 n23)),(24,(AV.i .i64 x24)),(25,(AV.i .i64 n25))] h))
theorem Y23.i2 {Q x0 x4 x5 x24 x25 x37 h} (H:Y23.t2 Q x0 x4 x5 x24 x25 x37 h (Y23.J Q)):Y23.p2 Q x0 x4 x5 x24 x25 x37 h:=gR Y23.J Tryz.f66 Y23.dist [1,1,1,0,1,0,0,1,1,0,0,1,0,1] H
def Y23.t1 (Q:AV→aA→Prop) (x0:List UInt8) (x4 x24 x25:Int) (h:aA) (J:JT):Prop:=
(bif (decide ((x25:Int)<x24)) then
(bN (AV.s x0) (AV.i .i64 x25) fun n14=>
(bif (decide ((n14:Int)<48)) then
(J 3 [(0,(AV.s x0)),(4,(AV.i .i64 x4)),(5,(AV.i .i64 x25)),(24,(AV.i .i64 x24)),(25,(AV.i .i64 x25)),(37,(AV.b true))] h)
else
(bN (AV.s x0) (AV.i .i64 x25) fun n16=>
J 3 [(0,(AV.s x0)),(4,(AV.i .i64 x4)),(5,(AV.i .i64 x25)),(24,(AV.i .i64 x24)),(25,(AV.i .i64 x25)),(37,(AV.b (decide ((57:Int)<n16))))] h)))
else
(Q (AV.tu [(AV.i .i64 x4),(AV.b (decide ((x4:Int)<268435456)))]) h))
theorem Y23.i1 {Q x0 x4 x24 x25 h} (H:Y23.t1 Q x0 x4 x24 x25 h (Y23.J Q)):Y23.p1 Q x0 x4 x24 x25 h:=gH Y23.J Tryz.f66 Y23.dist [1,1,1,0,1,0] H
def Y23.t (Q:AV→aA→Prop) (x0:List UInt8) (h:aA) (J:JT):Prop:=
(bif (decide ((x0:List UInt8)=[])) then
(J 1 [(0,(AV.s x0)),(22,(AV.b true))] h)
else
((bif (decide ((9:Int)<(x0.length:Int))) then
(J 1 [(0,(AV.s x0)),(22,(AV.b true))] h)
else
(bN (AV.s x0) (AV.i .i64 0) fun n3=>
(bif (decide ((n3:Int)=48)) then
(J 1 [(0,(AV.s x0)),(22,(AV.b (decide ((1:Int)<(x0.length:Int)))))] h)
else
(J 1 [(0,(AV.s x0)),(22,(AV.b false))] h))))))
theorem Y23.call {K x0 h} (H:Y23.t (aL h K) x0 h (Y23.J (aL h K))):C Y23.id [(AV.s x0)] h K:=
 gC Y23.J Tryz.func66 Y23.dist H
noncomputable def Y84.body:Code:=(Tryz.f67.body).getD .skip
def Y84.ann:Ann:=(sl [0,1] (sl [4] lf))
theorem Y84.dist:aV (places Y84.ann Y84.body)=true:=by kernel_rfl
noncomputable def Y84.J (Q:AV→aA→Prop):JT:=bY prog C Tryz.f67 Y84.ann Y84.body Q
def Y84.t (Q:AV→aA→Prop) (x0:List UInt8) (x1:Int) (h:aA) (J:JT):Prop:=
C Y81.id [(AV.s x0),(AV.i .u8 x1)] h fun v1 h2=>
asI .i64 v1 fun n3=>
Q (AV.i .i64 n3) h2
theorem Y84.call {K x0 x1 h} (H:Y84.t (aL h K) x0 x1 h (Y84.J (aL h K))):C Y84.id [(AV.s x0),(AV.i .u8 x1)] h K:=
 gC Y84.J Tryz.func67 Y84.dist H
noncomputable def Y74.body:Code:=(Tryz.f68.body).getD .skip
def Y74.ann:Ann:=(sl [0] (sl [0,3] (sl [2] lf)))
theorem Y74.dist:aV (places Y74.ann Y74.body)=true:=by kernel_rfl
noncomputable def Y74.J (Q:AV→aA→Prop):JT:=bY prog C Tryz.f68 Y74.ann Y74.body Q
def Y74.t (Q:AV→aA→Prop) (x0:Int) (h:aA) (J:JT):Prop:=
aR (IntKind.wrap .i64 (x0 - 1970)) fun n2=>
aR (IntKind.wrap .i64 (365 * n2)) fun n3=>
aR (IntKind.wrap .i64 (x0 - 1)) fun n4=>
eK C (AV.fn (.func Y77.id) [] []) [(AV.i .i64 n4)] h fun v5 h6=>
asI .i64 v5 fun n7=>
aR (IntKind.wrap .i64 (n3+n7)) fun n8=>
eK C (AV.fn (.func Y77.id) [] []) [(AV.i .i64 1969)] h6 fun v9 h10=>
asI .i64 v9 fun n11=>
aR (IntKind.wrap .i64 (n8 - n11)) fun n12=>
Q (AV.i .i64 n12) h10
theorem Y74.call {K x0 h} (H:Y74.t (aL h K) x0 h (Y74.J (aL h K))):C Y74.id [(AV.i .i64 x0)] h K:=
 gC Y74.J Tryz.func68 Y74.dist H
noncomputable def Y47.body:Code:=(Tryz.f69.body).getD .skip
def Y47.ann:Ann:=(sl [0,1] (sq [] (sl [0,5] (.one (sl [0,5,6] (.br (sq [] (sl [9] (.br (sl [4] lf) lf)) (sl [4] lf)) (.seq 1 [10] (sl [5,10] (.br lf (sl [5,10] (.br lf (sl [5,10] bl))))) (.br (sl [4] lf) lf)))))) (sl [4] lf)))
theorem Y47.dist:aV (places Y47.ann Y47.body)=true:=by kernel_rfl
noncomputable def Y47.J (Q:AV→aA→Prop):JT:=bY prog C Tryz.f69 Y47.ann Y47.body Q
def Y47.p0 (Q:AV→aA→Prop) (x10:Bool) (h:aA):Prop:=Y47.J Q 1 [(10,(AV.b x10))] h
def Y47.t0 (Q:AV→aA→Prop) (x10:Bool) (h:aA) (J:JT):Prop:=
(bif x10 then
(Q (AV.i .i64 30) h)
else
(Q (AV.i .i64 31) h))
theorem Y47.i0 {Q x10 h} (H:Y47.t0 Q x10 h (Y47.J Q)):Y47.p0 Q x10 h:=gR Y47.J Tryz.f69 Y47.dist [1,0,1,0,1,1,1] H
def Y47.t (Q:AV→aA→Prop) (x0 x1:Int) (h:aA) (J:JT):Prop:=
(bif (decide ((x1:Int)=2)) then
(C Y63.id [(AV.i .i64 x0)] h fun v3 h4=>
asB v3 fun c5=>
(bif c5 then
(Q (AV.i .i64 29) h4)
else
(Q (AV.i .i64 28) h4)))
else
((bif (decide ((x1:Int)=4)) then
(J 1 [(10,(AV.b (decide ((x1:Int)=4))))] h)
else
((bif (decide ((x1:Int)=6)) then
(J 1 [(10,(AV.b (decide ((x1:Int)=6))))] h)
else
((bif (decide ((x1:Int)=9)) then
(J 1 [(10,(AV.b (decide ((x1:Int)=9))))] h)
else
(J 1 [(10,(AV.b (decide ((x1:Int)=11))))] h))))))))
theorem Y47.call {K x0 x1 h} (H:Y47.t (aL h K) x0 x1 h (Y47.J (aL h K))):C Y47.id [(AV.i .i64 x0),(AV.i .i64 x1)] h K:=
 gC Y47.J Tryz.func69 Y47.dist H
noncomputable def Y71.body:Code:=(Tryz.f70.body).getD .skip
def Y71.ann:Ann:=(sl [0] (sl [2] lf))
theorem Y71.dist:aV (places Y71.ann Y71.body)=true:=by kernel_rfl
noncomputable def Y71.J (Q:AV→aA→Prop):JT:=bY prog C Tryz.f70 Y71.ann Y71.body Q
def Y71.t (Q:AV→aA→Prop) (x0:Int) (h:aA) (J:JT):Prop:=
kS .i64 x0 10 fun n1=>
aR (IntKind.wrap .i64 (48+n1)) fun n2=>
jQ x0 10 fun n3=>
aR (IntKind.wrap .i64 (48+n3)) fun n4=>
bD 1 2 [(AV.i .u8 0),(AV.i .u8 0)] [(0,1,(AV.i .u8 (IntKind.wrap .u8 n2))),(1,1,(AV.i .u8 (IntKind.wrap .u8 n4)))] h fun v5 h6=>
cE v5 h6 fun l7=>
Q (AV.s l7) h6
theorem Y71.call {K x0 h} (H:Y71.t (aL h K) x0 h (Y71.J (aL h K))):C Y71.id [(AV.i .i64 x0)] h K:=
 gC Y71.J Tryz.func70 Y71.dist H
noncomputable def Y39.body:Code:=(Tryz.f71.body).getD .skip
def Y39.ann:Ann:=(sl [3,4,5] (sl [3,4,5] (sq [3,4,5] (.one (.seq 1 [3,4,5,15] lf (.br (sl [6] lf) (.seq 2 [3,4,5,34] lf (.br (sl [6] lf) (sl [3,4,5,53] (.br (sl [6] lf) (sl [3,4,5,56] (.br (sl [6] lf) lf))))))))) (sl [3,4,5,7] (sl [7] (sl [6] lf))))))
theorem Y39.dist:aV (places Y39.ann Y39.body)=true:=by kernel_rfl
noncomputable def Y39.J (Q:AV→aA→Prop):JT:=bY prog C Tryz.f71 Y39.ann Y39.body Q
def Y39.p1 (Q:AV→aA→Prop) (x3 x4 x5:AV) (x34:Bool) (h:aA):Prop:=Y39.J Q 2 [(3,x3),(4,x4),(5,x5),(34,(AV.b x34))] h
def Y39.p0 (Q:AV→aA→Prop) (x3 x4 x5:AV) (x15:Bool) (h:aA):Prop:=Y39.J Q 1 [(3,x3),(4,x4),(5,x5),(15,(AV.b x15))] h
def Y39.t1 (Q:AV→aA→Prop) (x3 x4 x5:AV) (x34:Bool) (h:aA) (J:JT):Prop:=
(bif x34 then
(Q (AV.i .i64 13) h)
else
(aE x5 h fun v58=>
asI .i64 v58 fun n59=>
(bif (decide ((24:Int)<n59)) then
(Q (AV.i .i64 9) h)
else
(aE x3 h fun v62=>
cC v62 fun v63=>
aC 0 v63 fun v64=>
aE v64 h fun v65=>
asI .i64 v65 fun n66=>
(bif (decide ((256:Int)<n66)) then
(Q (AV.i .i64 3) h)
else
(bS none [(AV.i .i64 0)] h fun v70 h71=>
aP 1 v70 (AV.i .i64 0) h71 fun h72=>
aC 4 x4 fun v74=>
aE v74 h72 fun v75=>
C Y55.id [v75,(AV.fn (.func Y83.id) [] [x3,x5,v70])] h72 fun v76 h77=>
asB v76 fun c78=>
aE v70 h77 fun v80=>
asI .i64 v80 fun n81=>
Q (AV.i .i64 n81) h77))))))
theorem Y39.i1 {Q x3 x4 x5 x34 h} (H:Y39.t1 Q x3 x4 x5 x34 h (Y39.J Q)):Y39.p1 Q x3 x4 x5 x34 h:=gR Y39.J Tryz.f71 Y39.dist [1,1,0,0,1,1,1] H
def Y39.t0 (Q:AV→aA→Prop) (x3 x4 x5:AV) (x15:Bool) (h:aA) (J:JT):Prop:=
(bif x15 then
(Q (AV.i .i64 4) h)
else
(aC 2 x4 fun v34=>
aE v34 h fun v35=>
asB v35 fun c36=>
(bif c36 then
(aC 3 x4 fun v37=>
aE v37 h fun v38=>
asS v38 fun l39=>
(bif (!(decide ((l39:List UInt8)=[]))) then
(J 2 [(3,x3),(4,x4),(5,x5),(34,(AV.b true))] h)
else
(aC 2 x4 fun v41=>
aE v41 h fun v42=>
asB v42 fun c43=>
(bif (!c43) then
(aC 4 x4 fun v44=>
aE v44 h fun v45=>
bJ v45 fun n46=>
J 2 [(3,x3),(4,x4),(5,x5),(34,(AV.b (decide ((0:Int)<n46))))] h)
else
(J 2 [(3,x3),(4,x4),(5,x5),(34,(AV.b false))] h)))))
else
(aC 2 x4 fun v49=>
aE v49 h fun v50=>
asB v50 fun c51=>
(bif (!c51) then
(aC 4 x4 fun v52=>
aE v52 h fun v53=>
bJ v53 fun n54=>
J 2 [(3,x3),(4,x4),(5,x5),(34,(AV.b (decide ((0:Int)<n54))))] h)
else
(J 2 [(3,x3),(4,x4),(5,x5),(34,(AV.b false))] h))))))
theorem Y39.i0 {Q x3 x4 x5 x15 h} (H:Y39.t0 Q x3 x4 x5 x15 h (Y39.J Q)):Y39.p0 Q x3 x4 x5 x15 h:=gR Y39.J Tryz.f71 Y39.dist [1,1,0,0,1] H
def Y39.t (Q:AV→aA→Prop) (x0 x1:AV) (x2:Int) (h:aA) (J:JT):Prop:=
dQ none x0 h fun v0 h1=>
dQ (some 33) x1 h1 fun v2 h3=>
dQ none (AV.i .i64 x2) h3 fun v4 h5=>
aE v0 h5 fun v7=>
cC v7 fun v8=>
aC 0 v8 fun v9=>
aE v9 h5 fun v10=>
asI .i64 v10 fun n11=>
aR (IntKind.wrap .i64 (n11+1)) fun n12=>
cC v7 fun v13=>
aC 0 v13 fun v14=>
aP 1 v14 (AV.i .i64 n12) h5 fun h15=>
aC 0 v2 fun v17=>
aE v17 h15 fun v18=>
asI .i64 v18 fun n19=>
(bif (decide ((n19:Int)<0)) then
(J 1 [(3,v0),(4,v2),(5,v4),(15,(AV.b true))] h15)
else
(aC 0 v2 fun v21=>
aE v21 h15 fun v22=>
asI .i64 v22 fun n23=>
(bif (decide ((3:Int)<n23)) then
(J 1 [(3,v0),(4,v2),(5,v4),(15,(AV.b true))] h15)
else
(aC 1 v2 fun v25=>
aE v25 h15 fun v26=>
asI .i64 v26 fun n27=>
(bif (decide ((n27:Int)<0)) then
(J 1 [(3,v0),(4,v2),(5,v4),(15,(AV.b true))] h15)
else
(aC 1 v2 fun v29=>
aE v29 h15 fun v30=>
asI .i64 v30 fun n31=>
J 1 [(3,v0),(4,v2),(5,v4),(15,(AV.b (decide ((30:Int)<n31))))] h15))))))
theorem Y39.call {K x0 x1 x2 h} (H:Y39.t (aL h K) x0 x1 x2 h (Y39.J (aL h K))):C Y39.id [x0,x1,(AV.i .i64 x2)] h K:=
 gC Y39.J Tryz.func71 Y39.dist H
noncomputable def Y18.body:Code:=(Tryz.f72.body).getD .skip
def Y18.ann:Ann:=(sl [1] (sl [1,3] (.seq 2 [1,3] (sl [1,3,12,13,14] (.one (.loop 1 [1,3,12,13,14] (sl [1,3,12,13,14,15] (sq [1,3,12,13,14] bl (sq [1,3,12,13,14] (.one (sl [1,3,5,12,13,14] (sl [1,3,12,13,14] (sl [1,3,12,13,14,24] bl)))) lf)))))) (sl [1,3,6] (.seq 3 [3,6] (sl [3,6,33] bl) (sl [3,7] (sl [3,7,8] (.seq 4 [3,7] (.one (sl [3,7,8,52] (.br lf (sl [3,7,8,60] (.br lf (sl [3,7,8,68] bl)))))) (sl [2] lf)))))))))
theorem Y18.dist:aV (places Y18.ann Y18.body)=true:=by kernel_rfl
noncomputable def Y18.J (Q:AV→aA→Prop):JT:=bY prog C Tryz.f72 Y18.ann Y18.body Q
def Y18.p0 (Q:AV→aA→Prop) (x1:AV) (x3:List UInt8) (x12:AV) (x13 x14:Int) (h:aA):Prop:=Y18.J Q 1 [(1,x1),(3,(AV.s x3)),(12,x12),(13,(AV.i .i64 x13)),(14,(AV.i .i64 x14))] h
def Y18.p3 (Q:AV→aA→Prop) (x3:List UInt8) (x7:AV) (h:aA):Prop:=Y18.J Q 4 [(3,(AV.s x3)),(7,x7)] h
def Y18.p2 (Q:AV→aA→Prop) (x3:List UInt8) (x6:Int) (h:aA):Prop:=Y18.J Q 3 [(3,(AV.s x3)),(6,(AV.i .i64 x6))] h
def Y18.p1 (Q:AV→aA→Prop) (x1:AV) (x3:List UInt8) (h:aA):Prop:=Y18.J Q 2 [(1,x1),(3,(AV.s x3))] h
def Y18.t0 (Q:AV→aA→Prop) (x1:AV) (x3:List UInt8) (x12:AV) (x13 x14:Int) (h:aA) (J:JT):Prop:=
(bif (decide ((x14:Int)<x13)) then
(aB 5 x12 (AV.i .i64 x14) h fun v14=>
aD 5 v14 h fun v15=>
bS (some 33) [(AV.i .i64 0),(AV.i .i64 0),(AV.b false),(AV.s []),(AV.sl none 0 none)] h fun v16 h17=>
aP 5 v16 v15 h17 fun h18=>
aD 5 v16 h18 fun v20=>
C Y18.id [v20] h18 fun v21 h22=>
asS v21 fun l23=>
eI x3 l23 fun l24=>
(bif (decide ((131070:Int)<(l24.length:Int))) then
(J 2 [(1,x1),(3,(AV.s l24))] h22)
else
(aR (IntKind.wrap .i64 (x14+1)) fun n29=>
J 1 [(1,x1),(3,(AV.s l24)),(12,x12),(13,(AV.i .i64 x13)),(14,(AV.i .i64 n29))] h22)))
else
(J 2 [(1,x1),(3,(AV.s x3))] h))
theorem Y18.i0 {Q x1 x3 x12 x13 x14 h} (H:Y18.t0 Q x1 x3 x12 x13 x14 h (Y18.J Q)):Y18.p0 Q x1 x3 x12 x13 x14 h:=gH Y18.J Tryz.f72 Y18.dist [1,1,0,1,0] H
def Y18.t3 (Q:AV→aA→Prop) (x3:List UInt8) (x7:AV) (h:aA) (J:JT):Prop:=
cE x7 h fun l80=>
eI l80 x3 fun l81=>
Q (AV.s l81) h
theorem Y18.i3 {Q x3 x7 h} (H:Y18.t3 Q x3 x7 h (Y18.J Q)):Y18.p3 Q x3 x7 h:=gR Y18.J Tryz.f72 Y18.dist [1,1,1,1,1,1,1,1] H
def Y18.t2 (Q:AV→aA→Prop) (x3:List UInt8) (x6:Int) (h:aA) (J:JT):Prop:=
bD 1 1 [(AV.i .u8 0)] [(0,1,(AV.i .u8 (IntKind.wrap .u8 x6)))] h fun v46 h47=>
(bif (decide (((x3.length:Int):Int)<128)) then
(aR (IntKind.wrap .u8 (x3.length:Int)) fun n51=>
bD 1 1 [(AV.i .u8 0)] [(0,1,(AV.i .u8 n51))] h47 fun v52 h53=>
bQ (some 5) 1 1 v46 v52 h53 fun v54 h55=>
J 4 [(3,(AV.s x3)),(7,v54)] h55)
else
((bif (decide (((x3.length:Int):Int)<256)) then
(aR (IntKind.wrap .u8 (x3.length:Int)) fun n58=>
bD 1 2 [(AV.i .u8 0),(AV.i .u8 0)] [(0,1,(AV.i .u8 129)),(1,1,(AV.i .u8 n58))] h47 fun v59 h60=>
bQ (some 5) 1 1 v46 v59 h60 fun v61 h62=>
J 4 [(3,(AV.s x3)),(7,v61)] h62)
else
((bif (decide (((x3.length:Int):Int)<65536)) then
(rE .i64 (x3.length:Int) 8 fun n65=>
aR (IntKind.wrap .u8 (x3.length:Int)) fun n66=>
bD 1 3 [(AV.i .u8 0),(AV.i .u8 0),(AV.i .u8 0)] [(0,1,(AV.i .u8 130)),(1,1,(AV.i .u8 (IntKind.wrap .u8 n65))),(2,1,(AV.i .u8 n66))] h47 fun v67 h68=>
bQ (some 5) 1 1 v46 v67 h68 fun v69 h70=>
J 4 [(3,(AV.s x3)),(7,v69)] h70)
else
(rE .i64 (x3.length:Int) 16 fun n72=>
rE .i64 (x3.length:Int) 8 fun n73=>
aR (IntKind.wrap .u8 (x3.length:Int)) fun n74=>
bD 1 4 [(AV.i .u8 0),(AV.i .u8 0),(AV.i .u8 0),(AV.i .u8 0)] [(0,1,(AV.i .u8 131)),(1,1,(AV.i .u8 (IntKind.wrap .u8 n72))),(2,1,(AV.i .u8 (IntKind.wrap .u8 n73))),(3,1,(AV.i .u8 n74))] h47 fun v75 h76=>
bQ (some 5) 1 1 v46 v75 h76 fun v77 h78=>
J 4 [(3,(AV.s x3)),(7,v77)] h78))))))
theorem Y18.i2 {Q x3 x6 h} (H:Y18.t2 Q x3 x6 h (Y18.J Q)):Y18.p2 Q x3 x6 h:=gR Y18.J Tryz.f72 Y18.dist [1,1,1,1,1] H
def Y18.t1 (Q:AV→aA→Prop) (x1:AV) (x3:List UInt8) (h:aA) (J:JT):Prop:=
aC 0 x1 fun v31=>
aE v31 h fun v32=>
asI .i64 v32 fun n33=>
tF .i64 n33 6 fun n34=>
aC 1 x1 fun v35=>
aE v35 h fun v36=>
asI .i64 v36 fun n37=>
aR (cD .or .i64 n34 n37) fun n38=>
aC 2 x1 fun v40=>
aE v40 h fun v41=>
asB v41 fun c42=>
(bif c42 then
(J 3 [(3,(AV.s x3)),(6,(AV.i .i64 (cD .or .i64 n38 32)))] h)
else
(J 3 [(3,(AV.s x3)),(6,(AV.i .i64 n38))] h))
theorem Y18.i1 {Q x1 x3 h} (H:Y18.t1 Q x1 x3 h (Y18.J Q)):Y18.p1 Q x1 x3 h:=gR Y18.J Tryz.f72 Y18.dist [1,1,1] H
def Y18.t (Q:AV→aA→Prop) (x0:AV) (h:aA) (J:JT):Prop:=
dQ (some 33) x0 h fun v0 h1=>
aC 3 v0 fun v3=>
aE v3 h1 fun v4=>
asS v4 fun l5=>
aC 4 v0 fun v7=>
aE v7 h1 fun v8=>
bJ v8 fun n9=>
J 1 [(1,v0),(3,(AV.s l5)),(12,v8),(13,(AV.i .i64 n9)),(14,(AV.i .i64 0))] h1
theorem Y18.call {K x0 h} (H:Y18.t (aL h K) x0 h (Y18.J (aL h K))):C Y18.id [x0] h K:=
 gC Y18.J Tryz.func72 Y18.dist H
noncomputable def Y25.body:Code:=(Tryz.f73.body).getD .skip
def Y25.ann:Ann:=(sl [0] (sl [0,3] (sq [3] (sl [0,3,4] (.one (.loop 1 [0,3,4] (sq [0,3,4] (sl [0,3,4,9] bl) (sq [0,3,4] (.one (sl [0,3,4,5] (.seq 3 [0,3,4,5] (.seq 2 [0,3,4,5,20] lf bl) lf))) lf))))) (sl [2] lf))))
theorem Y25.dist:aV (places Y25.ann Y25.body)=true:=by kernel_rfl
noncomputable def Y25.J (Q:AV→aA→Prop):JT:=bY prog C Tryz.f73 Y25.ann Y25.body Q
def Y25.p1 (Q:AV→aA→Prop) (x0:List UInt8) (x3:AV) (x4 x5:Int) (x20:Bool) (h:aA):Prop:=Y25.J Q 2 [(0,(AV.s x0)),(3,x3),(4,(AV.i .i64 x4)),(5,(AV.i .u8 x5)),(20,(AV.b x20))] h
def Y25.p2 (Q:AV→aA→Prop) (x0:List UInt8) (x3:AV) (x4 x5:Int) (h:aA):Prop:=Y25.J Q 3 [(0,(AV.s x0)),(3,x3),(4,(AV.i .i64 x4)),(5,(AV.i .u8 x5))] h
def Y25.p0 (Q:AV→aA→Prop) (x0:List UInt8) (x3:AV) (x4:Int) (h:aA):Prop:=Y25.J Q 1 [(0,(AV.s x0)),(3,x3),(4,(AV.i .i64 x4))] h
def Y25.t1 (Q:AV→aA→Prop) (x0:List UInt8) (x3:AV) (x4 x5:Int) (x20:Bool) (h:aA) (J:JT):Prop:=
(bif x20 then
(aR (IntKind.wrap .u8 (x5+32)) fun n10=>
J 3 [(0,(AV.s x0)),(3,x3),(4,(AV.i .i64 x4)),(5,(AV.i .u8 n10))] h)
else
(J 3 [(0,(AV.s x0)),(3,x3),(4,(AV.i .i64 x4)),(5,(AV.i .u8 x5))] h))
theorem Y25.i1 {Q x0 x3 x4 x5 x20 h} (H:Y25.t1 Q x0 x3 x4 x5 x20 h (Y25.J Q)):Y25.p1 Q x0 x3 x4 x5 x20 h:=gR Y25.J Tryz.f73 Y25.dist [1,1,0,1,0,0,1,0,0,1,0,1] H
def Y25.t2 (Q:AV→aA→Prop) (x0:List UInt8) (x3:AV) (x4 x5:Int) (h:aA) (J:JT):Prop:=
bD 1 1 [(AV.i .u8 0)] [(0,1,(AV.i .u8 x5))] h fun v13 h14=>
bQ (some 5) 1 1 x3 v13 h14 fun v15 h16=>
aR (IntKind.wrap .i64 (x4+1)) fun n18=>
J 1 [(0,(AV.s x0)),(3,v15),(4,(AV.i .i64 n18))] h16
theorem Y25.i2 {Q x0 x3 x4 x5 h} (H:Y25.t2 Q x0 x3 x4 x5 h (Y25.J Q)):Y25.p2 Q x0 x3 x4 x5 h:=gR Y25.J Tryz.f73 Y25.dist [1,1,0,1,0,0,1,0,0,1,1] H
def Y25.t0 (Q:AV→aA→Prop) (x0:List UInt8) (x3:AV) (x4:Int) (h:aA) (J:JT):Prop:=
(bif (decide ((x4:Int)<(x0.length:Int))) then
(bN (AV.s x0) (AV.i .i64 x4) fun n6=>
(bif (decide ((65:Int)≤n6)) then
(J 2 [(0,(AV.s x0)),(3,x3),(4,(AV.i .i64 x4)),(5,(AV.i .u8 n6)),(20,(AV.b (decide ((n6:Int)≤90))))] h)
else
(J 2 [(0,(AV.s x0)),(3,x3),(4,(AV.i .i64 x4)),(5,(AV.i .u8 n6)),(20,(AV.b false))] h)))
else
(cE x3 h fun l20=>
Q (AV.s l20) h))
theorem Y25.i0 {Q x0 x3 x4 h} (H:Y25.t0 Q x0 x3 x4 h (Y25.J Q)):Y25.p0 Q x0 x3 x4 h:=gH Y25.J Tryz.f73 Y25.dist [1,1,0,1,0] H
def Y25.t (Q:AV→aA→Prop) (x0:List UInt8) (h:aA) (J:JT):Prop:=
J 1 [(0,(AV.s x0)),(3,(AV.sl none 0 none)),(4,(AV.i .i64 0))] h
theorem Y25.call {K x0 h} (H:Y25.t (aL h K) x0 h (Y25.J (aL h K))):C Y25.id [(AV.s x0)] h K:=
 gC Y25.J Tryz.func73 Y25.dist H
noncomputable def Y61.body:Code:=(Tryz.f80.body).getD .skip
def Y61.ann:Ann:=(sl [0] (.seq 1 [2] lf lf))
theorem Y61.dist:aV (places Y61.ann Y61.body)=true:=by kernel_rfl
noncomputable def Y61.J (Q:AV→aA→Prop):JT:=bY prog C Tryz.f80 Y61.ann Y61.body Q
def Y61.p0 (Q:AV→aA→Prop) (x2:Bool) (h:aA):Prop:=Y61.J Q 1 [(2,(AV.b x2))] h
def Y61.t0 (Q:AV→aA→Prop) (x2:Bool) (h:aA) (J:JT):Prop:=
Q (AV.b x2) h
theorem Y61.i0 {Q x2 h} (H:Y61.t0 Q x2 h (Y61.J Q)):Y61.p0 Q x2 h:=gR Y61.J Tryz.f80 Y61.dist [1,1] H
def Y61.t (Q:AV→aA→Prop) (x0:Int) (h:aA) (J:JT):Prop:=
jQ x0 4 fun n1=>
(bif (decide ((n1:Int)=0)) then
(jQ x0 100 fun n2=>
(bif (!decide ((n2:Int)=0)) then
(J 1 [(2,(AV.b true))] h)
else
(jQ x0 400 fun n4=>
J 1 [(2,(AV.b (decide ((n4:Int)=0))))] h)))
else
(J 1 [(2,(AV.b false))] h))
theorem Y61.call {K x0 h} (H:Y61.t (aL h K) x0 h (Y61.J (aL h K))):C Y61.id [(AV.i .i64 x0)] h K:=
 gC Y61.J Tryz.func80 Y61.dist H
noncomputable def Y58.body:Code:=(Tryz.f81.body).getD .skip
def Y58.ann:Ann:=(sl [0,1] (sq [] (sl [0,5] (.one (sl [0,5,6] (.br (sq [] (sl [9] (.br (sl [4] lf) lf)) (sl [4] lf)) (.seq 1 [10] (sl [5,10] (.br lf (sl [5,10] (.br lf (sl [5,10] bl))))) (.br (sl [4] lf) lf)))))) (sl [4] lf)))
theorem Y58.dist:aV (places Y58.ann Y58.body)=true:=by kernel_rfl
noncomputable def Y58.J (Q:AV→aA→Prop):JT:=bY prog C Tryz.f81 Y58.ann Y58.body Q
def Y58.p0 (Q:AV→aA→Prop) (x10:Bool) (h:aA):Prop:=Y58.J Q 1 [(10,(AV.b x10))] h
def Y58.t0 (Q:AV→aA→Prop) (x10:Bool) (h:aA) (J:JT):Prop:=
(bif x10 then
(Q (AV.i .i64 30) h)
else
(Q (AV.i .i64 31) h))
theorem Y58.i0 {Q x10 h} (H:Y58.t0 Q x10 h (Y58.J Q)):Y58.p0 Q x10 h:=gR Y58.J Tryz.f81 Y58.dist [1,0,1,0,1,1,1] H
def Y58.t (Q:AV→aA→Prop) (x0 x1:Int) (h:aA) (J:JT):Prop:=
(bif (decide ((x1:Int)=2)) then
(C Y61.id [(AV.i .i64 x0)] h fun v3 h4=>
asB v3 fun c5=>
(bif c5 then
(Q (AV.i .i64 29) h4)
else
(Q (AV.i .i64 28) h4)))
else
((bif (decide ((x1:Int)=4)) then
(J 1 [(10,(AV.b (decide ((x1:Int)=4))))] h)
else
((bif (decide ((x1:Int)=6)) then
(J 1 [(10,(AV.b (decide ((x1:Int)=6))))] h)
else
((bif (decide ((x1:Int)=9)) then
(J 1 [(10,(AV.b (decide ((x1:Int)=9))))] h)
else
(J 1 [(10,(AV.b (decide ((x1:Int)=11))))] h))))))))
theorem Y58.call {K x0 x1 h} (H:Y58.t (aL h K) x0 x1 h (Y58.J (aL h K))):C Y58.id [(AV.i .i64 x0),(AV.i .i64 x1)] h K:=
 gC Y58.J Tryz.func81 Y58.dist H
noncomputable def Y104.body:Code:=(Tryz.f83.body).getD .skip
def Y104.ann:Ann:=(sl [0,1] (sq [0] (sl [0,1,7] (sl [0,1,7,12] (.br (sq [4,5,6] (.ord (nn 0 12 .done)) lf) lf))) (sl [4,5,6] lf)))
theorem Y104.dist:aV (places Y104.ann Y104.body)=true:=by kernel_rfl
noncomputable def Y104.J (Q:AV→aA→Prop):JT:=bY prog C Tryz.f83 Y104.ann Y104.body Q
def Y104.t (Q:AV→aA→Prop) (x0 x1:List UInt8) (h:aA) (J:JT):Prop:=
C Y65.id [(AV.s x0),(AV.s x1)] h fun v1 h2=>
asI .i64 v1 fun n3=>
(bif (decide ((0:Int)≤n3)) then
(bV (AV.s x0) none (some (AV.i .i64 n3)) fun l6=>
aR (IntKind.wrap .i64 (n3+(x1.length:Int))) fun n7=>
bV (AV.s x0) (some (AV.i .i64 n7)) none fun l8=>
Q (AV.tu [(AV.s l6),(AV.s l8),(AV.b true)]) h2)
else
(Q (AV.tu [(AV.s x0),(AV.s []),(AV.b false)]) h2))
theorem Y104.call {K x0 x1 h} (H:Y104.t (aL h K) x0 x1 h (Y104.J (aL h K))):C Y104.id [(AV.s x0),(AV.s x1)] h K:=
 gC Y104.J Tryz.func83 Y104.dist H
end Go.Proofs.YtcdkpkkdolmfdaaGreatDoor
