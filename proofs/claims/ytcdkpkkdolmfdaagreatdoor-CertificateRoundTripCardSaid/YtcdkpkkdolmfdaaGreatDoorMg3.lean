/- Lemmas (several texts in one). -/
import Derived.Test.YtcdkpkkdolmfdaaGreatDoorMg2
set_option linter.unusedVariables false
set_option linter.unusedSectionVars false
set_option maxRecDepth 100000
namespace Go.Proofs.YtcdkpkkdolmfdaaGreatDoor
open Go.GAM
variable [XR]
noncomputable def Y0.body:Code:=(Tryz.f57.body).getD .skip
def Y0.ann:Ann:=(.seq 0 [0,1,4] .leaf (.seq 0 [0,4,16,17,18] .leaf (.one (.loop 1 [0,4,16,17,18] (.seq 0 [0,4,16,17,18,19] .leaf (.seq 0 [0,4,16,17,18] (.br .leaf .leaf) (.seq 11 [0,4,16,17,18] (.one (.seq 0 [0,4,6,16,17,18] .leaf (.seq 0 [0,4,6,7,16,17,18] .leaf (.seq 0 [0,4,6,7,16,17,18] (.seq 2 [0,4,6,7,16,17,18,38] .leaf (.br .leaf .leaf)) (.seq 0 [0,4,6,7,8,9,16,17,18] .leaf (.seq 3 [0,4,6,7,8,9,10,16,17,18] (.ord (.neu 0 (.neu 1 (.neu 2 (.neu 3 (.neu 4 (.neu 5 (.neu 6 (.neu 7 (.eff 8 (.neu 9 (.neu 10 (.neu 11 (.neu 12 (.neu 13 (.neu 14 (.neu 15 (.neu 16 (.neu 17 (.neu 18 (.neu 19 .done))))))))))) .stop)))))))))) (.seq 0 [0,4,6,7,8,16,17,18] (.seq 4 [0,4,6,7,8,16,17,18,82] (.ord (.neu 0 (.neu 1 (.neu 2 (.neu 3 (.neu 4 (.neu 5 (.neu 6 (.neu 7 (.neu 8 (.neu 9 (.neu 10 (.neu 11 (.neu 12 (.eff 13 (.neu 14 (.eff 15 (.neu 16 .done) .stop)) .stop))))))))))))))) (.br .leaf .leaf)) (.seq 0 [0,4,6,7,8,16,17,18] (.seq 5 [0,4,6,7,8,16,17,18,93] .leaf (.br .leaf .leaf)) (.seq 0 [0,4,6,7,8,16,17,18] .leaf (.seq 0 [0,4,8,11,12,16,17,18] .leaf (.seq 0 [0,4,8,11,16,17,18] (.seq 6 [0,4,8,11,16,17,18,116] .leaf (.br .leaf .leaf)) (.seq 0 [0,4,11,16,17,18] (.seq 0 [0,4,11,16,17,18,118] .leaf (.br (.seq 7 [0,4,16,17,18] (.ord (.neu 0 (.neu 1 (.neu 2 (.neu 3 (.neu 4 (.neu 5 (.neu 6 (.neu 7 (.neu 8 (.neu 9 (.neu 10 (.eff 11 (.neu 12 (.neu 13 (.neu 14 (.neu 15 (.neu 16 (.neu 17 (.neu 18 (.neu 19 (.neu 20 (.neu 21 (.neu 22 (.neu 23 (.neu 24 (.neu 25 (.neu 26 (.neu 27 (.neu 28 (.neu 29 (.neu 30 (.neu 31 (.neu 32 (.eff 33 .done .stop)))))))))))))))))))))) .stop))))))))))))) .leaf) .leaf)) (.seq 0 [0,4,16,17,18,153,154,155] .leaf (.one (.loop 8 [0,4,16,17,18,153,154,155] (.seq 0 [0,4,16,17,18,153,154,155,156] .leaf (.seq 0 [0,4,16,17,18,153,154,155] (.br .leaf .leaf) (.seq 10 [0,4,16,17,18,153,154,155] (.one (.seq 0 [0,4,14,16,17,18,153,154,155] .leaf (.seq 9 [0,4,14,16,17,18,153,154,155,170] .leaf (.br (.ord (.neu 0 (.neu 1 (.neu 2 (.neu 3 (.neu 4 (.neu 5 (.neu 6 (.neu 7 (.eff 8 (.eff 9 (.eff 10 (.neu 11 (.neu 12 (.neu 13 (.eff 14 .done .stop)))) .stop) .stop) .stop)))))))))) .leaf)))) .leaf)))))))))))))))))) .leaf)))))))
theorem Y0.body_eq:Tryz.f57.body=some Y0.body:=by kernel_rfl
theorem Y0.dist:noTwice (places Y0.ann Y0.body)=true:=by kernel_rfl
noncomputable def Y0.J (Q:AV→AHeap→Prop):JT:=funJ prog C Tryz.f57 Y0.ann Y0.body Q
theorem Y0.goR {Q:AV→AHeap→Prop} {k:Nat} {p:List Nat} (hl:lookJ (places Y0.ann Y0.body) k=some (p,false)) {e:Env} {h:AHeap} (hk:atJ prog C 187 (Y0.J Q) false p Y0.ann Y0.body e h (kFun prog Tryz.f57 Q)):Y0.J Q k e h:=goJ_run (P:=prog) (fn:=Tryz.f57) (ann:=Y0.ann) (body:=Y0.body) (Q:=Q) (k:=k) (p:=p) (e:=e) (h:=h) (acall_le X) Y0.dist hl hk
theorem Y0.goH {Q:AV→AHeap→Prop} {k:Nat} {p:List Nat} (hl:lookJ (places Y0.ann Y0.body) k=some (p,true)) {e:Env} {h:AHeap} (hk:atJ prog C 187 (Y0.J Q) true p Y0.ann Y0.body e h (kFun prog Tryz.f57 Q)):Y0.J Q k e h:=goJ_head (P:=prog) (fn:=Tryz.f57) (ann:=Y0.ann) (body:=Y0.body) (Q:=Q) (k:=k) (p:=p) (e:=e) (h:=h) (acall_le X) Y0.dist hl hk
def Y0.p1 (Q:AV→AHeap→Prop) (x0:AV) (x4:AV) (x6:AV) (x7:Int) (x16:AV) (x17:Int) (x18:Int) (x38:Bool) (h:AHeap):Prop:=Y0.J Q 2 [(0,x0),(4,x4),(6,x6),(7,(AV.i .i64 x7)),(16,x16),(17,(AV.i .i64 x17)),(18,(AV.i .i64 x18)),(38,(AV.b x38))] h
theorem Y0.j1 (Q:AV→AHeap→Prop) (x0:AV) (x4:AV) (x6:AV) (x7:Int) (x16:AV) (x17:Int) (x18:Int) (x38:Bool) (h:AHeap):Y0.J Q 2 [(0,x0),(4,x4),(6,x6),(7,(AV.i .i64 x7)),(16,x16),(17,(AV.i .i64 x17)),(18,(AV.i .i64 x18)),(38,(AV.b x38))] h=Y0.p1 Q x0 x4 x6 x7 x16 x17 x18 x38 h:=rfl
def Y0.p3 (Q:AV→AHeap→Prop) (x0:AV) (x4:AV) (x6:AV) (x7:Int) (x8:List UInt8) (x16:AV) (x17:Int) (x18:Int) (x82:Bool) (h:AHeap):Prop:=Y0.J Q 4 [(0,x0),(4,x4),(6,x6),(7,(AV.i .i64 x7)),(8,(AV.s x8)),(16,x16),(17,(AV.i .i64 x17)),(18,(AV.i .i64 x18)),(82,(AV.b x82))] h
theorem Y0.j3 (Q:AV→AHeap→Prop) (x0:AV) (x4:AV) (x6:AV) (x7:Int) (x8:List UInt8) (x16:AV) (x17:Int) (x18:Int) (x82:Bool) (h:AHeap):Y0.J Q 4 [(0,x0),(4,x4),(6,x6),(7,(AV.i .i64 x7)),(8,(AV.s x8)),(16,x16),(17,(AV.i .i64 x17)),(18,(AV.i .i64 x18)),(82,(AV.b x82))] h=Y0.p3 Q x0 x4 x6 x7 x8 x16 x17 x18 x82 h:=rfl
def Y0.p4 (Q:AV→AHeap→Prop) (x0:AV) (x4:AV) (x6:AV) (x7:Int) (x8:List UInt8) (x16:AV) (x17:Int) (x18:Int) (x93:Bool) (h:AHeap):Prop:=Y0.J Q 5 [(0,x0),(4,x4),(6,x6),(7,(AV.i .i64 x7)),(8,(AV.s x8)),(16,x16),(17,(AV.i .i64 x17)),(18,(AV.i .i64 x18)),(93,(AV.b x93))] h
theorem Y0.j4 (Q:AV→AHeap→Prop) (x0:AV) (x4:AV) (x6:AV) (x7:Int) (x8:List UInt8) (x16:AV) (x17:Int) (x18:Int) (x93:Bool) (h:AHeap):Y0.J Q 5 [(0,x0),(4,x4),(6,x6),(7,(AV.i .i64 x7)),(8,(AV.s x8)),(16,x16),(17,(AV.i .i64 x17)),(18,(AV.i .i64 x18)),(93,(AV.b x93))] h=Y0.p4 Q x0 x4 x6 x7 x8 x16 x17 x18 x93 h:=rfl
def Y0.p5 (Q:AV→AHeap→Prop) (x0:AV) (x4:AV) (x8:List UInt8) (x11:AV) (x16:AV) (x17:Int) (x18:Int) (x116:Bool) (h:AHeap):Prop:=Y0.J Q 6 [(0,x0),(4,x4),(8,(AV.s x8)),(11,x11),(16,x16),(17,(AV.i .i64 x17)),(18,(AV.i .i64 x18)),(116,(AV.b x116))] h
theorem Y0.j5 (Q:AV→AHeap→Prop) (x0:AV) (x4:AV) (x8:List UInt8) (x11:AV) (x16:AV) (x17:Int) (x18:Int) (x116:Bool) (h:AHeap):Y0.J Q 6 [(0,x0),(4,x4),(8,(AV.s x8)),(11,x11),(16,x16),(17,(AV.i .i64 x17)),(18,(AV.i .i64 x18)),(116,(AV.b x116))] h=Y0.p5 Q x0 x4 x8 x11 x16 x17 x18 x116 h:=rfl
def Y0.p6 (Q:AV→AHeap→Prop) (x0:AV) (x4:AV) (x16:AV) (x17:Int) (x18:Int) (h:AHeap):Prop:=Y0.J Q 7 [(0,x0),(4,x4),(16,x16),(17,(AV.i .i64 x17)),(18,(AV.i .i64 x18))] h
def Y0.p8 (Q:AV→AHeap→Prop) (x0:AV) (x4:AV) (x14:AV) (x16:AV) (x17:Int) (x18:Int) (x153:AV) (x154:Int) (x155:Int) (x170:Bool) (h:AHeap):Prop:=Y0.J Q 9 [(0,x0),(4,x4),(14,x14),(16,x16),(17,(AV.i .i64 x17)),(18,(AV.i .i64 x18)),(153,x153),(154,(AV.i .i64 x154)),(155,(AV.i .i64 x155)),(170,(AV.b x170))] h
theorem Y0.j8 (Q:AV→AHeap→Prop) (x0:AV) (x4:AV) (x14:AV) (x16:AV) (x17:Int) (x18:Int) (x153:AV) (x154:Int) (x155:Int) (x170:Bool) (h:AHeap):Y0.J Q 9 [(0,x0),(4,x4),(14,x14),(16,x16),(17,(AV.i .i64 x17)),(18,(AV.i .i64 x18)),(153,x153),(154,(AV.i .i64 x154)),(155,(AV.i .i64 x155)),(170,(AV.b x170))] h=Y0.p8 Q x0 x4 x14 x16 x17 x18 x153 x154 x155 x170 h:=rfl
def Y0.p9 (Q:AV→AHeap→Prop) (x0:AV) (x4:AV) (x16:AV) (x17:Int) (x18:Int) (x153:AV) (x154:Int) (x155:Int) (h:AHeap):Prop:=Y0.J Q 10 [(0,x0),(4,x4),(16,x16),(17,(AV.i .i64 x17)),(18,(AV.i .i64 x18)),(153,x153),(154,(AV.i .i64 x154)),(155,(AV.i .i64 x155))] h
theorem Y0.j9 (Q:AV→AHeap→Prop) (x0:AV) (x4:AV) (x16:AV) (x17:Int) (x18:Int) (x153:AV) (x154:Int) (x155:Int) (h:AHeap):Y0.J Q 10 [(0,x0),(4,x4),(16,x16),(17,(AV.i .i64 x17)),(18,(AV.i .i64 x18)),(153,x153),(154,(AV.i .i64 x154)),(155,(AV.i .i64 x155))] h=Y0.p9 Q x0 x4 x16 x17 x18 x153 x154 x155 h:=rfl
def Y0.p7 (Q:AV→AHeap→Prop) (x0:AV) (x4:AV) (x16:AV) (x17:Int) (x18:Int) (x153:AV) (x154:Int) (x155:Int) (h:AHeap):Prop:=Y0.J Q 8 [(0,x0),(4,x4),(16,x16),(17,(AV.i .i64 x17)),(18,(AV.i .i64 x18)),(153,x153),(154,(AV.i .i64 x154)),(155,(AV.i .i64 x155))] h
theorem Y0.j7 (Q:AV→AHeap→Prop) (x0:AV) (x4:AV) (x16:AV) (x17:Int) (x18:Int) (x153:AV) (x154:Int) (x155:Int) (h:AHeap):Y0.J Q 8 [(0,x0),(4,x4),(16,x16),(17,(AV.i .i64 x17)),(18,(AV.i .i64 x18)),(153,x153),(154,(AV.i .i64 x154)),(155,(AV.i .i64 x155))] h=Y0.p7 Q x0 x4 x16 x17 x18 x153 x154 x155 h:=rfl
def Y0.p2 (Q:AV→AHeap→Prop) (x0:AV) (x4:AV) (x6:AV) (x7:Int) (x8:List UInt8) (x9:Bool) (x10:Bool) (x16:AV) (x17:Int) (x18:Int) (h:AHeap):Prop:=Y0.J Q 3 [(0,x0),(4,x4),(6,x6),(7,(AV.i .i64 x7)),(8,(AV.s x8)),(9,(AV.b x9)),(10,(AV.b x10)),(16,x16),(17,(AV.i .i64 x17)),(18,(AV.i .i64 x18))] h
theorem Y0.j2 (Q:AV→AHeap→Prop) (x0:AV) (x4:AV) (x6:AV) (x7:Int) (x8:List UInt8) (x9:Bool) (x10:Bool) (x16:AV) (x17:Int) (x18:Int) (h:AHeap):Y0.J Q 3 [(0,x0),(4,x4),(6,x6),(7,(AV.i .i64 x7)),(8,(AV.s x8)),(9,(AV.b x9)),(10,(AV.b x10)),(16,x16),(17,(AV.i .i64 x17)),(18,(AV.i .i64 x18))] h=Y0.p2 Q x0 x4 x6 x7 x8 x9 x10 x16 x17 x18 h:=rfl
def Y0.p10 (Q:AV→AHeap→Prop) (x0:AV) (x4:AV) (x16:AV) (x17:Int) (x18:Int) (h:AHeap):Prop:=Y0.J Q 11 [(0,x0),(4,x4),(16,x16),(17,(AV.i .i64 x17)),(18,(AV.i .i64 x18))] h
theorem Y0.j10 (Q:AV→AHeap→Prop) (x0:AV) (x4:AV) (x16:AV) (x17:Int) (x18:Int) (h:AHeap):Y0.J Q 11 [(0,x0),(4,x4),(16,x16),(17,(AV.i .i64 x17)),(18,(AV.i .i64 x18))] h=Y0.p10 Q x0 x4 x16 x17 x18 h:=rfl
def Y0.p0 (Q:AV→AHeap→Prop) (x0:AV) (x4:AV) (x16:AV) (x17:Int) (x18:Int) (h:AHeap):Prop:=Y0.J Q 1 [(0,x0),(4,x4),(16,x16),(17,(AV.i .i64 x17)),(18,(AV.i .i64 x18))] h
theorem Y0.j0 (Q:AV→AHeap→Prop) (x0:AV) (x4:AV) (x16:AV) (x17:Int) (x18:Int) (h:AHeap):Y0.J Q 1 [(0,x0),(4,x4),(16,x16),(17,(AV.i .i64 x17)),(18,(AV.i .i64 x18))] h=Y0.p0 Q x0 x4 x16 x17 x18 h:=rfl
def Y0.t1 (J:JT) (Q:AV→AHeap→Prop) (x0:AV) (x4:AV) (x6:AV) (x7:Int) (x16:AV) (x17:Int) (x18:Int) (x38:Bool) (h:AHeap):Prop:=
(bif x38 then
(Q (AV.tu []) h)
else
(pFieldAddr 4 x6 fun v35=>
pLoad1 v35 h fun v36=>
pIdxAddrSl 5 v36 (AV.i .i64 0) h fun v37=>
pLoadN 5 v37 h fun v38=>
C Y5.id [v38] h fun v39 h40=>
pExtract 0 v39 fun v41=>
asS v41 fun l42=>
pExtract 1 v39 fun v43=>
asB v43 fun c44=>
(bif (decide ((x7:Int)=2)) then
(J 3 [(0,x0),(4,x4),(6,x6),(7,(AV.i .i64 x7)),(8,(AV.s l42)),(9,(AV.b c44)),(10,(AV.b true)),(16,x16),(17,(AV.i .i64 x17)),(18,(AV.i .i64 x18))] h40)
else
(pLoadN 3 (gvar h40 5) h40 fun v47=>
pFieldAddr 4 x6 fun v48=>
pLoad1 v48 h40 fun v49=>
pIdxAddrSl 5 v49 (AV.i .i64 1) h40 fun v50=>
pLoadN 5 v50 h40 fun v51=>
C Y45.id [v47,v51] h40 fun v52 h53=>
asB v52 fun c54=>
pIdxAddrSl 5 v49 (AV.i .i64 1) h53 fun v55=>
(v50=v55 ∧
(pLoad1 v48 h53 fun v56=>
(v49=v56 ∧
((bif c54 then
(pFieldAddr 4 x6 fun v57=>
pLoad1 v57 h53 fun v58=>
pIdxAddrSl 5 v58 (AV.i .i64 1) h53 fun v59=>
pFieldAddr 3 v59 fun v60=>
pLoad1 v60 h53 fun v61=>
asS v61 fun l62=>
J 3 [(0,x0),(4,x4),(6,x6),(7,(AV.i .i64 x7)),(8,(AV.s l42)),(9,(AV.b c44)),(10,(AV.b (decide (((l62.length:Int):Int)=1)))),(16,x16),(17,(AV.i .i64 x17)),(18,(AV.i .i64 x18))] h53)
else
(J 3 [(0,x0),(4,x4),(6,x6),(7,(AV.i .i64 x7)),(8,(AV.s l42)),(9,(AV.b c44)),(10,(AV.b false)),(16,x16),(17,(AV.i .i64 x17)),(18,(AV.i .i64 x18))] h53))))))))))
theorem Y0.t1_eq (J:JT) (Q:AV→AHeap→Prop) (x0:AV) (x4:AV) (x6:AV) (x7:Int) (x16:AV) (x17:Int) (x18:Int) (x38:Bool) (h:AHeap):Y0.t1 J Q x0 x4 x6 x7 x16 x17 x18 x38 h=atJ prog C 187 J false [1,1,0,0,1,1,0,0,1,1,0,1] Y0.ann Y0.body [(0,x0),(4,x4),(6,x6),(7,(AV.i .i64 x7)),(16,x16),(17,(AV.i .i64 x17)),(18,(AV.i .i64 x18)),(38,(AV.b x38))] h (kFun prog Tryz.f57 Q):=by kernel_rfl
theorem Y0.i1 {Q:AV→AHeap→Prop} {x0:AV} {x4:AV} {x6:AV} {x7:Int} {x16:AV} {x17:Int} {x18:Int} {x38:Bool} {h:AHeap} (H:Y0.t1 (Y0.J Q) Q x0 x4 x6 x7 x16 x17 x18 x38 h):Y0.p1 Q x0 x4 x6 x7 x16 x17 x18 x38 h:=Y0.goR (k:=2) (p:=[1,1,0,0,1,1,0,0,1,1,0,1]) (by kernel_rfl) ((Y0.t1_eq (Y0.J Q) Q x0 x4 x6 x7 x16 x17 x18 x38 h).mp H)
def Y0.t3 (J:JT) (Q:AV→AHeap→Prop) (x0:AV) (x4:AV) (x6:AV) (x7:Int) (x8:List UInt8) (x16:AV) (x17:Int) (x18:Int) (x82:Bool) (h:AHeap):Prop:=
(bif x82 then
(Q (AV.tu []) h)
else
(pLookup prog 9 4 false x4 (AV.s x8) h fun v93=>
asB v93 fun c94=>
(bif c94 then
(J 5 [(0,x0),(4,x4),(6,x6),(7,(AV.i .i64 x7)),(8,(AV.s x8)),(16,x16),(17,(AV.i .i64 x17)),(18,(AV.i .i64 x18)),(93,(AV.b true))] h)
else
(withB (!(decide ((x8:List UInt8)=[50,46,53,46,50,57,46,49,55]))) fun c96=>
(bif c96 then
(withB (!(decide ((x8:List UInt8)=[50,46,53,46,50,57,46,49,57]))) fun c97=>
J 5 [(0,x0),(4,x4),(6,x6),(7,(AV.i .i64 x7)),(8,(AV.s x8)),(16,x16),(17,(AV.i .i64 x17)),(18,(AV.i .i64 x18)),(93,(AV.b c97))] h)
else
(J 5 [(0,x0),(4,x4),(6,x6),(7,(AV.i .i64 x7)),(8,(AV.s x8)),(16,x16),(17,(AV.i .i64 x17)),(18,(AV.i .i64 x18)),(93,(AV.b false))] h))))))
theorem Y0.t3_eq (J:JT) (Q:AV→AHeap→Prop) (x0:AV) (x4:AV) (x6:AV) (x7:Int) (x8:List UInt8) (x16:AV) (x17:Int) (x18:Int) (x82:Bool) (h:AHeap):Y0.t3 J Q x0 x4 x6 x7 x8 x16 x17 x18 x82 h=atJ prog C 187 J false [1,1,0,0,1,1,0,0,1,1,1,1,1,0,1] Y0.ann Y0.body [(0,x0),(4,x4),(6,x6),(7,(AV.i .i64 x7)),(8,(AV.s x8)),(16,x16),(17,(AV.i .i64 x17)),(18,(AV.i .i64 x18)),(82,(AV.b x82))] h (kFun prog Tryz.f57 Q):=by kernel_rfl
theorem Y0.i3 {Q:AV→AHeap→Prop} {x0:AV} {x4:AV} {x6:AV} {x7:Int} {x8:List UInt8} {x16:AV} {x17:Int} {x18:Int} {x82:Bool} {h:AHeap} (H:Y0.t3 (Y0.J Q) Q x0 x4 x6 x7 x8 x16 x17 x18 x82 h):Y0.p3 Q x0 x4 x6 x7 x8 x16 x17 x18 x82 h:=Y0.goR (k:=4) (p:=[1,1,0,0,1,1,0,0,1,1,1,1,1,0,1]) (by kernel_rfl) ((Y0.t3_eq (Y0.J Q) Q x0 x4 x6 x7 x8 x16 x17 x18 x82 h).mp H)
def Y0.t4 (J:JT) (Q:AV→AHeap→Prop) (x0:AV) (x4:AV) (x6:AV) (x7:Int) (x8:List UInt8) (x16:AV) (x17:Int) (x18:Int) (x93:Bool) (h:AHeap):Prop:=
(bif x93 then
(J 11 [(0,x0),(4,x4),(16,x16),(17,(AV.i .i64 x17)),(18,(AV.i .i64 x18))] h)
else
(pMapSet prog 9 x4 (AV.s x8) (AV.b true) h fun h102=>
pFieldAddr 4 x6 fun v104=>
pLoad1 v104 h102 fun v105=>
withI (IntKind.wrap .i64 (x7 - 1)) fun n106=>
pIdxAddrSl 5 v105 (AV.i .i64 n106) h102 fun v107=>
pFieldAddr 3 v107 fun v108=>
pLoad1 v108 h102 fun v109=>
asS v109 fun l110=>
C Y25.id [(AV.s l110)] h102 fun v111 h112=>
pExtract 0 v111 fun v113=>
pExtract 1 v111 fun v114=>
asI .i64 v114 fun n115=>
pAlloc (some 33) [(AV.i .i64 0),(AV.i .i64 0),(AV.b false),(AV.s []),(AV.sl none 0 none)] h112 fun v116 h117=>
pStore 5 v116 v113 h117 fun h118=>
(bif (decide ((n115:Int)=0)) then
(pLoadN 3 (gvar h118 0) h118 fun v120=>
pLoadN 5 v116 h118 fun v121=>
C Y45.id [v120,v121] h118 fun v122 h123=>
asB v122 fun c124=>
C Y24.id [x0,(AV.b c124)] h123 fun v125 h126=>
asB v125 fun c127=>
J 6 [(0,x0),(4,x4),(8,(AV.s x8)),(11,v116),(16,x16),(17,(AV.i .i64 x17)),(18,(AV.i .i64 x18)),(116,(AV.b (!c127)))] h126)
else
(C Y24.id [x0,(AV.b false)] h118 fun v129 h130=>
asB v129 fun c131=>
J 6 [(0,x0),(4,x4),(8,(AV.s x8)),(11,v116),(16,x16),(17,(AV.i .i64 x17)),(18,(AV.i .i64 x18)),(116,(AV.b (!c131)))] h130))))
theorem Y0.t4_eq (J:JT) (Q:AV→AHeap→Prop) (x0:AV) (x4:AV) (x6:AV) (x7:Int) (x8:List UInt8) (x16:AV) (x17:Int) (x18:Int) (x93:Bool) (h:AHeap):Y0.t4 J Q x0 x4 x6 x7 x8 x16 x17 x18 x93 h=atJ prog C 187 J false [1,1,0,0,1,1,0,0,1,1,1,1,1,1,0,1] Y0.ann Y0.body [(0,x0),(4,x4),(6,x6),(7,(AV.i .i64 x7)),(8,(AV.s x8)),(16,x16),(17,(AV.i .i64 x17)),(18,(AV.i .i64 x18)),(93,(AV.b x93))] h (kFun prog Tryz.f57 Q):=by kernel_rfl
theorem Y0.i4 {Q:AV→AHeap→Prop} {x0:AV} {x4:AV} {x6:AV} {x7:Int} {x8:List UInt8} {x16:AV} {x17:Int} {x18:Int} {x93:Bool} {h:AHeap} (H:Y0.t4 (Y0.J Q) Q x0 x4 x6 x7 x8 x16 x17 x18 x93 h):Y0.p4 Q x0 x4 x6 x7 x8 x16 x17 x18 x93 h:=Y0.goR (k:=5) (p:=[1,1,0,0,1,1,0,0,1,1,1,1,1,1,0,1]) (by kernel_rfl) ((Y0.t4_eq (Y0.J Q) Q x0 x4 x6 x7 x8 x16 x17 x18 x93 h).mp H)
def Y0.t5 (J:JT) (Q:AV→AHeap→Prop) (x0:AV) (x4:AV) (x8:List UInt8) (x11:AV) (x16:AV) (x17:Int) (x18:Int) (x116:Bool) (h:AHeap):Prop:=
(bif x116 then
(Q (AV.tu []) h)
else
(withB (decide ((x8:List UInt8)=[50,46,53,46,50,57,46,49,57])) fun c134=>
(bif c134 then
(pFieldAddr 4 x11 fun v136=>
pLoad1 v136 h fun v137=>
pLenSl v137 fun n138=>
(bif (decide ((0:Int)<n138)) then
(pLoadN 3 (gvar h 5) h fun v139=>
pFieldAddr 4 x11 fun v140=>
pLoad1 v140 h fun v141=>
pIdxAddrSl 5 v141 (AV.i .i64 0) h fun v142=>
pLoadN 5 v142 h fun v143=>
C Y45.id [v139,v143] h fun v144 h145=>
asB v144 fun c146=>
pIdxAddrSl 5 v141 (AV.i .i64 0) h145 fun v147=>
(v142=v147 ∧
(pLoad1 v140 h145 fun v148=>
(v141=v148 ∧
(pLoad1 v136 h145 fun v149=>
(v137=v149 ∧
((bif c146 then
(pFieldAddr 4 x11 fun v150=>
pLoad1 v150 h145 fun v151=>
pIdxAddrSl 5 v151 (AV.i .i64 0) h145 fun v152=>
pFieldAddr 3 v152 fun v153=>
pLoad1 v153 h145 fun v154=>
asS v154 fun l155=>
(bif (decide (((l155.length:Int):Int)=1)) then
(pFieldAddr 4 x11 fun v156=>
pLoad1 v156 h145 fun v157=>
pIdxAddrSl 5 v157 (AV.i .i64 0) h145 fun v158=>
pFieldAddr 3 v158 fun v159=>
pLoad1 v159 h145 fun v160=>
asS v160 fun l161=>
pNil x0 fun v162=>
pFieldAddr 0 v162 fun v163=>
pFieldAddr 6 v163 fun v164=>
pStore 1 v164 (AV.b (!(decide ((l161:List UInt8)=[0])))) h145 fun h165=>
J 7 [(0,x0),(4,x4),(16,x16),(17,(AV.i .i64 x17)),(18,(AV.i .i64 x18))] h165)
else
(pNil x0 fun v167=>
pFieldAddr 0 v167 fun v168=>
pFieldAddr 6 v168 fun v169=>
pStore 1 v169 (AV.b false) h145 fun h170=>
J 7 [(0,x0),(4,x4),(16,x16),(17,(AV.i .i64 x17)),(18,(AV.i .i64 x18))] h170)))
else
(pNil x0 fun v172=>
pFieldAddr 0 v172 fun v173=>
pFieldAddr 6 v173 fun v174=>
pStore 1 v174 (AV.b false) h145 fun h175=>
J 7 [(0,x0),(4,x4),(16,x16),(17,(AV.i .i64 x17)),(18,(AV.i .i64 x18))] h175)))))))))
else
(pNil x0 fun v177=>
pFieldAddr 0 v177 fun v178=>
pFieldAddr 6 v178 fun v179=>
pStore 1 v179 (AV.b false) h fun h180=>
J 7 [(0,x0),(4,x4),(16,x16),(17,(AV.i .i64 x17)),(18,(AV.i .i64 x18))] h180)))
else
(pFieldAddr 4 x11 fun v184=>
pLoad1 v184 h fun v185=>
pLenSl v185 fun n186=>
J 8 [(0,x0),(4,x4),(16,x16),(17,(AV.i .i64 x17)),(18,(AV.i .i64 x18)),(153,v185),(154,(AV.i .i64 n186)),(155,(AV.i .i64 0))] h))))
theorem Y0.t5_eq (J:JT) (Q:AV→AHeap→Prop) (x0:AV) (x4:AV) (x8:List UInt8) (x11:AV) (x16:AV) (x17:Int) (x18:Int) (x116:Bool) (h:AHeap):Y0.t5 J Q x0 x4 x8 x11 x16 x17 x18 x116 h=atJ prog C 187 J false [1,1,0,0,1,1,0,0,1,1,1,1,1,1,1,1,1,0,1] Y0.ann Y0.body [(0,x0),(4,x4),(8,(AV.s x8)),(11,x11),(16,x16),(17,(AV.i .i64 x17)),(18,(AV.i .i64 x18)),(116,(AV.b x116))] h (kFun prog Tryz.f57 Q):=by kernel_rfl
theorem Y0.i5 {Q:AV→AHeap→Prop} {x0:AV} {x4:AV} {x8:List UInt8} {x11:AV} {x16:AV} {x17:Int} {x18:Int} {x116:Bool} {h:AHeap} (H:Y0.t5 (Y0.J Q) Q x0 x4 x8 x11 x16 x17 x18 x116 h):Y0.p5 Q x0 x4 x8 x11 x16 x17 x18 x116 h:=Y0.goR (k:=6) (p:=[1,1,0,0,1,1,0,0,1,1,1,1,1,1,1,1,1,0,1]) (by kernel_rfl) ((Y0.t5_eq (Y0.J Q) Q x0 x4 x8 x11 x16 x17 x18 x116 h).mp H)
def Y0.t6 (J:JT) (Q:AV→AHeap→Prop) (x0:AV) (x4:AV) (x16:AV) (x17:Int) (x18:Int) (h:AHeap):Prop:=
J 11 [(0,x0),(4,x4),(16,x16),(17,(AV.i .i64 x17)),(18,(AV.i .i64 x18))] h
theorem Y0.t6_eq (J:JT) (Q:AV→AHeap→Prop) (x0:AV) (x4:AV) (x16:AV) (x17:Int) (x18:Int) (h:AHeap):Y0.t6 J Q x0 x4 x16 x17 x18 h=atJ prog C 187 J false [1,1,0,0,1,1,0,0,1,1,1,1,1,1,1,1,1,1,0,1,0,1] Y0.ann Y0.body [(0,x0),(4,x4),(16,x16),(17,(AV.i .i64 x17)),(18,(AV.i .i64 x18))] h (kFun prog Tryz.f57 Q):=by kernel_rfl
theorem Y0.i6 {Q:AV→AHeap→Prop} {x0:AV} {x4:AV} {x16:AV} {x17:Int} {x18:Int} {h:AHeap} (H:Y0.t6 (Y0.J Q) Q x0 x4 x16 x17 x18 h):Y0.p6 Q x0 x4 x16 x17 x18 h:=Y0.goR (k:=7) (p:=[1,1,0,0,1,1,0,0,1,1,1,1,1,1,1,1,1,1,0,1,0,1]) (by kernel_rfl) ((Y0.t6_eq (Y0.J Q) Q x0 x4 x16 x17 x18 h).mp H)
def Y0.t8 (J:JT) (Q:AV→AHeap→Prop) (x0:AV) (x4:AV) (x14:AV) (x16:AV) (x17:Int) (x18:Int) (x153:AV) (x154:Int) (x155:Int) (x170:Bool) (h:AHeap):Prop:=
(bif x170 then
(pNil x0 fun v209=>
pFieldAddr 0 v209 fun v210=>
pFieldAddr 5 v210 fun v211=>
pLoad1 v211 h fun v212=>
pFieldAddr 3 x14 fun v213=>
pLoad1 v213 h fun v214=>
asS v214 fun l215=>
C Y17.id [(AV.s l215)] h fun v216 h217=>
asS v216 fun l218=>
pLoad1 v211 h217 fun v219=>
(v212=v219 ∧
(pBuildSl 1 1 [(AV.s [])] [(0,1,(AV.s l218))] h217 fun v220 h221=>
pLoad1 v213 h221 fun v222=>
asS v222 fun l223=>
((AV.s l215)=(AV.s l223) ∧
(pLoad1 v211 h221 fun v224=>
(v212=v224 ∧
(pAppend none 1 16 v212 v220 h221 fun v225 h226=>
pLoad1 v213 h226 fun v227=>
asS v227 fun l228=>
((AV.s l215)=(AV.s l228) ∧
(pNil x0 fun v229=>
pFieldAddr 0 v229 fun v230=>
pFieldAddr 5 v230 fun v231=>
pStore 1 v231 v225 h226 fun h232=>
J 10 [(0,x0),(4,x4),(16,x16),(17,(AV.i .i64 x17)),(18,(AV.i .i64 x18)),(153,x153),(154,(AV.i .i64 x154)),(155,(AV.i .i64 x155))] h232)))))))))
else
(J 10 [(0,x0),(4,x4),(16,x16),(17,(AV.i .i64 x17)),(18,(AV.i .i64 x18)),(153,x153),(154,(AV.i .i64 x154)),(155,(AV.i .i64 x155))] h))
theorem Y0.t8_eq (J:JT) (Q:AV→AHeap→Prop) (x0:AV) (x4:AV) (x14:AV) (x16:AV) (x17:Int) (x18:Int) (x153:AV) (x154:Int) (x155:Int) (x170:Bool) (h:AHeap):Y0.t8 J Q x0 x4 x14 x16 x17 x18 x153 x154 x155 x170 h=atJ prog C 187 J false [1,1,0,0,1,1,0,0,1,1,1,1,1,1,1,1,1,1,1,1,0,0,1,1,0,0,1,1] Y0.ann Y0.body [(0,x0),(4,x4),(14,x14),(16,x16),(17,(AV.i .i64 x17)),(18,(AV.i .i64 x18)),(153,x153),(154,(AV.i .i64 x154)),(155,(AV.i .i64 x155)),(170,(AV.b x170))] h (kFun prog Tryz.f57 Q):=by kernel_rfl
theorem Y0.i8 {Q:AV→AHeap→Prop} {x0:AV} {x4:AV} {x14:AV} {x16:AV} {x17:Int} {x18:Int} {x153:AV} {x154:Int} {x155:Int} {x170:Bool} {h:AHeap} (H:Y0.t8 (Y0.J Q) Q x0 x4 x14 x16 x17 x18 x153 x154 x155 x170 h):Y0.p8 Q x0 x4 x14 x16 x17 x18 x153 x154 x155 x170 h:=Y0.goR (k:=9) (p:=[1,1,0,0,1,1,0,0,1,1,1,1,1,1,1,1,1,1,1,1,0,0,1,1,0,0,1,1]) (by kernel_rfl) ((Y0.t8_eq (Y0.J Q) Q x0 x4 x14 x16 x17 x18 x153 x154 x155 x170 h).mp H)
def Y0.t9 (J:JT) (Q:AV→AHeap→Prop) (x0:AV) (x4:AV) (x16:AV) (x17:Int) (x18:Int) (x153:AV) (x154:Int) (x155:Int) (h:AHeap):Prop:=
withI (IntKind.wrap .i64 (x155+1)) fun n235=>
J 8 [(0,x0),(4,x4),(16,x16),(17,(AV.i .i64 x17)),(18,(AV.i .i64 x18)),(153,x153),(154,(AV.i .i64 x154)),(155,(AV.i .i64 n235))] h
theorem Y0.t9_eq (J:JT) (Q:AV→AHeap→Prop) (x0:AV) (x4:AV) (x16:AV) (x17:Int) (x18:Int) (x153:AV) (x154:Int) (x155:Int) (h:AHeap):Y0.t9 J Q x0 x4 x16 x17 x18 x153 x154 x155 h=atJ prog C 187 J false [1,1,0,0,1,1,0,0,1,1,1,1,1,1,1,1,1,1,1,1,0,0,1,1,1] Y0.ann Y0.body [(0,x0),(4,x4),(16,x16),(17,(AV.i .i64 x17)),(18,(AV.i .i64 x18)),(153,x153),(154,(AV.i .i64 x154)),(155,(AV.i .i64 x155))] h (kFun prog Tryz.f57 Q):=by kernel_rfl
theorem Y0.i9 {Q:AV→AHeap→Prop} {x0:AV} {x4:AV} {x16:AV} {x17:Int} {x18:Int} {x153:AV} {x154:Int} {x155:Int} {h:AHeap} (H:Y0.t9 (Y0.J Q) Q x0 x4 x16 x17 x18 x153 x154 x155 h):Y0.p9 Q x0 x4 x16 x17 x18 x153 x154 x155 h:=Y0.goR (k:=10) (p:=[1,1,0,0,1,1,0,0,1,1,1,1,1,1,1,1,1,1,1,1,0,0,1,1,1]) (by kernel_rfl) ((Y0.t9_eq (Y0.J Q) Q x0 x4 x16 x17 x18 x153 x154 x155 h).mp H)
def Y0.t7 (J:JT) (Q:AV→AHeap→Prop) (x0:AV) (x4:AV) (x16:AV) (x17:Int) (x18:Int) (x153:AV) (x154:Int) (x155:Int) (h:AHeap):Prop:=
(bif (decide ((x155:Int)<x154)) then
(pIdxAddrSl 5 x153 (AV.i .i64 x155) h fun v191=>
pLoadN 5 v191 h fun v192=>
pAlloc (some 33) [(AV.i .i64 0),(AV.i .i64 0),(AV.b false),(AV.s []),(AV.sl none 0 none)] h fun v193 h194=>
pStore 5 v193 v192 h194 fun h195=>
pLoadN 3 (gvar h195 4) h195 fun v197=>
pLoadN 5 v193 h195 fun v198=>
C Y45.id [v197,v198] h195 fun v199 h200=>
asB v199 fun c201=>
(bif c201 then
(pNil x0 fun v202=>
pFieldAddr 0 v202 fun v203=>
pFieldAddr 5 v203 fun v204=>
pLoad1 v204 h200 fun v205=>
pLenSl v205 fun n206=>
J 9 [(0,x0),(4,x4),(14,v193),(16,x16),(17,(AV.i .i64 x17)),(18,(AV.i .i64 x18)),(153,x153),(154,(AV.i .i64 x154)),(155,(AV.i .i64 x155)),(170,(AV.b (decide ((n206:Int)<16))))] h200)
else
(J 9 [(0,x0),(4,x4),(14,v193),(16,x16),(17,(AV.i .i64 x17)),(18,(AV.i .i64 x18)),(153,x153),(154,(AV.i .i64 x154)),(155,(AV.i .i64 x155)),(170,(AV.b false))] h200)))
else
(J 11 [(0,x0),(4,x4),(16,x16),(17,(AV.i .i64 x17)),(18,(AV.i .i64 x18))] h))
theorem Y0.t7_eq (J:JT) (Q:AV→AHeap→Prop) (x0:AV) (x4:AV) (x16:AV) (x17:Int) (x18:Int) (x153:AV) (x154:Int) (x155:Int) (h:AHeap):Y0.t7 J Q x0 x4 x16 x17 x18 x153 x154 x155 h=atJ prog C 187 J true [1,1,0,0,1,1,0,0,1,1,1,1,1,1,1,1,1,1,1,1,0] Y0.ann Y0.body [(0,x0),(4,x4),(16,x16),(17,(AV.i .i64 x17)),(18,(AV.i .i64 x18)),(153,x153),(154,(AV.i .i64 x154)),(155,(AV.i .i64 x155))] h (kFun prog Tryz.f57 Q):=by kernel_rfl
theorem Y0.i7 {Q:AV→AHeap→Prop} {x0:AV} {x4:AV} {x16:AV} {x17:Int} {x18:Int} {x153:AV} {x154:Int} {x155:Int} {h:AHeap} (H:Y0.t7 (Y0.J Q) Q x0 x4 x16 x17 x18 x153 x154 x155 h):Y0.p7 Q x0 x4 x16 x17 x18 x153 x154 x155 h:=Y0.goH (k:=8) (p:=[1,1,0,0,1,1,0,0,1,1,1,1,1,1,1,1,1,1,1,1,0]) (by kernel_rfl) ((Y0.t7_eq (Y0.J Q) Q x0 x4 x16 x17 x18 x153 x154 x155 h).mp H)
def Y0.t2 (J:JT) (Q:AV→AHeap→Prop) (x0:AV) (x4:AV) (x6:AV) (x7:Int) (x8:List UInt8) (x9:Bool) (x10:Bool) (x16:AV) (x17:Int) (x18:Int) (h:AHeap):Prop:=
(bif x9 then
((bif x10 then
(pLoadN 3 (gvar h 9) h fun v65=>
pFieldAddr 4 x6 fun v66=>
pLoad1 v66 h fun v67=>
withI (IntKind.wrap .i64 (x7 - 1)) fun n68=>
pIdxAddrSl 5 v67 (AV.i .i64 n68) h fun v69=>
pLoadN 5 v69 h fun v70=>
C Y45.id [v65,v70] h fun v71 h72=>
asB v71 fun c73=>
pIdxAddrSl 5 v67 (AV.i .i64 n68) h72 fun v74=>
(v69=v74 ∧
(pLoad1 v66 h72 fun v75=>
(v67=v75 ∧
(C Y24.id [x0,(AV.b c73)] h72 fun v76 h77=>
asB v76 fun c78=>
pLoadN 5 v69 h77 fun v79=>
(v70=v79 ∧
(pIdxAddrSl 5 v67 (AV.i .i64 n68) h77 fun v80=>
(v69=v80 ∧
(pLoad1 v66 h77 fun v81=>
(v67=v81 ∧
(pLoadN 3 (gvar h77 9) h77 fun v82=>
(v65=v82 ∧
(J 4 [(0,x0),(4,x4),(6,x6),(7,(AV.i .i64 x7)),(8,(AV.s x8)),(16,x16),(17,(AV.i .i64 x17)),(18,(AV.i .i64 x18)),(82,(AV.b (!c78)))] h77)))))))))))))
else
(C Y24.id [x0,(AV.b false)] h fun v84 h85=>
asB v84 fun c86=>
((AV.tu [])=(AV.tu []) ∧
(((AV.tu [])=(AV.tu []) ∧
(((AV.tu [])=(AV.tu []) ∧
(((AV.tu [])=(AV.tu []) ∧
(J 4 [(0,x0),(4,x4),(6,x6),(7,(AV.i .i64 x7)),(8,(AV.s x8)),(16,x16),(17,(AV.i .i64 x17)),(18,(AV.i .i64 x18)),(82,(AV.b (!c86)))] h85)))))))))))
else
(C Y24.id [x0,(AV.b false)] h fun v88 h89=>
asB v88 fun c90=>
((AV.tu [])=(AV.tu []) ∧
(((AV.tu [])=(AV.tu []) ∧
(((AV.tu [])=(AV.tu []) ∧
(((AV.tu [])=(AV.tu []) ∧
(J 4 [(0,x0),(4,x4),(6,x6),(7,(AV.i .i64 x7)),(8,(AV.s x8)),(16,x16),(17,(AV.i .i64 x17)),(18,(AV.i .i64 x18)),(82,(AV.b (!c90)))] h89))))))))))
theorem Y0.t2_eq (J:JT) (Q:AV→AHeap→Prop) (x0:AV) (x4:AV) (x6:AV) (x7:Int) (x8:List UInt8) (x9:Bool) (x10:Bool) (x16:AV) (x17:Int) (x18:Int) (h:AHeap):Y0.t2 J Q x0 x4 x6 x7 x8 x9 x10 x16 x17 x18 h=atJ prog C 187 J false [1,1,0,0,1,1,0,0,1,1,1,1,1] Y0.ann Y0.body [(0,x0),(4,x4),(6,x6),(7,(AV.i .i64 x7)),(8,(AV.s x8)),(9,(AV.b x9)),(10,(AV.b x10)),(16,x16),(17,(AV.i .i64 x17)),(18,(AV.i .i64 x18))] h (kFun prog Tryz.f57 Q):=by kernel_rfl
theorem Y0.i2 {Q:AV→AHeap→Prop} {x0:AV} {x4:AV} {x6:AV} {x7:Int} {x8:List UInt8} {x9:Bool} {x10:Bool} {x16:AV} {x17:Int} {x18:Int} {h:AHeap} (H:Y0.t2 (Y0.J Q) Q x0 x4 x6 x7 x8 x9 x10 x16 x17 x18 h):Y0.p2 Q x0 x4 x6 x7 x8 x9 x10 x16 x17 x18 h:=Y0.goR (k:=3) (p:=[1,1,0,0,1,1,0,0,1,1,1,1,1]) (by kernel_rfl) ((Y0.t2_eq (Y0.J Q) Q x0 x4 x6 x7 x8 x9 x10 x16 x17 x18 h).mp H)
def Y0.t10 (J:JT) (Q:AV→AHeap→Prop) (x0:AV) (x4:AV) (x16:AV) (x17:Int) (x18:Int) (h:AHeap):Prop:=
withI (IntKind.wrap .i64 (x18+1)) fun n237=>
J 1 [(0,x0),(4,x4),(16,x16),(17,(AV.i .i64 x17)),(18,(AV.i .i64 n237))] h
theorem Y0.t10_eq (J:JT) (Q:AV→AHeap→Prop) (x0:AV) (x4:AV) (x16:AV) (x17:Int) (x18:Int) (h:AHeap):Y0.t10 J Q x0 x4 x16 x17 x18 h=atJ prog C 187 J false [1,1,0,0,1,1,1] Y0.ann Y0.body [(0,x0),(4,x4),(16,x16),(17,(AV.i .i64 x17)),(18,(AV.i .i64 x18))] h (kFun prog Tryz.f57 Q):=by kernel_rfl
theorem Y0.i10 {Q:AV→AHeap→Prop} {x0:AV} {x4:AV} {x16:AV} {x17:Int} {x18:Int} {h:AHeap} (H:Y0.t10 (Y0.J Q) Q x0 x4 x16 x17 x18 h):Y0.p10 Q x0 x4 x16 x17 x18 h:=Y0.goR (k:=11) (p:=[1,1,0,0,1,1,1]) (by kernel_rfl) ((Y0.t10_eq (Y0.J Q) Q x0 x4 x16 x17 x18 h).mp H)
def Y0.t0 (J:JT) (Q:AV→AHeap→Prop) (x0:AV) (x4:AV) (x16:AV) (x17:Int) (x18:Int) (h:AHeap):Prop:=
(bif (decide ((x18:Int)<x17)) then
(pIdxAddrSl 5 x16 (AV.i .i64 x18) h fun v7=>
pLoadN 5 v7 h fun v8=>
pAlloc (some 33) [(AV.i .i64 0),(AV.i .i64 0),(AV.b false),(AV.s []),(AV.sl none 0 none)] h fun v9 h10=>
pStore 5 v9 v8 h10 fun h11=>
pFieldAddr 4 v9 fun v13=>
pLoad1 v13 h11 fun v14=>
pLenSl v14 fun n15=>
pLoadN 3 (gvar h11 0) h11 fun v17=>
pLoadN 5 v9 h11 fun v18=>
C Y45.id [v17,v18] h11 fun v19 h20=>
asB v19 fun c21=>
(bif c21 then
((bif (decide ((n15:Int)=2)) then
(C Y24.id [x0,(AV.b true)] h20 fun v22 h23=>
asB v22 fun c24=>
J 2 [(0,x0),(4,x4),(6,v9),(7,(AV.i .i64 n15)),(16,x16),(17,(AV.i .i64 x17)),(18,(AV.i .i64 x18)),(38,(AV.b (!c24)))] h23)
else
(C Y24.id [x0,(AV.b (decide ((n15:Int)=3)))] h20 fun v26 h27=>
asB v26 fun c28=>
J 2 [(0,x0),(4,x4),(6,v9),(7,(AV.i .i64 n15)),(16,x16),(17,(AV.i .i64 x17)),(18,(AV.i .i64 x18)),(38,(AV.b (!c28)))] h27)))
else
(C Y24.id [x0,(AV.b false)] h20 fun v30 h31=>
asB v30 fun c32=>
J 2 [(0,x0),(4,x4),(6,v9),(7,(AV.i .i64 n15)),(16,x16),(17,(AV.i .i64 x17)),(18,(AV.i .i64 x18)),(38,(AV.b (!c32)))] h31)))
else
(Q (AV.tu []) h))
theorem Y0.t0_eq (J:JT) (Q:AV→AHeap→Prop) (x0:AV) (x4:AV) (x16:AV) (x17:Int) (x18:Int) (h:AHeap):Y0.t0 J Q x0 x4 x16 x17 x18 h=atJ prog C 187 J true [1,1,0] Y0.ann Y0.body [(0,x0),(4,x4),(16,x16),(17,(AV.i .i64 x17)),(18,(AV.i .i64 x18))] h (kFun prog Tryz.f57 Q):=by kernel_rfl
theorem Y0.i0 {Q:AV→AHeap→Prop} {x0:AV} {x4:AV} {x16:AV} {x17:Int} {x18:Int} {h:AHeap} (H:Y0.t0 (Y0.J Q) Q x0 x4 x16 x17 x18 h):Y0.p0 Q x0 x4 x16 x17 x18 h:=Y0.goH (k:=1) (p:=[1,1,0]) (by kernel_rfl) ((Y0.t0_eq (Y0.J Q) Q x0 x4 x16 x17 x18 h).mp H)
def Y0.t (J:JT) (Q:AV→AHeap→Prop) (x0:AV) (x1:AV) (h:AHeap):Prop:=
pMakeMap h fun v0 h1=>
pLenSl x1 fun n3=>
J 1 [(0,x0),(4,v0),(16,x1),(17,(AV.i .i64 n3)),(18,(AV.i .i64 0))] h1
theorem Y0.t_eq (J:JT) (Q:AV→AHeap→Prop) (x0:AV) (x1:AV) (h:AHeap):Y0.t J Q x0 x1 h=exJ prog C 187 J Y0.ann Y0.body (initEnv 0 [x0,x1]) h (kFun prog Tryz.f57 Q):=by kernel_rfl
theorem Y0.call {K:AV→AHeap→Prop} {x0:AV} {x1:AV} {h:AHeap} (H:Y0.t (Y0.J (kRet h K)) (kRet h K) x0 x1 h):C Y0.id [x0,x1] h K:=
  callJ (P:=prog) (fn:=Tryz.f57) (ann:=Y0.ann) (body:=Y0.body) Tryz.func57 Y0.body_eq (by kernel_rfl) Y0.dist (by kernel_rfl) ((Y0.t_eq (Y0.J (kRet h K)) (kRet h K) x0 x1 h).mp H)
noncomputable def Y81.body:Code:=(Tryz.f62.body).getD .skip
def Y81.ann:Ann:=(.seq 0 [1,2,4] .leaf (.seq 0 [1,2,4,6,7] .leaf (.seq 0 [2,4] (.seq 0 [1,2,4,6,7,8] .leaf (.one (.loop 1 [1,2,4,6,7,8] (.seq 0 [1,2,4,6,7,8] (.seq 0 [1,2,4,6,7,8,20] .leaf (.br .leaf .leaf)) (.seq 10 [1,2,4,6,7,8] (.one (.seq 0 [1,2,4,6,7,8,9,10,11] .leaf (.seq 0 [1,2,4,6,7,8,9,10] (.seq 0 [1,2,4,6,7,8,9,10,33] .leaf (.br (.seq 0 [4,5] .leaf .leaf) .leaf)) (.seq 7 [1,2,4,6,7,8,9,10] (.seq 2 [1,2,4,6,7,8,9,10,40] .leaf (.br (.seq 0 [1,2,4,6,7,8,9,10] .leaf (.seq 0 [1,2,4,6,7,8,9,10,12,13] .leaf (.seq 0 [1,2,4,6,7,8,9,10,12] (.seq 3 [1,2,4,6,7,8,9,10,12,52] .leaf (.br (.seq 0 [4,5] .leaf .leaf) .leaf)) (.seq 0 [1,2,4,6,7,8,9,10,12,14] .leaf (.one (.loop 4 [1,2,4,6,7,8,9,10,12,14] (.seq 0 [1,2,4,6,7,8,9,10,12,14] (.seq 0 [1,2,4,6,7,8,9,10,12,14,58] .leaf (.br .leaf .leaf)) (.seq 6 [1,2,4,6,7,8,9,10,12,14] (.one (.seq 5 [1,2,4,6,7,8,9,10,12,14,72] .leaf (.br (.ord (.neu 0 (.neu 1 (.neu 2 (.neu 3 (.neu 4 (.neu 5 (.neu 6 (.neu 7 (.eff 8 (.eff 9 (.eff 10 (.neu 11 (.eff 12 .done .stop)) .stop) .stop) .stop)))))))))) .leaf))) .leaf)))))))) .leaf)) (.seq 8 [1,2,4,6,7,8,10,90] .leaf (.br (.seq 0 [1,2,4,6,7,8,10] .leaf (.seq 0 [1,2,4,6,7,8,15,16] .leaf (.seq 0 [1,2,4,6,7,8,15] (.seq 9 [1,2,4,6,7,8,15,102] .leaf (.br (.seq 0 [4,5] .leaf .leaf) .leaf)) .leaf))) .leaf)))))) .leaf))))) (.seq 0 [4,5] .leaf .leaf))))
noncomputable def Y81.J (Q:AV→AHeap→Prop):JT:=funJ prog C Tryz.f62 Y81.ann Y81.body Q
def Y81.p0 (Q:AV→AHeap→Prop) (x1:AV) (x2:AV) (x4:AV) (x6:Bool) (x7:Bool) (x8:Int) (h:AHeap):Prop:=Y81.J Q 1 [(1,x1),(2,x2),(4,x4),(6,(AV.b x6)),(7,(AV.b x7)),(8,(AV.i .i64 x8))] h
noncomputable def Y17.body:Code:=(Tryz.f64.body).getD .skip
def Y17.ann:Ann:=(.seq 0 [0] .leaf (.seq 0 [3] .leaf (.seq 0 [3] (.seq 0 [3,8,9,10] .leaf (.one (.loop 1 [3,8,9,10] (.seq 0 [3,8,9,10,11] .leaf (.seq 0 [3,8,9,10] (.br .leaf .leaf) (.seq 3 [3,8,9,10] (.one (.seq 0 [3,4,5,8,9,10] .leaf (.seq 2 [3,4,5,8,9,10,20] .leaf (.br .leaf .leaf)))) .leaf)))))) (.seq 0 [2] .leaf .leaf))))
theorem Y17.body_eq:Tryz.f64.body=some Y17.body:=by kernel_rfl
theorem Y17.dist:noTwice (places Y17.ann Y17.body)=true:=by kernel_rfl
noncomputable def Y17.J (Q:AV→AHeap→Prop):JT:=funJ prog C Tryz.f64 Y17.ann Y17.body Q
theorem Y17.goR {Q:AV→AHeap→Prop} {k:Nat} {p:List Nat} (hl:lookJ (places Y17.ann Y17.body) k=some (p,false)) {e:Env} {h:AHeap} (hk:atJ prog C 30 (Y17.J Q) false p Y17.ann Y17.body e h (kFun prog Tryz.f64 Q)):Y17.J Q k e h:=goJ_run (P:=prog) (fn:=Tryz.f64) (ann:=Y17.ann) (body:=Y17.body) (Q:=Q) (k:=k) (p:=p) (e:=e) (h:=h) (acall_le X) Y17.dist hl hk
theorem Y17.goH {Q:AV→AHeap→Prop} {k:Nat} {p:List Nat} (hl:lookJ (places Y17.ann Y17.body) k=some (p,true)) {e:Env} {h:AHeap} (hk:atJ prog C 30 (Y17.J Q) true p Y17.ann Y17.body e h (kFun prog Tryz.f64 Q)):Y17.J Q k e h:=goJ_head (P:=prog) (fn:=Tryz.f64) (ann:=Y17.ann) (body:=Y17.body) (Q:=Q) (k:=k) (p:=p) (e:=e) (h:=h) (acall_le X) Y17.dist hl hk
def Y17.p1 (Q:AV→AHeap→Prop) (x3:AV) (x4:Int) (x5:Int) (x8:AV) (x9:Int) (x10:Int) (x20:Bool) (h:AHeap):Prop:=Y17.J Q 2 [(3,x3),(4,(AV.i .i64 x4)),(5,(AV.i .u8 x5)),(8,x8),(9,(AV.i .i64 x9)),(10,(AV.i .i64 x10)),(20,(AV.b x20))] h
theorem Y17.j1 (Q:AV→AHeap→Prop) (x3:AV) (x4:Int) (x5:Int) (x8:AV) (x9:Int) (x10:Int) (x20:Bool) (h:AHeap):Y17.J Q 2 [(3,x3),(4,(AV.i .i64 x4)),(5,(AV.i .u8 x5)),(8,x8),(9,(AV.i .i64 x9)),(10,(AV.i .i64 x10)),(20,(AV.b x20))] h=Y17.p1 Q x3 x4 x5 x8 x9 x10 x20 h:=rfl
def Y17.p2 (Q:AV→AHeap→Prop) (x3:AV) (x8:AV) (x9:Int) (x10:Int) (h:AHeap):Prop:=Y17.J Q 3 [(3,x3),(8,x8),(9,(AV.i .i64 x9)),(10,(AV.i .i64 x10))] h
theorem Y17.j2 (Q:AV→AHeap→Prop) (x3:AV) (x8:AV) (x9:Int) (x10:Int) (h:AHeap):Y17.J Q 3 [(3,x3),(8,x8),(9,(AV.i .i64 x9)),(10,(AV.i .i64 x10))] h=Y17.p2 Q x3 x8 x9 x10 h:=rfl
def Y17.p0 (Q:AV→AHeap→Prop) (x3:AV) (x8:AV) (x9:Int) (x10:Int) (h:AHeap):Prop:=Y17.J Q 1 [(3,x3),(8,x8),(9,(AV.i .i64 x9)),(10,(AV.i .i64 x10))] h
theorem Y17.j0 (Q:AV→AHeap→Prop) (x3:AV) (x8:AV) (x9:Int) (x10:Int) (h:AHeap):Y17.J Q 1 [(3,x3),(8,x8),(9,(AV.i .i64 x9)),(10,(AV.i .i64 x10))] h=Y17.p0 Q x3 x8 x9 x10 h:=rfl
def Y17.t1 (J:JT) (Q:AV→AHeap→Prop) (x3:AV) (x4:Int) (x5:Int) (x8:AV) (x9:Int) (x10:Int) (x20:Bool) (h:AHeap):Prop:=
(bif x20 then
(withI (IntKind.wrap .u8 (x5+97)) fun n15=>
withI (IntKind.wrap .u8 (n15 - 65)) fun n16=>
pIdxAddrSl 1 x3 (AV.i .i64 x4) h fun v17=>
pStore 1 v17 (AV.i .u8 n16) h fun h18=>
J 3 [(3,x3),(8,x8),(9,(AV.i .i64 x9)),(10,(AV.i .i64 x10))] h18)
else
(J 3 [(3,x3),(8,x8),(9,(AV.i .i64 x9)),(10,(AV.i .i64 x10))] h))
theorem Y17.t1_eq (J:JT) (Q:AV→AHeap→Prop) (x3:AV) (x4:Int) (x5:Int) (x8:AV) (x9:Int) (x10:Int) (x20:Bool) (h:AHeap):Y17.t1 J Q x3 x4 x5 x8 x9 x10 x20 h=atJ prog C 30 J false [1,1,0,1,0,0,1,1,0,0,1,1] Y17.ann Y17.body [(3,x3),(4,(AV.i .i64 x4)),(5,(AV.i .u8 x5)),(8,x8),(9,(AV.i .i64 x9)),(10,(AV.i .i64 x10)),(20,(AV.b x20))] h (kFun prog Tryz.f64 Q):=by kernel_rfl
theorem Y17.i1 {Q:AV→AHeap→Prop} {x3:AV} {x4:Int} {x5:Int} {x8:AV} {x9:Int} {x10:Int} {x20:Bool} {h:AHeap} (H:Y17.t1 (Y17.J Q) Q x3 x4 x5 x8 x9 x10 x20 h):Y17.p1 Q x3 x4 x5 x8 x9 x10 x20 h:=Y17.goR (k:=2) (p:=[1,1,0,1,0,0,1,1,0,0,1,1]) (by kernel_rfl) ((Y17.t1_eq (Y17.J Q) Q x3 x4 x5 x8 x9 x10 x20 h).mp H)
def Y17.t2 (J:JT) (Q:AV→AHeap→Prop) (x3:AV) (x8:AV) (x9:Int) (x10:Int) (h:AHeap):Prop:=
withI (IntKind.wrap .i64 (x10+1)) fun n21=>
J 1 [(3,x3),(8,x8),(9,(AV.i .i64 x9)),(10,(AV.i .i64 n21))] h
theorem Y17.t2_eq (J:JT) (Q:AV→AHeap→Prop) (x3:AV) (x8:AV) (x9:Int) (x10:Int) (h:AHeap):Y17.t2 J Q x3 x8 x9 x10 h=atJ prog C 30 J false [1,1,0,1,0,0,1,1,1] Y17.ann Y17.body [(3,x3),(8,x8),(9,(AV.i .i64 x9)),(10,(AV.i .i64 x10))] h (kFun prog Tryz.f64 Q):=by kernel_rfl
theorem Y17.i2 {Q:AV→AHeap→Prop} {x3:AV} {x8:AV} {x9:Int} {x10:Int} {h:AHeap} (H:Y17.t2 (Y17.J Q) Q x3 x8 x9 x10 h):Y17.p2 Q x3 x8 x9 x10 h:=Y17.goR (k:=3) (p:=[1,1,0,1,0,0,1,1,1]) (by kernel_rfl) ((Y17.t2_eq (Y17.J Q) Q x3 x8 x9 x10 h).mp H)
def Y17.t0 (J:JT) (Q:AV→AHeap→Prop) (x3:AV) (x8:AV) (x9:Int) (x10:Int) (h:AHeap):Prop:=
(bif (decide ((x10:Int)<x9)) then
(pIdxAddrSl 1 x8 (AV.i .i64 x10) h fun v9=>
pLoad1 v9 h fun v10=>
asI .u8 v10 fun n11=>
(bif (decide ((65:Int)≤n11)) then
(J 2 [(3,x3),(4,(AV.i .i64 x10)),(5,(AV.i .u8 n11)),(8,x8),(9,(AV.i .i64 x9)),(10,(AV.i .i64 x10)),(20,(AV.b (decide ((n11:Int)≤90))))] h)
else
(J 2 [(3,x3),(4,(AV.i .i64 x10)),(5,(AV.i .u8 n11)),(8,x8),(9,(AV.i .i64 x9)),(10,(AV.i .i64 x10)),(20,(AV.b false))] h)))
else
(pBytesStr x3 h fun l23=>
Q (AV.s l23) h))
theorem Y17.t0_eq (J:JT) (Q:AV→AHeap→Prop) (x3:AV) (x8:AV) (x9:Int) (x10:Int) (h:AHeap):Y17.t0 J Q x3 x8 x9 x10 h=atJ prog C 30 J true [1,1,0,1,0] Y17.ann Y17.body [(3,x3),(8,x8),(9,(AV.i .i64 x9)),(10,(AV.i .i64 x10))] h (kFun prog Tryz.f64 Q):=by kernel_rfl
theorem Y17.i0 {Q:AV→AHeap→Prop} {x3:AV} {x8:AV} {x9:Int} {x10:Int} {h:AHeap} (H:Y17.t0 (Y17.J Q) Q x3 x8 x9 x10 h):Y17.p0 Q x3 x8 x9 x10 h:=Y17.goH (k:=1) (p:=[1,1,0,1,0]) (by kernel_rfl) ((Y17.t0_eq (Y17.J Q) Q x3 x8 x9 x10 h).mp H)
def Y17.t (J:JT) (Q:AV→AHeap→Prop) (x0:List UInt8) (h:AHeap):Prop:=
pStrBytes (AV.s x0) h fun v1 h2=>
pLenSl v1 fun n4=>
J 1 [(3,v1),(8,v1),(9,(AV.i .i64 n4)),(10,(AV.i .i64 0))] h2
theorem Y17.t_eq (J:JT) (Q:AV→AHeap→Prop) (x0:List UInt8) (h:AHeap):Y17.t J Q x0 h=exJ prog C 30 J Y17.ann Y17.body (initEnv 0 [(AV.s x0)]) h (kFun prog Tryz.f64 Q):=by kernel_rfl
theorem Y17.call {K:AV→AHeap→Prop} {x0:List UInt8} {h:AHeap} (H:Y17.t (Y17.J (kRet h K)) (kRet h K) x0 h):C Y17.id [(AV.s x0)] h K:=
  callJ (P:=prog) (fn:=Tryz.f64) (ann:=Y17.ann) (body:=Y17.body) Tryz.func64 Y17.body_eq (by kernel_rfl) Y17.dist (by kernel_rfl) ((Y17.t_eq (Y17.J (kRet h K)) (kRet h K) x0 h).mp H)
noncomputable def Y66.body:Code:=(Tryz.f65.body).getD .skip
def Y66.ann:Ann:=(.seq 0 [0,1] .leaf (.seq 0 [4] .leaf .leaf))
theorem Y66.body_eq:Tryz.f65.body=some Y66.body:=by kernel_rfl
theorem Y66.dist:noTwice (places Y66.ann Y66.body)=true:=by kernel_rfl
noncomputable def Y66.J (Q:AV→AHeap→Prop):JT:=funJ prog C Tryz.f65 Y66.ann Y66.body Q
def Y66.t (J:JT) (Q:AV→AHeap→Prop) (x0:List UInt8) (x1:List UInt8) (h:AHeap):Prop:=
C Y19.id [(AV.s x0),(AV.s x1),(AV.i .i64 0),(AV.i .i64 (-1))] h fun v1 h2=>
Q v1 h2
theorem Y66.t_eq (J:JT) (Q:AV→AHeap→Prop) (x0:List UInt8) (x1:List UInt8) (h:AHeap):Y66.t J Q x0 x1 h=exJ prog C 8 J Y66.ann Y66.body (initEnv 0 [(AV.s x0),(AV.s x1)]) h (kFun prog Tryz.f65 Q):=by kernel_rfl
theorem Y66.call {K:AV→AHeap→Prop} {x0:List UInt8} {x1:List UInt8} {h:AHeap} (H:Y66.t (Y66.J (kRet h K)) (kRet h K) x0 x1 h):C Y66.id [(AV.s x0),(AV.s x1)] h K:=
  callJ (P:=prog) (fn:=Tryz.f65) (ann:=Y66.ann) (body:=Y66.body) Tryz.func65 Y66.body_eq (by kernel_rfl) Y66.dist (by kernel_rfl) ((Y66.t_eq (Y66.J (kRet h K)) (kRet h K) x0 x1 h).mp H)
noncomputable def Y16.body:Code:=(Tryz.f66.body).getD .skip
def Y16.ann:Ann:=(.seq 0 [0] .leaf (.seq 0 [0] (.seq 1 [0,22] .leaf (.br (.seq 0 [2,3] .leaf .leaf) .leaf)) (.seq 0 [0,4] .leaf (.seq 0 [4] (.seq 0 [0,4,24,25] .leaf (.one (.loop 2 [0,4,24,25] (.seq 0 [0,4,24,25,26] .leaf (.seq 0 [0,4,24,25] (.br .leaf .leaf) (.seq 0 [0,4,24,25] (.one (.seq 0 [0,4,5,24,25] .leaf (.seq 0 [0,4,5,24,25] (.seq 3 [0,4,5,24,25,37] .leaf (.br (.seq 0 [2,3] .leaf .leaf) .leaf)) .leaf))) .leaf)))))) (.seq 0 [2,3] .leaf .leaf)))))
theorem Y16.body_eq:Tryz.f66.body=some Y16.body:=by kernel_rfl
theorem Y16.dist:noTwice (places Y16.ann Y16.body)=true:=by kernel_rfl
noncomputable def Y16.J (Q:AV→AHeap→Prop):JT:=funJ prog C Tryz.f66 Y16.ann Y16.body Q
theorem Y16.goR {Q:AV→AHeap→Prop} {k:Nat} {p:List Nat} (hl:lookJ (places Y16.ann Y16.body) k=some (p,false)) {e:Env} {h:AHeap} (hk:atJ prog C 50 (Y16.J Q) false p Y16.ann Y16.body e h (kFun prog Tryz.f66 Q)):Y16.J Q k e h:=goJ_run (P:=prog) (fn:=Tryz.f66) (ann:=Y16.ann) (body:=Y16.body) (Q:=Q) (k:=k) (p:=p) (e:=e) (h:=h) (acall_le X) Y16.dist hl hk
theorem Y16.goH {Q:AV→AHeap→Prop} {k:Nat} {p:List Nat} (hl:lookJ (places Y16.ann Y16.body) k=some (p,true)) {e:Env} {h:AHeap} (hk:atJ prog C 50 (Y16.J Q) true p Y16.ann Y16.body e h (kFun prog Tryz.f66 Q)):Y16.J Q k e h:=goJ_head (P:=prog) (fn:=Tryz.f66) (ann:=Y16.ann) (body:=Y16.body) (Q:=Q) (k:=k) (p:=p) (e:=e) (h:=h) (acall_le X) Y16.dist hl hk
def Y16.p0 (Q:AV→AHeap→Prop) (x0:List UInt8) (x22:Bool) (h:AHeap):Prop:=Y16.J Q 1 [(0,(AV.s x0)),(22,(AV.b x22))] h
theorem Y16.j0 (Q:AV→AHeap→Prop) (x0:List UInt8) (x22:Bool) (h:AHeap):Y16.J Q 1 [(0,(AV.s x0)),(22,(AV.b x22))] h=Y16.p0 Q x0 x22 h:=rfl
def Y16.p2 (Q:AV→AHeap→Prop) (x0:List UInt8) (x4:Int) (x5:Int) (x24:Int) (x25:Int) (x37:Bool) (h:AHeap):Prop:=Y16.J Q 3 [(0,(AV.s x0)),(4,(AV.i .i64 x4)),(5,(AV.i .i64 x5)),(24,(AV.i .i64 x24)),(25,(AV.i .i64 x25)),(37,(AV.b x37))] h
theorem Y16.j2 (Q:AV→AHeap→Prop) (x0:List UInt8) (x4:Int) (x5:Int) (x24:Int) (x25:Int) (x37:Bool) (h:AHeap):Y16.J Q 3 [(0,(AV.s x0)),(4,(AV.i .i64 x4)),(5,(AV.i .i64 x5)),(24,(AV.i .i64 x24)),(25,(AV.i .i64 x25)),(37,(AV.b x37))] h=Y16.p2 Q x0 x4 x5 x24 x25 x37 h:=rfl
def Y16.p1 (Q:AV→AHeap→Prop) (x0:List UInt8) (x4:Int) (x24:Int) (x25:Int) (h:AHeap):Prop:=Y16.J Q 2 [(0,(AV.s x0)),(4,(AV.i .i64 x4)),(24,(AV.i .i64 x24)),(25,(AV.i .i64 x25))] h
theorem Y16.j1 (Q:AV→AHeap→Prop) (x0:List UInt8) (x4:Int) (x24:Int) (x25:Int) (h:AHeap):Y16.J Q 2 [(0,(AV.s x0)),(4,(AV.i .i64 x4)),(24,(AV.i .i64 x24)),(25,(AV.i .i64 x25))] h=Y16.p1 Q x0 x4 x24 x25 h:=rfl
def Y16.t0 (J:JT) (Q:AV→AHeap→Prop) (x0:List UInt8) (x22:Bool) (h:AHeap):Prop:=
(bif x22 then
(Q (AV.tu [(AV.i .i64 0),(AV.b false)]) h)
else
(J 2 [(0,(AV.s x0)),(4,(AV.i .i64 0)),(24,(AV.i .i64 (x0.length:Int))),(25,(AV.i .i64 0))] h))
theorem Y16.t0_eq (J:JT) (Q:AV→AHeap→Prop) (x0:List UInt8) (x22:Bool) (h:AHeap):Y16.t0 J Q x0 x22 h=atJ prog C 50 J false [1,0,1] Y16.ann Y16.body [(0,(AV.s x0)),(22,(AV.b x22))] h (kFun prog Tryz.f66 Q):=by kernel_rfl
theorem Y16.i0 {Q:AV→AHeap→Prop} {x0:List UInt8} {x22:Bool} {h:AHeap} (H:Y16.t0 (Y16.J Q) Q x0 x22 h):Y16.p0 Q x0 x22 h:=Y16.goR (k:=1) (p:=[1,0,1]) (by kernel_rfl) ((Y16.t0_eq (Y16.J Q) Q x0 x22 h).mp H)
def Y16.t2 (J:JT) (Q:AV→AHeap→Prop) (x0:List UInt8) (x4:Int) (x5:Int) (x24:Int) (x25:Int) (x37:Bool) (h:AHeap):Prop:=
(bif x37 then
(Q (AV.tu [(AV.i .i64 0),(AV.b false)]) h)
else
(withI (IntKind.wrap .i64 (x4 * 10)) fun n20=>
pIdxStr (AV.s x0) (AV.i .i64 x5) fun n21=>
withI (IntKind.wrap .u8 (n21 - 48)) fun n22=>
withI (IntKind.wrap .i64 (n20+(IntKind.wrap .i64 n22))) fun n23=>
withI (IntKind.wrap .i64 (x25+1)) fun n25=>
J 2 [(0,(AV.s x0)),(4,(AV.i .i64 n23)),(24,(AV.i .i64 x24)),(25,(AV.i .i64 n25))] h))
theorem Y16.t2_eq (J:JT) (Q:AV→AHeap→Prop) (x0:List UInt8) (x4:Int) (x5:Int) (x24:Int) (x25:Int) (x37:Bool) (h:AHeap):Y16.t2 J Q x0 x4 x5 x24 x25 x37 h=atJ prog C 50 J false [1,1,1,0,1,0,0,1,1,0,0,1,0,1] Y16.ann Y16.body [(0,(AV.s x0)),(4,(AV.i .i64 x4)),(5,(AV.i .i64 x5)),(24,(AV.i .i64 x24)),(25,(AV.i .i64 x25)),(37,(AV.b x37))] h (kFun prog Tryz.f66 Q):=by kernel_rfl
theorem Y16.i2 {Q:AV→AHeap→Prop} {x0:List UInt8} {x4:Int} {x5:Int} {x24:Int} {x25:Int} {x37:Bool} {h:AHeap} (H:Y16.t2 (Y16.J Q) Q x0 x4 x5 x24 x25 x37 h):Y16.p2 Q x0 x4 x5 x24 x25 x37 h:=Y16.goR (k:=3) (p:=[1,1,1,0,1,0,0,1,1,0,0,1,0,1]) (by kernel_rfl) ((Y16.t2_eq (Y16.J Q) Q x0 x4 x5 x24 x25 x37 h).mp H)
def Y16.t1 (J:JT) (Q:AV→AHeap→Prop) (x0:List UInt8) (x4:Int) (x24:Int) (x25:Int) (h:AHeap):Prop:=
(bif (decide ((x25:Int)<x24)) then
(pIdxStr (AV.s x0) (AV.i .i64 x25) fun n14=>
(bif (decide ((n14:Int)<48)) then
(J 3 [(0,(AV.s x0)),(4,(AV.i .i64 x4)),(5,(AV.i .i64 x25)),(24,(AV.i .i64 x24)),(25,(AV.i .i64 x25)),(37,(AV.b true))] h)
else
(pIdxStr (AV.s x0) (AV.i .i64 x25) fun n16=>
J 3 [(0,(AV.s x0)),(4,(AV.i .i64 x4)),(5,(AV.i .i64 x25)),(24,(AV.i .i64 x24)),(25,(AV.i .i64 x25)),(37,(AV.b (decide ((57:Int)<n16))))] h)))
else
(Q (AV.tu [(AV.i .i64 x4),(AV.b (decide ((x4:Int)<268435456)))]) h))
theorem Y16.t1_eq (J:JT) (Q:AV→AHeap→Prop) (x0:List UInt8) (x4:Int) (x24:Int) (x25:Int) (h:AHeap):Y16.t1 J Q x0 x4 x24 x25 h=atJ prog C 50 J true [1,1,1,0,1,0] Y16.ann Y16.body [(0,(AV.s x0)),(4,(AV.i .i64 x4)),(24,(AV.i .i64 x24)),(25,(AV.i .i64 x25))] h (kFun prog Tryz.f66 Q):=by kernel_rfl
theorem Y16.i1 {Q:AV→AHeap→Prop} {x0:List UInt8} {x4:Int} {x24:Int} {x25:Int} {h:AHeap} (H:Y16.t1 (Y16.J Q) Q x0 x4 x24 x25 h):Y16.p1 Q x0 x4 x24 x25 h:=Y16.goH (k:=2) (p:=[1,1,1,0,1,0]) (by kernel_rfl) ((Y16.t1_eq (Y16.J Q) Q x0 x4 x24 x25 h).mp H)
def Y16.t (J:JT) (Q:AV→AHeap→Prop) (x0:List UInt8) (h:AHeap):Prop:=
(bif (decide ((x0:List UInt8)=[])) then
(J 1 [(0,(AV.s x0)),(22,(AV.b true))] h)
else
((bif (decide ((9:Int)<(x0.length:Int))) then
(J 1 [(0,(AV.s x0)),(22,(AV.b true))] h)
else
(pIdxStr (AV.s x0) (AV.i .i64 0) fun n3=>
(bif (decide ((n3:Int)=48)) then
(J 1 [(0,(AV.s x0)),(22,(AV.b (decide ((1:Int)<(x0.length:Int)))))] h)
else
(J 1 [(0,(AV.s x0)),(22,(AV.b false))] h))))))
theorem Y16.t_eq (J:JT) (Q:AV→AHeap→Prop) (x0:List UInt8) (h:AHeap):Y16.t J Q x0 h=exJ prog C 50 J Y16.ann Y16.body (initEnv 0 [(AV.s x0)]) h (kFun prog Tryz.f66 Q):=by kernel_rfl
theorem Y16.call {K:AV→AHeap→Prop} {x0:List UInt8} {h:AHeap} (H:Y16.t (Y16.J (kRet h K)) (kRet h K) x0 h):C Y16.id [(AV.s x0)] h K:=
  callJ (P:=prog) (fn:=Tryz.f66) (ann:=Y16.ann) (body:=Y16.body) Tryz.func66 Y16.body_eq (by kernel_rfl) Y16.dist (by kernel_rfl) ((Y16.t_eq (Y16.J (kRet h K)) (kRet h K) x0 h).mp H)
noncomputable def Y52.body:Code:=(Tryz.f67.body).getD .skip
def Y52.ann:Ann:=(.seq 0 [0,1] .leaf (.seq 0 [4] .leaf .leaf))
theorem Y52.body_eq:Tryz.f67.body=some Y52.body:=by kernel_rfl
theorem Y52.dist:noTwice (places Y52.ann Y52.body)=true:=by kernel_rfl
noncomputable def Y52.J (Q:AV→AHeap→Prop):JT:=funJ prog C Tryz.f67 Y52.ann Y52.body Q
def Y52.t (J:JT) (Q:AV→AHeap→Prop) (x0:List UInt8) (x1:Int) (h:AHeap):Prop:=
C Y57.id [(AV.s x0),(AV.i .u8 x1)] h fun v1 h2=>
asI .i64 v1 fun n3=>
Q (AV.i .i64 n3) h2
theorem Y52.t_eq (J:JT) (Q:AV→AHeap→Prop) (x0:List UInt8) (x1:Int) (h:AHeap):Y52.t J Q x0 x1 h=exJ prog C 8 J Y52.ann Y52.body (initEnv 0 [(AV.s x0),(AV.i .u8 x1)]) h (kFun prog Tryz.f67 Q):=by kernel_rfl
theorem Y52.call {K:AV→AHeap→Prop} {x0:List UInt8} {x1:Int} {h:AHeap} (H:Y52.t (Y52.J (kRet h K)) (kRet h K) x0 x1 h):C Y52.id [(AV.s x0),(AV.i .u8 x1)] h K:=
  callJ (P:=prog) (fn:=Tryz.f67) (ann:=Y52.ann) (body:=Y52.body) Tryz.func67 Y52.body_eq (by kernel_rfl) Y52.dist (by kernel_rfl) ((Y52.t_eq (Y52.J (kRet h K)) (kRet h K) x0 x1 h).mp H)
noncomputable def Y50.body:Code:=(Tryz.f68.body).getD .skip
def Y50.ann:Ann:=(.seq 0 [0] .leaf (.seq 0 [0,3] .leaf (.seq 0 [2] .leaf .leaf)))
theorem Y50.body_eq:Tryz.f68.body=some Y50.body:=by kernel_rfl
theorem Y50.dist:noTwice (places Y50.ann Y50.body)=true:=by kernel_rfl
noncomputable def Y50.J (Q:AV→AHeap→Prop):JT:=funJ prog C Tryz.f68 Y50.ann Y50.body Q
def Y50.t (J:JT) (Q:AV→AHeap→Prop) (x0:Int) (h:AHeap):Prop:=
withI (IntKind.wrap .i64 (x0 - 1970)) fun n2=>
withI (IntKind.wrap .i64 (365 * n2)) fun n3=>
withI (IntKind.wrap .i64 (x0 - 1)) fun n4=>
pCallV C (AV.fn (.func Y51.id) [] []) [(AV.i .i64 n4)] h fun v5 h6=>
asI .i64 v5 fun n7=>
withI (IntKind.wrap .i64 (n3+n7)) fun n8=>
pCallV C (AV.fn (.func Y51.id) [] []) [(AV.i .i64 1969)] h6 fun v9 h10=>
asI .i64 v9 fun n11=>
withI (IntKind.wrap .i64 (n8 - n11)) fun n12=>
Q (AV.i .i64 n12) h10
theorem Y50.t_eq (J:JT) (Q:AV→AHeap→Prop) (x0:Int) (h:AHeap):Y50.t J Q x0 h=exJ prog C 15 J Y50.ann Y50.body (initEnv 0 [(AV.i .i64 x0)]) h (kFun prog Tryz.f68 Q):=by kernel_rfl
theorem Y50.call {K:AV→AHeap→Prop} {x0:Int} {h:AHeap} (H:Y50.t (Y50.J (kRet h K)) (kRet h K) x0 h):C Y50.id [(AV.i .i64 x0)] h K:=
  callJ (P:=prog) (fn:=Tryz.f68) (ann:=Y50.ann) (body:=Y50.body) Tryz.func68 Y50.body_eq (by kernel_rfl) Y50.dist (by kernel_rfl) ((Y50.t_eq (Y50.J (kRet h K)) (kRet h K) x0 h).mp H)
noncomputable def Y32.body:Code:=(Tryz.f69.body).getD .skip
def Y32.ann:Ann:=(.seq 0 [0,1] .leaf (.seq 0 [] (.seq 0 [0,5] .leaf (.one (.seq 0 [0,5,6] .leaf (.br (.seq 0 [] (.seq 0 [9] .leaf (.br (.seq 0 [4] .leaf .leaf) .leaf)) (.seq 0 [4] .leaf .leaf)) (.seq 1 [10] (.seq 0 [5,10] .leaf (.br .leaf (.seq 0 [5,10] .leaf (.br .leaf (.seq 0 [5,10] .leaf (.br .leaf .leaf)))))) (.br (.seq 0 [4] .leaf .leaf) .leaf)))))) (.seq 0 [4] .leaf .leaf)))
theorem Y32.body_eq:Tryz.f69.body=some Y32.body:=by kernel_rfl
theorem Y32.dist:noTwice (places Y32.ann Y32.body)=true:=by kernel_rfl
noncomputable def Y32.J (Q:AV→AHeap→Prop):JT:=funJ prog C Tryz.f69 Y32.ann Y32.body Q
theorem Y32.goR {Q:AV→AHeap→Prop} {k:Nat} {p:List Nat} (hl:lookJ (places Y32.ann Y32.body) k=some (p,false)) {e:Env} {h:AHeap} (hk:atJ prog C 15 (Y32.J Q) false p Y32.ann Y32.body e h (kFun prog Tryz.f69 Q)):Y32.J Q k e h:=goJ_run (P:=prog) (fn:=Tryz.f69) (ann:=Y32.ann) (body:=Y32.body) (Q:=Q) (k:=k) (p:=p) (e:=e) (h:=h) (acall_le X) Y32.dist hl hk
def Y32.p0 (Q:AV→AHeap→Prop) (x10:Bool) (h:AHeap):Prop:=Y32.J Q 1 [(10,(AV.b x10))] h
theorem Y32.j0 (Q:AV→AHeap→Prop) (x10:Bool) (h:AHeap):Y32.J Q 1 [(10,(AV.b x10))] h=Y32.p0 Q x10 h:=rfl
def Y32.t0 (J:JT) (Q:AV→AHeap→Prop) (x10:Bool) (h:AHeap):Prop:=
(bif x10 then
(Q (AV.i .i64 30) h)
else
(Q (AV.i .i64 31) h))
theorem Y32.t0_eq (J:JT) (Q:AV→AHeap→Prop) (x10:Bool) (h:AHeap):Y32.t0 J Q x10 h=atJ prog C 15 J false [1,0,1,0,1,1,1] Y32.ann Y32.body [(10,(AV.b x10))] h (kFun prog Tryz.f69 Q):=by kernel_rfl
theorem Y32.i0 {Q:AV→AHeap→Prop} {x10:Bool} {h:AHeap} (H:Y32.t0 (Y32.J Q) Q x10 h):Y32.p0 Q x10 h:=Y32.goR (k:=1) (p:=[1,0,1,0,1,1,1]) (by kernel_rfl) ((Y32.t0_eq (Y32.J Q) Q x10 h).mp H)
def Y32.t (J:JT) (Q:AV→AHeap→Prop) (x0:Int) (x1:Int) (h:AHeap):Prop:=
(bif (decide ((x1:Int)=2)) then
(C Y41.id [(AV.i .i64 x0)] h fun v3 h4=>
asB v3 fun c5=>
(bif c5 then
(Q (AV.i .i64 29) h4)
else
(Q (AV.i .i64 28) h4)))
else
((bif (decide ((x1:Int)=4)) then
(J 1 [(10,(AV.b (decide ((x1:Int)=4))))] h)
else
((bif (decide ((x1:Int)=6)) then
(J 1 [(10,(AV.b (decide ((x1:Int)=6))))] h)
else
((bif (decide ((x1:Int)=9)) then
(J 1 [(10,(AV.b (decide ((x1:Int)=9))))] h)
else
(J 1 [(10,(AV.b (decide ((x1:Int)=11))))] h))))))))
theorem Y32.t_eq (J:JT) (Q:AV→AHeap→Prop) (x0:Int) (x1:Int) (h:AHeap):Y32.t J Q x0 x1 h=exJ prog C 15 J Y32.ann Y32.body (initEnv 0 [(AV.i .i64 x0),(AV.i .i64 x1)]) h (kFun prog Tryz.f69 Q):=by kernel_rfl
theorem Y32.call {K:AV→AHeap→Prop} {x0:Int} {x1:Int} {h:AHeap} (H:Y32.t (Y32.J (kRet h K)) (kRet h K) x0 x1 h):C Y32.id [(AV.i .i64 x0),(AV.i .i64 x1)] h K:=
  callJ (P:=prog) (fn:=Tryz.f69) (ann:=Y32.ann) (body:=Y32.body) Tryz.func69 Y32.body_eq (by kernel_rfl) Y32.dist (by kernel_rfl) ((Y32.t_eq (Y32.J (kRet h K)) (kRet h K) x0 x1 h).mp H)
noncomputable def Y48.body:Code:=(Tryz.f70.body).getD .skip
def Y48.ann:Ann:=(.seq 0 [0] .leaf (.seq 0 [2] .leaf .leaf))
theorem Y48.body_eq:Tryz.f70.body=some Y48.body:=by kernel_rfl
theorem Y48.dist:noTwice (places Y48.ann Y48.body)=true:=by kernel_rfl
noncomputable def Y48.J (Q:AV→AHeap→Prop):JT:=funJ prog C Tryz.f70 Y48.ann Y48.body Q
def Y48.t (J:JT) (Q:AV→AHeap→Prop) (x0:Int) (h:AHeap):Prop:=
pQuo .i64 x0 10 fun n1=>
withI (IntKind.wrap .i64 (48+n1)) fun n2=>
pRem x0 10 fun n3=>
withI (IntKind.wrap .i64 (48+n3)) fun n4=>
pBuildSl 1 2 [(AV.i .u8 0),(AV.i .u8 0)] [(0,1,(AV.i .u8 (IntKind.wrap .u8 n2))),(1,1,(AV.i .u8 (IntKind.wrap .u8 n4)))] h fun v5 h6=>
pBytesStr v5 h6 fun l7=>
Q (AV.s l7) h6
theorem Y48.t_eq (J:JT) (Q:AV→AHeap→Prop) (x0:Int) (h:AHeap):Y48.t J Q x0 h=exJ prog C 13 J Y48.ann Y48.body (initEnv 0 [(AV.i .i64 x0)]) h (kFun prog Tryz.f70 Q):=by kernel_rfl
theorem Y48.call {K:AV→AHeap→Prop} {x0:Int} {h:AHeap} (H:Y48.t (Y48.J (kRet h K)) (kRet h K) x0 h):C Y48.id [(AV.i .i64 x0)] h K:=
  callJ (P:=prog) (fn:=Tryz.f70) (ann:=Y48.ann) (body:=Y48.body) Tryz.func70 Y48.body_eq (by kernel_rfl) Y48.dist (by kernel_rfl) ((Y48.t_eq (Y48.J (kRet h K)) (kRet h K) x0 h).mp H)
noncomputable def Y26.body:Code:=(Tryz.f71.body).getD .skip
def Y26.ann:Ann:=(.seq 0 [3,4,5] .leaf (.seq 0 [3,4,5] .leaf (.seq 0 [3,4,5] (.one (.seq 1 [3,4,5,15] .leaf (.br (.seq 0 [6] .leaf .leaf) (.seq 2 [3,4,5,34] .leaf (.br (.seq 0 [6] .leaf .leaf) (.seq 0 [3,4,5,53] .leaf (.br (.seq 0 [6] .leaf .leaf) (.seq 0 [3,4,5,56] .leaf (.br (.seq 0 [6] .leaf .leaf) .leaf))))))))) (.seq 0 [3,4,5,7] .leaf (.seq 0 [7] .leaf (.seq 0 [6] .leaf .leaf))))))
theorem Y26.body_eq:Tryz.f71.body=some Y26.body:=by kernel_rfl
theorem Y26.dist:noTwice (places Y26.ann Y26.body)=true:=by kernel_rfl
noncomputable def Y26.J (Q:AV→AHeap→Prop):JT:=funJ prog C Tryz.f71 Y26.ann Y26.body Q
theorem Y26.goR {Q:AV→AHeap→Prop} {k:Nat} {p:List Nat} (hl:lookJ (places Y26.ann Y26.body) k=some (p,false)) {e:Env} {h:AHeap} (hk:atJ prog C 67 (Y26.J Q) false p Y26.ann Y26.body e h (kFun prog Tryz.f71 Q)):Y26.J Q k e h:=goJ_run (P:=prog) (fn:=Tryz.f71) (ann:=Y26.ann) (body:=Y26.body) (Q:=Q) (k:=k) (p:=p) (e:=e) (h:=h) (acall_le X) Y26.dist hl hk
def Y26.p1 (Q:AV→AHeap→Prop) (x3:AV) (x4:AV) (x5:AV) (x34:Bool) (h:AHeap):Prop:=Y26.J Q 2 [(3,x3),(4,x4),(5,x5),(34,(AV.b x34))] h
theorem Y26.j1 (Q:AV→AHeap→Prop) (x3:AV) (x4:AV) (x5:AV) (x34:Bool) (h:AHeap):Y26.J Q 2 [(3,x3),(4,x4),(5,x5),(34,(AV.b x34))] h=Y26.p1 Q x3 x4 x5 x34 h:=rfl
def Y26.p0 (Q:AV→AHeap→Prop) (x3:AV) (x4:AV) (x5:AV) (x15:Bool) (h:AHeap):Prop:=Y26.J Q 1 [(3,x3),(4,x4),(5,x5),(15,(AV.b x15))] h
theorem Y26.j0 (Q:AV→AHeap→Prop) (x3:AV) (x4:AV) (x5:AV) (x15:Bool) (h:AHeap):Y26.J Q 1 [(3,x3),(4,x4),(5,x5),(15,(AV.b x15))] h=Y26.p0 Q x3 x4 x5 x15 h:=rfl
def Y26.t1 (J:JT) (Q:AV→AHeap→Prop) (x3:AV) (x4:AV) (x5:AV) (x34:Bool) (h:AHeap):Prop:=
(bif x34 then
(Q (AV.i .i64 13) h)
else
(pLoad1 x5 h fun v58=>
asI .i64 v58 fun n59=>
(bif (decide ((24:Int)<n59)) then
(Q (AV.i .i64 9) h)
else
(pLoad1 x3 h fun v62=>
pNil v62 fun v63=>
pFieldAddr 0 v63 fun v64=>
pLoad1 v64 h fun v65=>
asI .i64 v65 fun n66=>
(bif (decide ((256:Int)<n66)) then
(Q (AV.i .i64 3) h)
else
(pAlloc none [(AV.i .i64 0)] h fun v70 h71=>
pStore 1 v70 (AV.i .i64 0) h71 fun h72=>
pFieldAddr 4 x4 fun v74=>
pLoad1 v74 h72 fun v75=>
C Y36.id [v75,(AV.fn (.func Y55.id) [] [x3,x5,v70])] h72 fun v76 h77=>
asB v76 fun c78=>
pLoad1 v70 h77 fun v80=>
asI .i64 v80 fun n81=>
Q (AV.i .i64 n81) h77))))))
theorem Y26.t1_eq (J:JT) (Q:AV→AHeap→Prop) (x3:AV) (x4:AV) (x5:AV) (x34:Bool) (h:AHeap):Y26.t1 J Q x3 x4 x5 x34 h=atJ prog C 67 J false [1,1,0,0,1,1,1] Y26.ann Y26.body [(3,x3),(4,x4),(5,x5),(34,(AV.b x34))] h (kFun prog Tryz.f71 Q):=by kernel_rfl
theorem Y26.i1 {Q:AV→AHeap→Prop} {x3:AV} {x4:AV} {x5:AV} {x34:Bool} {h:AHeap} (H:Y26.t1 (Y26.J Q) Q x3 x4 x5 x34 h):Y26.p1 Q x3 x4 x5 x34 h:=Y26.goR (k:=2) (p:=[1,1,0,0,1,1,1]) (by kernel_rfl) ((Y26.t1_eq (Y26.J Q) Q x3 x4 x5 x34 h).mp H)
def Y26.t0 (J:JT) (Q:AV→AHeap→Prop) (x3:AV) (x4:AV) (x5:AV) (x15:Bool) (h:AHeap):Prop:=
(bif x15 then
(Q (AV.i .i64 4) h)
else
(pFieldAddr 2 x4 fun v34=>
pLoad1 v34 h fun v35=>
asB v35 fun c36=>
(bif c36 then
(pFieldAddr 3 x4 fun v37=>
pLoad1 v37 h fun v38=>
asS v38 fun l39=>
(bif (!(decide ((l39:List UInt8)=[]))) then
(J 2 [(3,x3),(4,x4),(5,x5),(34,(AV.b true))] h)
else
(pFieldAddr 2 x4 fun v41=>
pLoad1 v41 h fun v42=>
asB v42 fun c43=>
(bif (!c43) then
(pFieldAddr 4 x4 fun v44=>
pLoad1 v44 h fun v45=>
pLenSl v45 fun n46=>
J 2 [(3,x3),(4,x4),(5,x5),(34,(AV.b (decide ((0:Int)<n46))))] h)
else
(J 2 [(3,x3),(4,x4),(5,x5),(34,(AV.b false))] h)))))
else
(pFieldAddr 2 x4 fun v49=>
pLoad1 v49 h fun v50=>
asB v50 fun c51=>
(bif (!c51) then
(pFieldAddr 4 x4 fun v52=>
pLoad1 v52 h fun v53=>
pLenSl v53 fun n54=>
J 2 [(3,x3),(4,x4),(5,x5),(34,(AV.b (decide ((0:Int)<n54))))] h)
else
(J 2 [(3,x3),(4,x4),(5,x5),(34,(AV.b false))] h))))))
theorem Y26.t0_eq (J:JT) (Q:AV→AHeap→Prop) (x3:AV) (x4:AV) (x5:AV) (x15:Bool) (h:AHeap):Y26.t0 J Q x3 x4 x5 x15 h=atJ prog C 67 J false [1,1,0,0,1] Y26.ann Y26.body [(3,x3),(4,x4),(5,x5),(15,(AV.b x15))] h (kFun prog Tryz.f71 Q):=by kernel_rfl
theorem Y26.i0 {Q:AV→AHeap→Prop} {x3:AV} {x4:AV} {x5:AV} {x15:Bool} {h:AHeap} (H:Y26.t0 (Y26.J Q) Q x3 x4 x5 x15 h):Y26.p0 Q x3 x4 x5 x15 h:=Y26.goR (k:=1) (p:=[1,1,0,0,1]) (by kernel_rfl) ((Y26.t0_eq (Y26.J Q) Q x3 x4 x5 x15 h).mp H)
def Y26.t (J:JT) (Q:AV→AHeap→Prop) (x0:AV) (x1:AV) (x2:Int) (h:AHeap):Prop:=
pBox none x0 h fun v0 h1=>
pBox (some 33) x1 h1 fun v2 h3=>
pBox none (AV.i .i64 x2) h3 fun v4 h5=>
pLoad1 v0 h5 fun v7=>
pNil v7 fun v8=>
pFieldAddr 0 v8 fun v9=>
pLoad1 v9 h5 fun v10=>
asI .i64 v10 fun n11=>
withI (IntKind.wrap .i64 (n11+1)) fun n12=>
pNil v7 fun v13=>
pFieldAddr 0 v13 fun v14=>
pStore 1 v14 (AV.i .i64 n12) h5 fun h15=>
pFieldAddr 0 v2 fun v17=>
pLoad1 v17 h15 fun v18=>
asI .i64 v18 fun n19=>
(bif (decide ((n19:Int)<0)) then
(J 1 [(3,v0),(4,v2),(5,v4),(15,(AV.b true))] h15)
else
(pFieldAddr 0 v2 fun v21=>
pLoad1 v21 h15 fun v22=>
asI .i64 v22 fun n23=>
(bif (decide ((3:Int)<n23)) then
(J 1 [(3,v0),(4,v2),(5,v4),(15,(AV.b true))] h15)
else
(pFieldAddr 1 v2 fun v25=>
pLoad1 v25 h15 fun v26=>
asI .i64 v26 fun n27=>
(bif (decide ((n27:Int)<0)) then
(J 1 [(3,v0),(4,v2),(5,v4),(15,(AV.b true))] h15)
else
(pFieldAddr 1 v2 fun v29=>
pLoad1 v29 h15 fun v30=>
asI .i64 v30 fun n31=>
J 1 [(3,v0),(4,v2),(5,v4),(15,(AV.b (decide ((30:Int)<n31))))] h15))))))
theorem Y26.t_eq (J:JT) (Q:AV→AHeap→Prop) (x0:AV) (x1:AV) (x2:Int) (h:AHeap):Y26.t J Q x0 x1 x2 h=exJ prog C 67 J Y26.ann Y26.body (initEnv 0 [x0,x1,(AV.i .i64 x2)]) h (kFun prog Tryz.f71 Q):=by kernel_rfl
theorem Y26.call {K:AV→AHeap→Prop} {x0:AV} {x1:AV} {x2:Int} {h:AHeap} (H:Y26.t (Y26.J (kRet h K)) (kRet h K) x0 x1 x2 h):C Y26.id [x0,x1,(AV.i .i64 x2)] h K:=
  callJ (P:=prog) (fn:=Tryz.f71) (ann:=Y26.ann) (body:=Y26.body) Tryz.func71 Y26.body_eq (by kernel_rfl) Y26.dist (by kernel_rfl) ((Y26.t_eq (Y26.J (kRet h K)) (kRet h K) x0 x1 x2 h).mp H)
noncomputable def Y13.body:Code:=(Tryz.f72.body).getD .skip
def Y13.ann:Ann:=(.seq 0 [1] .leaf (.seq 0 [1,3] .leaf (.seq 2 [1,3] (.seq 0 [1,3,12,13,14] .leaf (.one (.loop 1 [1,3,12,13,14] (.seq 0 [1,3,12,13,14,15] .leaf (.seq 0 [1,3,12,13,14] (.br .leaf .leaf) (.seq 0 [1,3,12,13,14] (.one (.seq 0 [1,3,5,12,13,14] .leaf (.seq 0 [1,3,12,13,14] .leaf (.seq 0 [1,3,12,13,14,24] .leaf (.br .leaf .leaf))))) .leaf)))))) (.seq 0 [1,3,6] .leaf (.seq 3 [3,6] (.seq 0 [3,6,33] .leaf (.br .leaf .leaf)) (.seq 0 [3,7] .leaf (.seq 0 [3,7,8] .leaf (.seq 4 [3,7] (.one (.seq 0 [3,7,8,52] .leaf (.br .leaf (.seq 0 [3,7,8,60] .leaf (.br .leaf (.seq 0 [3,7,8,68] .leaf (.br .leaf .leaf))))))) (.seq 0 [2] .leaf .leaf)))))))))
theorem Y13.body_eq:Tryz.f72.body=some Y13.body:=by kernel_rfl
theorem Y13.dist:noTwice (places Y13.ann Y13.body)=true:=by kernel_rfl
noncomputable def Y13.J (Q:AV→AHeap→Prop):JT:=funJ prog C Tryz.f72 Y13.ann Y13.body Q
theorem Y13.goR {Q:AV→AHeap→Prop} {k:Nat} {p:List Nat} (hl:lookJ (places Y13.ann Y13.body) k=some (p,false)) {e:Env} {h:AHeap} (hk:atJ prog C 83 (Y13.J Q) false p Y13.ann Y13.body e h (kFun prog Tryz.f72 Q)):Y13.J Q k e h:=goJ_run (P:=prog) (fn:=Tryz.f72) (ann:=Y13.ann) (body:=Y13.body) (Q:=Q) (k:=k) (p:=p) (e:=e) (h:=h) (acall_le X) Y13.dist hl hk
theorem Y13.goH {Q:AV→AHeap→Prop} {k:Nat} {p:List Nat} (hl:lookJ (places Y13.ann Y13.body) k=some (p,true)) {e:Env} {h:AHeap} (hk:atJ prog C 83 (Y13.J Q) true p Y13.ann Y13.body e h (kFun prog Tryz.f72 Q)):Y13.J Q k e h:=goJ_head (P:=prog) (fn:=Tryz.f72) (ann:=Y13.ann) (body:=Y13.body) (Q:=Q) (k:=k) (p:=p) (e:=e) (h:=h) (acall_le X) Y13.dist hl hk
def Y13.p0 (Q:AV→AHeap→Prop) (x1:AV) (x3:List UInt8) (x12:AV) (x13:Int) (x14:Int) (h:AHeap):Prop:=Y13.J Q 1 [(1,x1),(3,(AV.s x3)),(12,x12),(13,(AV.i .i64 x13)),(14,(AV.i .i64 x14))] h
theorem Y13.j0 (Q:AV→AHeap→Prop) (x1:AV) (x3:List UInt8) (x12:AV) (x13:Int) (x14:Int) (h:AHeap):Y13.J Q 1 [(1,x1),(3,(AV.s x3)),(12,x12),(13,(AV.i .i64 x13)),(14,(AV.i .i64 x14))] h=Y13.p0 Q x1 x3 x12 x13 x14 h:=rfl
def Y13.p3 (Q:AV→AHeap→Prop) (x3:List UInt8) (x7:AV) (h:AHeap):Prop:=Y13.J Q 4 [(3,(AV.s x3)),(7,x7)] h
theorem Y13.j3 (Q:AV→AHeap→Prop) (x3:List UInt8) (x7:AV) (h:AHeap):Y13.J Q 4 [(3,(AV.s x3)),(7,x7)] h=Y13.p3 Q x3 x7 h:=rfl
def Y13.p2 (Q:AV→AHeap→Prop) (x3:List UInt8) (x6:Int) (h:AHeap):Prop:=Y13.J Q 3 [(3,(AV.s x3)),(6,(AV.i .i64 x6))] h
theorem Y13.j2 (Q:AV→AHeap→Prop) (x3:List UInt8) (x6:Int) (h:AHeap):Y13.J Q 3 [(3,(AV.s x3)),(6,(AV.i .i64 x6))] h=Y13.p2 Q x3 x6 h:=rfl
def Y13.p1 (Q:AV→AHeap→Prop) (x1:AV) (x3:List UInt8) (h:AHeap):Prop:=Y13.J Q 2 [(1,x1),(3,(AV.s x3))] h
theorem Y13.j1 (Q:AV→AHeap→Prop) (x1:AV) (x3:List UInt8) (h:AHeap):Y13.J Q 2 [(1,x1),(3,(AV.s x3))] h=Y13.p1 Q x1 x3 h:=rfl
def Y13.t0 (J:JT) (Q:AV→AHeap→Prop) (x1:AV) (x3:List UInt8) (x12:AV) (x13:Int) (x14:Int) (h:AHeap):Prop:=
(bif (decide ((x14:Int)<x13)) then
(pIdxAddrSl 5 x12 (AV.i .i64 x14) h fun v14=>
pLoadN 5 v14 h fun v15=>
pAlloc (some 33) [(AV.i .i64 0),(AV.i .i64 0),(AV.b false),(AV.s []),(AV.sl none 0 none)] h fun v16 h17=>
pStore 5 v16 v15 h17 fun h18=>
pLoadN 5 v16 h18 fun v20=>
C Y13.id [v20] h18 fun v21 h22=>
asS v21 fun l23=>
pCat x3 l23 fun l24=>
(bif (decide ((131070:Int)<(l24.length:Int))) then
(J 2 [(1,x1),(3,(AV.s l24))] h22)
else
(withI (IntKind.wrap .i64 (x14+1)) fun n29=>
J 1 [(1,x1),(3,(AV.s l24)),(12,x12),(13,(AV.i .i64 x13)),(14,(AV.i .i64 n29))] h22)))
else
(J 2 [(1,x1),(3,(AV.s x3))] h))
theorem Y13.t0_eq (J:JT) (Q:AV→AHeap→Prop) (x1:AV) (x3:List UInt8) (x12:AV) (x13:Int) (x14:Int) (h:AHeap):Y13.t0 J Q x1 x3 x12 x13 x14 h=atJ prog C 83 J true [1,1,0,1,0] Y13.ann Y13.body [(1,x1),(3,(AV.s x3)),(12,x12),(13,(AV.i .i64 x13)),(14,(AV.i .i64 x14))] h (kFun prog Tryz.f72 Q):=by kernel_rfl
theorem Y13.i0 {Q:AV→AHeap→Prop} {x1:AV} {x3:List UInt8} {x12:AV} {x13:Int} {x14:Int} {h:AHeap} (H:Y13.t0 (Y13.J Q) Q x1 x3 x12 x13 x14 h):Y13.p0 Q x1 x3 x12 x13 x14 h:=Y13.goH (k:=1) (p:=[1,1,0,1,0]) (by kernel_rfl) ((Y13.t0_eq (Y13.J Q) Q x1 x3 x12 x13 x14 h).mp H)
def Y13.t3 (J:JT) (Q:AV→AHeap→Prop) (x3:List UInt8) (x7:AV) (h:AHeap):Prop:=
pBytesStr x7 h fun l80=>
pCat l80 x3 fun l81=>
Q (AV.s l81) h
theorem Y13.t3_eq (J:JT) (Q:AV→AHeap→Prop) (x3:List UInt8) (x7:AV) (h:AHeap):Y13.t3 J Q x3 x7 h=atJ prog C 83 J false [1,1,1,1,1,1,1,1] Y13.ann Y13.body [(3,(AV.s x3)),(7,x7)] h (kFun prog Tryz.f72 Q):=by kernel_rfl
theorem Y13.i3 {Q:AV→AHeap→Prop} {x3:List UInt8} {x7:AV} {h:AHeap} (H:Y13.t3 (Y13.J Q) Q x3 x7 h):Y13.p3 Q x3 x7 h:=Y13.goR (k:=4) (p:=[1,1,1,1,1,1,1,1]) (by kernel_rfl) ((Y13.t3_eq (Y13.J Q) Q x3 x7 h).mp H)
def Y13.t2 (J:JT) (Q:AV→AHeap→Prop) (x3:List UInt8) (x6:Int) (h:AHeap):Prop:=
pBuildSl 1 1 [(AV.i .u8 0)] [(0,1,(AV.i .u8 (IntKind.wrap .u8 x6)))] h fun v46 h47=>
(bif (decide (((x3.length:Int):Int)<128)) then
(withI (IntKind.wrap .u8 (x3.length:Int)) fun n51=>
pBuildSl 1 1 [(AV.i .u8 0)] [(0,1,(AV.i .u8 n51))] h47 fun v52 h53=>
pAppend (some 5) 1 1 v46 v52 h53 fun v54 h55=>
J 4 [(3,(AV.s x3)),(7,v54)] h55)
else
((bif (decide (((x3.length:Int):Int)<256)) then
(withI (IntKind.wrap .u8 (x3.length:Int)) fun n58=>
pBuildSl 1 2 [(AV.i .u8 0),(AV.i .u8 0)] [(0,1,(AV.i .u8 129)),(1,1,(AV.i .u8 n58))] h47 fun v59 h60=>
pAppend (some 5) 1 1 v46 v59 h60 fun v61 h62=>
J 4 [(3,(AV.s x3)),(7,v61)] h62)
else
((bif (decide (((x3.length:Int):Int)<65536)) then
(pShr .i64 (x3.length:Int) 8 fun n65=>
withI (IntKind.wrap .u8 (x3.length:Int)) fun n66=>
pBuildSl 1 3 [(AV.i .u8 0),(AV.i .u8 0),(AV.i .u8 0)] [(0,1,(AV.i .u8 130)),(1,1,(AV.i .u8 (IntKind.wrap .u8 n65))),(2,1,(AV.i .u8 n66))] h47 fun v67 h68=>
pAppend (some 5) 1 1 v46 v67 h68 fun v69 h70=>
J 4 [(3,(AV.s x3)),(7,v69)] h70)
else
(pShr .i64 (x3.length:Int) 16 fun n72=>
pShr .i64 (x3.length:Int) 8 fun n73=>
withI (IntKind.wrap .u8 (x3.length:Int)) fun n74=>
pBuildSl 1 4 [(AV.i .u8 0),(AV.i .u8 0),(AV.i .u8 0),(AV.i .u8 0)] [(0,1,(AV.i .u8 131)),(1,1,(AV.i .u8 (IntKind.wrap .u8 n72))),(2,1,(AV.i .u8 (IntKind.wrap .u8 n73))),(3,1,(AV.i .u8 n74))] h47 fun v75 h76=>
pAppend (some 5) 1 1 v46 v75 h76 fun v77 h78=>
J 4 [(3,(AV.s x3)),(7,v77)] h78))))))
theorem Y13.t2_eq (J:JT) (Q:AV→AHeap→Prop) (x3:List UInt8) (x6:Int) (h:AHeap):Y13.t2 J Q x3 x6 h=atJ prog C 83 J false [1,1,1,1,1] Y13.ann Y13.body [(3,(AV.s x3)),(6,(AV.i .i64 x6))] h (kFun prog Tryz.f72 Q):=by kernel_rfl
theorem Y13.i2 {Q:AV→AHeap→Prop} {x3:List UInt8} {x6:Int} {h:AHeap} (H:Y13.t2 (Y13.J Q) Q x3 x6 h):Y13.p2 Q x3 x6 h:=Y13.goR (k:=3) (p:=[1,1,1,1,1]) (by kernel_rfl) ((Y13.t2_eq (Y13.J Q) Q x3 x6 h).mp H)
def Y13.t1 (J:JT) (Q:AV→AHeap→Prop) (x1:AV) (x3:List UInt8) (h:AHeap):Prop:=
pFieldAddr 0 x1 fun v31=>
pLoad1 v31 h fun v32=>
asI .i64 v32 fun n33=>
pShl .i64 n33 6 fun n34=>
pFieldAddr 1 x1 fun v35=>
pLoad1 v35 h fun v36=>
asI .i64 v36 fun n37=>
withI (bitsOp .or .i64 n34 n37) fun n38=>
pFieldAddr 2 x1 fun v40=>
pLoad1 v40 h fun v41=>
asB v41 fun c42=>
(bif c42 then
(J 3 [(3,(AV.s x3)),(6,(AV.i .i64 (bitsOp .or .i64 n38 32)))] h)
else
(J 3 [(3,(AV.s x3)),(6,(AV.i .i64 n38))] h))
theorem Y13.t1_eq (J:JT) (Q:AV→AHeap→Prop) (x1:AV) (x3:List UInt8) (h:AHeap):Y13.t1 J Q x1 x3 h=atJ prog C 83 J false [1,1,1] Y13.ann Y13.body [(1,x1),(3,(AV.s x3))] h (kFun prog Tryz.f72 Q):=by kernel_rfl
theorem Y13.i1 {Q:AV→AHeap→Prop} {x1:AV} {x3:List UInt8} {h:AHeap} (H:Y13.t1 (Y13.J Q) Q x1 x3 h):Y13.p1 Q x1 x3 h:=Y13.goR (k:=2) (p:=[1,1,1]) (by kernel_rfl) ((Y13.t1_eq (Y13.J Q) Q x1 x3 h).mp H)
def Y13.t (J:JT) (Q:AV→AHeap→Prop) (x0:AV) (h:AHeap):Prop:=
pBox (some 33) x0 h fun v0 h1=>
pFieldAddr 3 v0 fun v3=>
pLoad1 v3 h1 fun v4=>
asS v4 fun l5=>
pFieldAddr 4 v0 fun v7=>
pLoad1 v7 h1 fun v8=>
pLenSl v8 fun n9=>
J 1 [(1,v0),(3,(AV.s l5)),(12,v8),(13,(AV.i .i64 n9)),(14,(AV.i .i64 0))] h1
theorem Y13.t_eq (J:JT) (Q:AV→AHeap→Prop) (x0:AV) (h:AHeap):Y13.t J Q x0 h=exJ prog C 83 J Y13.ann Y13.body (initEnv 0 [x0]) h (kFun prog Tryz.f72 Q):=by kernel_rfl
theorem Y13.call {K:AV→AHeap→Prop} {x0:AV} {h:AHeap} (H:Y13.t (Y13.J (kRet h K)) (kRet h K) x0 h):C Y13.id [x0] h K:=
  callJ (P:=prog) (fn:=Tryz.f72) (ann:=Y13.ann) (body:=Y13.body) Tryz.func72 Y13.body_eq (by kernel_rfl) Y13.dist (by kernel_rfl) ((Y13.t_eq (Y13.J (kRet h K)) (kRet h K) x0 h).mp H)
noncomputable def Y74.body:Code:=(Tryz.f83.body).getD .skip
def Y74.ann:Ann:=(.seq 0 [0,1] .leaf (.seq 0 [0] (.seq 0 [0,1,7] .leaf (.seq 0 [0,1,7,12] .leaf (.br (.seq 0 [4,5,6] (.ord (.neu 0 (.neu 1 (.neu 2 (.neu 3 (.neu 4 (.neu 5 (.neu 6 (.neu 7 (.neu 8 (.neu 9 (.neu 10 (.neu 11 .done))))))))))))) .leaf) .leaf))) (.seq 0 [4,5,6] .leaf .leaf)))
theorem Y74.body_eq:Tryz.f83.body=some Y74.body:=by kernel_rfl
theorem Y74.dist:noTwice (places Y74.ann Y74.body)=true:=by kernel_rfl
noncomputable def Y74.J (Q:AV→AHeap→Prop):JT:=funJ prog C Tryz.f83 Y74.ann Y74.body Q
def Y74.t (J:JT) (Q:AV→AHeap→Prop) (x0:List UInt8) (x1:List UInt8) (h:AHeap):Prop:=
C Y38.id [(AV.s x0),(AV.s x1)] h fun v1 h2=>
asI .i64 v1 fun n3=>
(bif (decide ((0:Int)≤n3)) then
(pSliceStr (AV.s x0) none (some (AV.i .i64 n3)) fun l6=>
withI (IntKind.wrap .i64 (n3+(x1.length:Int))) fun n7=>
pSliceStr (AV.s x0) (some (AV.i .i64 n7)) none fun l8=>
Q (AV.tu [(AV.s l6),(AV.s l8),(AV.b true)]) h2)
else
(Q (AV.tu [(AV.s x0),(AV.s []),(AV.b false)]) h2))
theorem Y74.t_eq (J:JT) (Q:AV→AHeap→Prop) (x0:List UInt8) (x1:List UInt8) (h:AHeap):Y74.t J Q x0 x1 h=exJ prog C 23 J Y74.ann Y74.body (initEnv 0 [(AV.s x0),(AV.s x1)]) h (kFun prog Tryz.f83 Q):=by kernel_rfl
theorem Y74.call {K:AV→AHeap→Prop} {x0:List UInt8} {x1:List UInt8} {h:AHeap} (H:Y74.t (Y74.J (kRet h K)) (kRet h K) x0 x1 h):C Y74.id [(AV.s x0),(AV.s x1)] h K:=
  callJ (P:=prog) (fn:=Tryz.f83) (ann:=Y74.ann) (body:=Y74.body) Tryz.func83 Y74.body_eq (by kernel_rfl) Y74.dist (by kernel_rfl) ((Y74.t_eq (Y74.J (kRet h K)) (kRet h K) x0 x1 h).mp H)
end Go.Proofs.YtcdkpkkdolmfdaaGreatDoor
namespace Go.Proofs.YtcdkpkkdolmfdaaGreatDoor
open Go.GAM
variable [XR]
noncomputable def Y69.body:Code:=(Tryz.f84.body).getD .skip
def Y69.ann:Ann:=(.seq 0 [0,1] .leaf (.seq 0 [0,1] .leaf (.seq 0 [] .leaf (.seq 0 [4] .leaf .leaf))))
theorem Y69.body_eq:Tryz.f84.body=some Y69.body:=by kernel_rfl
theorem Y69.dist:noTwice (places Y69.ann Y69.body)=true:=by kernel_rfl
noncomputable def Y69.J (Q:AV→AHeap→Prop):JT:=funJ prog C Tryz.f84 Y69.ann Y69.body Q
def Y69.t (J:JT) (Q:AV→AHeap→Prop) (x0:AV) (x1:Int) (h:AHeap):Prop:=
C Y70.id [x0] h fun v1 h2=>
pNil x0 fun v4=>
pFieldAddr 1 v4 fun v5=>
pLoad1 v5 h2 fun v6=>
pBuildSl 1 1 [(AV.i .u8 0)] [(0,1,(AV.i .u8 x1))] h2 fun v7 h8=>
pAppend (some 5) 1 1 v6 v7 h8 fun v9 h10=>
pNil x0 fun v11=>
pFieldAddr 1 v11 fun v12=>
pStore 1 v12 v9 h10 fun h13=>
Q AV.ni h13
theorem Y69.t_eq (J:JT) (Q:AV→AHeap→Prop) (x0:AV) (x1:Int) (h:AHeap):Y69.t J Q x0 x1 h=exJ prog C 17 J Y69.ann Y69.body (initEnv 0 [x0,(AV.i .u8 x1)]) h (kFun prog Tryz.f84 Q):=by kernel_rfl
theorem Y69.call {K:AV→AHeap→Prop} {x0:AV} {x1:Int} {h:AHeap} (H:Y69.t (Y69.J (kRet h K)) (kRet h K) x0 x1 h):C Y69.id [x0,(AV.i .u8 x1)] h K:=
  callJ (P:=prog) (fn:=Tryz.f84) (ann:=Y69.ann) (body:=Y69.body) Tryz.func84 Y69.body_eq (by kernel_rfl) Y69.dist (by kernel_rfl) ((Y69.t_eq (Y69.J (kRet h K)) (kRet h K) x0 x1 h).mp H)
noncomputable def Y65.body:Code:=(Tryz.f85.body).getD .skip
def Y65.ann:Ann:=(.seq 0 [0] .leaf (.seq 0 [2] (.ord (.neu 0 (.neu 1 (.neu 2 (.neu 3 (.neu 5 (.neu 6 (.neu 7 (.neu 8 (.neu 9 (.eff 4 (.eff 10 (.neu 11 .done) .stop) .stop))))))))))) .leaf))
theorem Y65.body_eq:Tryz.f85.body=some Y65.body:=by kernel_rfl
theorem Y65.dist:noTwice (places Y65.ann Y65.body)=true:=by kernel_rfl
noncomputable def Y65.J (Q:AV→AHeap→Prop):JT:=funJ prog C Tryz.f85 Y65.ann Y65.body Q
def Y65.t (J:JT) (Q:AV→AHeap→Prop) (x0:AV) (h:AHeap):Prop:=
pNil x0 fun v1=>
pFieldAddr 1 v1 fun v2=>
pLoad1 v2 h fun v3=>
pNil x0 fun v4=>
pFieldAddr 1 v4 fun v5=>
pLoad1 v5 h fun v6=>
pLenSl v6 fun n7=>
pSliceData v3 h fun v8 h9=>
pLoad1 v5 h9 fun v10=>
(v6=v10 ∧
(pUString prog v8 (AV.i .i64 n7) h9 fun v11 h12=>
asS v11 fun l13=>
pLoad1 v5 h12 fun v14=>
(v6=v14 ∧
(pLoad1 v2 h12 fun v15=>
(v3=v15 ∧
(Q (AV.s l13) h12))))))
theorem Y65.t_eq (J:JT) (Q:AV→AHeap→Prop) (x0:AV) (h:AHeap):Y65.t J Q x0 h=exJ prog C 14 J Y65.ann Y65.body (initEnv 0 [x0]) h (kFun prog Tryz.f85 Q):=by kernel_rfl
theorem Y65.call {K:AV→AHeap→Prop} {x0:AV} {h:AHeap} (H:Y65.t (Y65.J (kRet h K)) (kRet h K) x0 h):C Y65.id [x0] h K:=
  callJ (P:=prog) (fn:=Tryz.f85) (ann:=Y65.ann) (body:=Y65.body) Tryz.func85 Y65.body_eq (by kernel_rfl) Y65.dist (by kernel_rfl) ((Y65.t_eq (Y65.J (kRet h K)) (kRet h K) x0 h).mp H)
noncomputable def Y5.body:Code:=(Tryz.f86.body).getD .skip
def Y5.ann:Ann:=(.seq 0 [1] .leaf (.seq 0 [1] (.seq 1 [1,20] .leaf (.br (.seq 0 [2,3] .leaf .leaf) .leaf)) (.seq 0 [1,4] .leaf (.seq 0 [1,4,5,6] .leaf (.seq 0 [4,6] (.seq 0 [1,4,5,6,23,24] .leaf (.one (.loop 2 [1,4,5,6,23,24] (.seq 0 [1,4,5,6,23,24,25] .leaf (.seq 0 [1,4,5,6,23,24] (.br .leaf .leaf) (.seq 4 [1,4,5,6,23,24] (.one (.seq 0 [1,4,5,6,7,23,24] .leaf (.seq 0 [1,4,5,6,8,23,24] .leaf (.seq 0 [1,4,5,8,23,24] (.seq 3 [1,4,5,8,23,24,37] .leaf (.br (.seq 0 [2,3] .leaf .leaf) .leaf)) (.seq 0 [1,4,5,8,23,24] .leaf (.seq 0 [1,4,5,6,23,24] .leaf (.seq 0 [1,4,5,6,23,24] (.seq 0 [1,4,5,6,23,24,46] .leaf (.br (.seq 0 [2,3] .leaf .leaf) .leaf)) (.seq 0 [1,4,5,6,23,24,48] .leaf (.br (.seq 0 [1,4,6,23,24] .leaf .leaf) .leaf))))))))) .leaf)))))) (.seq 0 [4] (.seq 0 [4,54] .leaf (.br (.seq 0 [2,3] .leaf .leaf) .leaf)) (.seq 0 [4,9] .leaf (.seq 0 [4,10] (.ord (.neu 0 (.neu 3 (.neu 4 (.neu 5 (.neu 6 (.neu 7 (.neu 8 (.eff 1 (.neu 2 (.eff 9 (.neu 10 (.neu 11 .done)) .stop)) .stop))))))))) (.seq 0 [10] (.seq 0 [10,72,73,74] .leaf (.one (.loop 5 [10,72,73,74] (.seq 0 [10,72,73,74,75] .leaf (.seq 0 [10,72,73,74] (.br .leaf .leaf) (.seq 0 [10,72,73,74] (.one (.seq 0 [10,12,72,73,74] .leaf .leaf)) .leaf)))))) (.seq 0 [2,3] .leaf .leaf))))))))))
theorem Y5.body_eq:Tryz.f86.body=some Y5.body:=by kernel_rfl
theorem Y5.dist:noTwice (places Y5.ann Y5.body)=true:=by kernel_rfl
noncomputable def Y5.J (Q:AV→AHeap→Prop):JT:=funJ prog C Tryz.f86 Y5.ann Y5.body Q
theorem Y5.goR {Q:AV→AHeap→Prop} {k:Nat} {p:List Nat} (hl:lookJ (places Y5.ann Y5.body) k=some (p,false)) {e:Env} {h:AHeap} (hk:atJ prog C 85 (Y5.J Q) false p Y5.ann Y5.body e h (kFun prog Tryz.f86 Q)):Y5.J Q k e h:=goJ_run (P:=prog) (fn:=Tryz.f86) (ann:=Y5.ann) (body:=Y5.body) (Q:=Q) (k:=k) (p:=p) (e:=e) (h:=h) (acall_le X) Y5.dist hl hk
theorem Y5.goH {Q:AV→AHeap→Prop} {k:Nat} {p:List Nat} (hl:lookJ (places Y5.ann Y5.body) k=some (p,true)) {e:Env} {h:AHeap} (hk:atJ prog C 85 (Y5.J Q) true p Y5.ann Y5.body e h (kFun prog Tryz.f86 Q)):Y5.J Q k e h:=goJ_head (P:=prog) (fn:=Tryz.f86) (ann:=Y5.ann) (body:=Y5.body) (Q:=Q) (k:=k) (p:=p) (e:=e) (h:=h) (acall_le X) Y5.dist hl hk
def Y5.p0 (Q:AV→AHeap→Prop) (x1:AV) (x20:Bool) (h:AHeap):Prop:=Y5.J Q 1 [(1,x1),(20,(AV.b x20))] h
theorem Y5.j0 (Q:AV→AHeap→Prop) (x1:AV) (x20:Bool) (h:AHeap):Y5.J Q 1 [(1,x1),(20,(AV.b x20))] h=Y5.p0 Q x1 x20 h:=rfl
def Y5.p2 (Q:AV→AHeap→Prop) (x1:AV) (x4:AV) (x5:Int) (x8:Int) (x23:Int) (x24:Int) (x37:Bool) (h:AHeap):Prop:=Y5.J Q 3 [(1,x1),(4,x4),(5,(AV.i .i64 x5)),(8,(AV.i .i64 x8)),(23,(AV.i .i64 x23)),(24,(AV.i .i64 x24)),(37,(AV.b x37))] h
theorem Y5.j2 (Q:AV→AHeap→Prop) (x1:AV) (x4:AV) (x5:Int) (x8:Int) (x23:Int) (x24:Int) (x37:Bool) (h:AHeap):Y5.J Q 3 [(1,x1),(4,x4),(5,(AV.i .i64 x5)),(8,(AV.i .i64 x8)),(23,(AV.i .i64 x23)),(24,(AV.i .i64 x24)),(37,(AV.b x37))] h=Y5.p2 Q x1 x4 x5 x8 x23 x24 x37 h:=rfl
def Y5.p3 (Q:AV→AHeap→Prop) (x1:AV) (x4:AV) (x5:Int) (x6:Bool) (x23:Int) (x24:Int) (h:AHeap):Prop:=Y5.J Q 4 [(1,x1),(4,x4),(5,(AV.i .i64 x5)),(6,(AV.b x6)),(23,(AV.i .i64 x23)),(24,(AV.i .i64 x24))] h
theorem Y5.j3 (Q:AV→AHeap→Prop) (x1:AV) (x4:AV) (x5:Int) (x6:Bool) (x23:Int) (x24:Int) (h:AHeap):Y5.J Q 4 [(1,x1),(4,x4),(5,(AV.i .i64 x5)),(6,(AV.b x6)),(23,(AV.i .i64 x23)),(24,(AV.i .i64 x24))] h=Y5.p3 Q x1 x4 x5 x6 x23 x24 h:=rfl
def Y5.p1 (Q:AV→AHeap→Prop) (x1:AV) (x4:AV) (x5:Int) (x6:Bool) (x23:Int) (x24:Int) (h:AHeap):Prop:=Y5.J Q 2 [(1,x1),(4,x4),(5,(AV.i .i64 x5)),(6,(AV.b x6)),(23,(AV.i .i64 x23)),(24,(AV.i .i64 x24))] h
theorem Y5.j1 (Q:AV→AHeap→Prop) (x1:AV) (x4:AV) (x5:Int) (x6:Bool) (x23:Int) (x24:Int) (h:AHeap):Y5.J Q 2 [(1,x1),(4,x4),(5,(AV.i .i64 x5)),(6,(AV.b x6)),(23,(AV.i .i64 x23)),(24,(AV.i .i64 x24))] h=Y5.p1 Q x1 x4 x5 x6 x23 x24 h:=rfl
def Y5.p4 (Q:AV→AHeap→Prop) (x10:List UInt8) (x72:AV) (x73:Int) (x74:Int) (h:AHeap):Prop:=Y5.J Q 5 [(10,(AV.s x10)),(72,x72),(73,(AV.i .i64 x73)),(74,(AV.i .i64 x74))] h
theorem Y5.j4 (Q:AV→AHeap→Prop) (x10:List UInt8) (x72:AV) (x73:Int) (x74:Int) (h:AHeap):Y5.J Q 5 [(10,(AV.s x10)),(72,x72),(73,(AV.i .i64 x73)),(74,(AV.i .i64 x74))] h=Y5.p4 Q x10 x72 x73 x74 h:=rfl
def Y5.t0 (J:JT) (Q:AV→AHeap→Prop) (x1:AV) (x20:Bool) (h:AHeap):Prop:=
(bif x20 then
(Q (AV.tu [(AV.s []),(AV.b false)]) h)
else
(pFieldAddr 3 x1 fun v16=>
pLoad1 v16 h fun v17=>
asS v17 fun l18=>
J 2 [(1,x1),(4,(AV.sl none 0 none)),(5,(AV.i .i64 0)),(6,(AV.b false)),(23,(AV.i .i64 (l18.length:Int))),(24,(AV.i .i64 0))] h))
theorem Y5.t0_eq (J:JT) (Q:AV→AHeap→Prop) (x1:AV) (x20:Bool) (h:AHeap):Y5.t0 J Q x1 x20 h=atJ prog C 85 J false [1,0,1] Y5.ann Y5.body [(1,x1),(20,(AV.b x20))] h (kFun prog Tryz.f86 Q):=by kernel_rfl
theorem Y5.i0 {Q:AV→AHeap→Prop} {x1:AV} {x20:Bool} {h:AHeap} (H:Y5.t0 (Y5.J Q) Q x1 x20 h):Y5.p0 Q x1 x20 h:=Y5.goR (k:=1) (p:=[1,0,1]) (by kernel_rfl) ((Y5.t0_eq (Y5.J Q) Q x1 x20 h).mp H)
def Y5.t2 (J:JT) (Q:AV→AHeap→Prop) (x1:AV) (x4:AV) (x5:Int) (x8:Int) (x23:Int) (x24:Int) (x37:Bool) (h:AHeap):Prop:=
(bif x37 then
(Q (AV.tu [(AV.s []),(AV.b false)]) h)
else
(pShl .i64 x5 7 fun n33=>
withI (bitsOp .and .i64 x8 127) fun n34=>
withI (bitsOp .or .i64 n33 n34) fun n35=>
(bif (decide ((268435456:Int)≤n35)) then
(Q (AV.tu [(AV.s []),(AV.b false)]) h)
else
((bif (!(decide ((128:Int)≤x8))) then
(pBuildSl 1 1 [(AV.i .i64 0)] [(0,1,(AV.i .i64 n35))] h fun v42 h43=>
pAppend none 1 8 x4 v42 h43 fun v44 h45=>
J 4 [(1,x1),(4,v44),(5,(AV.i .i64 0)),(6,(AV.b (decide ((128:Int)≤x8)))),(23,(AV.i .i64 x23)),(24,(AV.i .i64 x24))] h45)
else
(J 4 [(1,x1),(4,x4),(5,(AV.i .i64 n35)),(6,(AV.b (decide ((128:Int)≤x8)))),(23,(AV.i .i64 x23)),(24,(AV.i .i64 x24))] h))))))
theorem Y5.t2_eq (J:JT) (Q:AV→AHeap→Prop) (x1:AV) (x4:AV) (x5:Int) (x8:Int) (x23:Int) (x24:Int) (x37:Bool) (h:AHeap):Y5.t2 J Q x1 x4 x5 x8 x23 x24 x37 h=atJ prog C 85 J false [1,1,1,1,0,1,0,0,1,1,0,0,1,1,0,1] Y5.ann Y5.body [(1,x1),(4,x4),(5,(AV.i .i64 x5)),(8,(AV.i .i64 x8)),(23,(AV.i .i64 x23)),(24,(AV.i .i64 x24)),(37,(AV.b x37))] h (kFun prog Tryz.f86 Q):=by kernel_rfl
theorem Y5.i2 {Q:AV→AHeap→Prop} {x1:AV} {x4:AV} {x5:Int} {x8:Int} {x23:Int} {x24:Int} {x37:Bool} {h:AHeap} (H:Y5.t2 (Y5.J Q) Q x1 x4 x5 x8 x23 x24 x37 h):Y5.p2 Q x1 x4 x5 x8 x23 x24 x37 h:=Y5.goR (k:=3) (p:=[1,1,1,1,0,1,0,0,1,1,0,0,1,1,0,1]) (by kernel_rfl) ((Y5.t2_eq (Y5.J Q) Q x1 x4 x5 x8 x23 x24 x37 h).mp H)
def Y5.t3 (J:JT) (Q:AV→AHeap→Prop) (x1:AV) (x4:AV) (x5:Int) (x6:Bool) (x23:Int) (x24:Int) (h:AHeap):Prop:=
withI (IntKind.wrap .i64 (x24+1)) fun n49=>
J 2 [(1,x1),(4,x4),(5,(AV.i .i64 x5)),(6,(AV.b x6)),(23,(AV.i .i64 x23)),(24,(AV.i .i64 n49))] h
theorem Y5.t3_eq (J:JT) (Q:AV→AHeap→Prop) (x1:AV) (x4:AV) (x5:Int) (x6:Bool) (x23:Int) (x24:Int) (h:AHeap):Y5.t3 J Q x1 x4 x5 x6 x23 x24 h=atJ prog C 85 J false [1,1,1,1,0,1,0,0,1,1,1] Y5.ann Y5.body [(1,x1),(4,x4),(5,(AV.i .i64 x5)),(6,(AV.b x6)),(23,(AV.i .i64 x23)),(24,(AV.i .i64 x24))] h (kFun prog Tryz.f86 Q):=by kernel_rfl
theorem Y5.i3 {Q:AV→AHeap→Prop} {x1:AV} {x4:AV} {x5:Int} {x6:Bool} {x23:Int} {x24:Int} {h:AHeap} (H:Y5.t3 (Y5.J Q) Q x1 x4 x5 x6 x23 x24 h):Y5.p3 Q x1 x4 x5 x6 x23 x24 h:=Y5.goR (k:=4) (p:=[1,1,1,1,0,1,0,0,1,1,1]) (by kernel_rfl) ((Y5.t3_eq (Y5.J Q) Q x1 x4 x5 x6 x23 x24 h).mp H)
def Y5.t1 (J:JT) (Q:AV→AHeap→Prop) (x1:AV) (x4:AV) (x5:Int) (x6:Bool) (x23:Int) (x24:Int) (h:AHeap):Prop:=
(bif (decide ((x24:Int)<x23)) then
(pFieldAddr 3 x1 fun v24=>
pLoad1 v24 h fun v25=>
asS v25 fun l26=>
pIdxStr (AV.s l26) (AV.i .i64 x24) fun n27=>
(bif (!x6) then
(J 3 [(1,x1),(4,x4),(5,(AV.i .i64 x5)),(8,(AV.i .i64 (IntKind.wrap .i64 n27))),(23,(AV.i .i64 x23)),(24,(AV.i .i64 x24)),(37,(AV.b (decide (((IntKind.wrap .i64 n27):Int)=128))))] h)
else
(J 3 [(1,x1),(4,x4),(5,(AV.i .i64 x5)),(8,(AV.i .i64 (IntKind.wrap .i64 n27))),(23,(AV.i .i64 x23)),(24,(AV.i .i64 x24)),(37,(AV.b false))] h)))
else
((bif x6 then
(Q (AV.tu [(AV.s []),(AV.b false)]) h)
else
(pIdxAddrSl 1 x4 (AV.i .i64 0) h fun v54=>
pLoad1 v54 h fun v55=>
asI .i64 v55 fun n56=>
pQuo .i64 n56 40 fun n57=>
pIdxAddrSl 1 x4 (AV.i .i64 0) h fun v59=>
pLoad1 v59 h fun v60=>
asI .i64 v60 fun n61=>
withI (IntKind.wrap .i64 (40 * (mmI false 2 n57))) fun n62=>
withI (IntKind.wrap .i64 (n61 - n62)) fun n63=>
C Y88.id [(AV.i .i64 (mmI false 2 n57))] h fun v64 h65=>
asS v64 fun l66=>
pLoad1 v59 h65 fun v67=>
asI .i64 v67 fun n68=>
((AV.i .i64 n61)=(AV.i .i64 n68) ∧
(pIdxAddrSl 1 x4 (AV.i .i64 0) h65 fun v69=>
(v59=v69 ∧
(pCat l66 [46] fun l70=>
C Y88.id [(AV.i .i64 n63)] h65 fun v71 h72=>
asS v71 fun l73=>
pLoad1 v59 h72 fun v74=>
asI .i64 v74 fun n75=>
((AV.i .i64 n61)=(AV.i .i64 n75) ∧
(pIdxAddrSl 1 x4 (AV.i .i64 0) h72 fun v76=>
(v59=v76 ∧
(pCat l70 l73 fun l77=>
pSliceSl 1 x4 (some (AV.i .i64 1)) none none h72 fun v79=>
pLenSl v79 fun n80=>
J 5 [(10,(AV.s l77)),(72,v79),(73,(AV.i .i64 n80)),(74,(AV.i .i64 0))] h72))))))))))))
theorem Y5.t1_eq (J:JT) (Q:AV→AHeap→Prop) (x1:AV) (x4:AV) (x5:Int) (x6:Bool) (x23:Int) (x24:Int) (h:AHeap):Y5.t1 J Q x1 x4 x5 x6 x23 x24 h=atJ prog C 85 J true [1,1,1,1,0,1,0] Y5.ann Y5.body [(1,x1),(4,x4),(5,(AV.i .i64 x5)),(6,(AV.b x6)),(23,(AV.i .i64 x23)),(24,(AV.i .i64 x24))] h (kFun prog Tryz.f86 Q):=by kernel_rfl
theorem Y5.i1 {Q:AV→AHeap→Prop} {x1:AV} {x4:AV} {x5:Int} {x6:Bool} {x23:Int} {x24:Int} {h:AHeap} (H:Y5.t1 (Y5.J Q) Q x1 x4 x5 x6 x23 x24 h):Y5.p1 Q x1 x4 x5 x6 x23 x24 h:=Y5.goH (k:=2) (p:=[1,1,1,1,0,1,0]) (by kernel_rfl) ((Y5.t1_eq (Y5.J Q) Q x1 x4 x5 x6 x23 x24 h).mp H)
def Y5.t4 (J:JT) (Q:AV→AHeap→Prop) (x10:List UInt8) (x72:AV) (x73:Int) (x74:Int) (h:AHeap):Prop:=
(bif (decide ((x74:Int)<x73)) then
(pIdxAddrSl 1 x72 (AV.i .i64 x74) h fun v85=>
pLoad1 v85 h fun v86=>
asI .i64 v86 fun n87=>
C Y88.id [(AV.i .i64 n87)] h fun v89 h90=>
asS v89 fun l91=>
pCat [46] l91 fun l92=>
pCat x10 l92 fun l93=>
withI (IntKind.wrap .i64 (x74+1)) fun n95=>
J 5 [(10,(AV.s l93)),(72,x72),(73,(AV.i .i64 x73)),(74,(AV.i .i64 n95))] h90)
else
(Q (AV.tu [(AV.s x10),(AV.b true)]) h))
theorem Y5.t4_eq (J:JT) (Q:AV→AHeap→Prop) (x10:List UInt8) (x72:AV) (x73:Int) (x74:Int) (h:AHeap):Y5.t4 J Q x10 x72 x73 x74 h=atJ prog C 85 J true [1,1,1,1,1,1,1,1,0,1,0] Y5.ann Y5.body [(10,(AV.s x10)),(72,x72),(73,(AV.i .i64 x73)),(74,(AV.i .i64 x74))] h (kFun prog Tryz.f86 Q):=by kernel_rfl
theorem Y5.i4 {Q:AV→AHeap→Prop} {x10:List UInt8} {x72:AV} {x73:Int} {x74:Int} {h:AHeap} (H:Y5.t4 (Y5.J Q) Q x10 x72 x73 x74 h):Y5.p4 Q x10 x72 x73 x74 h:=Y5.goH (k:=5) (p:=[1,1,1,1,1,1,1,1,0,1,0]) (by kernel_rfl) ((Y5.t4_eq (Y5.J Q) Q x10 x72 x73 x74 h).mp H)
def Y5.t (J:JT) (Q:AV→AHeap→Prop) (x0:AV) (h:AHeap):Prop:=
pBox (some 33) x0 h fun v0 h1=>
pLoadN 5 v0 h1 fun v3=>
C Y29.id [v3,(AV.i .i64 6)] h1 fun v4 h5=>
asB v4 fun c6=>
(bif (!c6) then
(J 1 [(1,v0),(20,(AV.b true))] h5)
else
(pFieldAddr 3 v0 fun v8=>
pLoad1 v8 h5 fun v9=>
asS v9 fun l10=>
J 1 [(1,v0),(20,(AV.b (decide ((l10:List UInt8)=[]))))] h5))
theorem Y5.t_eq (J:JT) (Q:AV→AHeap→Prop) (x0:AV) (h:AHeap):Y5.t J Q x0 h=exJ prog C 85 J Y5.ann Y5.body (initEnv 0 [x0]) h (kFun prog Tryz.f86 Q):=by kernel_rfl
theorem Y5.call {K:AV→AHeap→Prop} {x0:AV} {h:AHeap} (H:Y5.t (Y5.J (kRet h K)) (kRet h K) x0 h):C Y5.id [x0] h K:=
  callJ (P:=prog) (fn:=Tryz.f86) (ann:=Y5.ann) (body:=Y5.body) Tryz.func86 Y5.body_eq (by kernel_rfl) Y5.dist (by kernel_rfl) ((Y5.t_eq (Y5.J (kRet h K)) (kRet h K) x0 h).mp H)
noncomputable def Y39.body:Code:=(Tryz.f87.body).getD .skip
def Y39.ann:Ann:=(.seq 0 [1] .leaf (.seq 0 [1] (.seq 1 [1,16] .leaf (.br (.seq 0 [2,3] .leaf .leaf) .leaf)) (.seq 0 [1] (.seq 0 [1,21] .leaf (.br (.seq 0 [2,3] .leaf .leaf) .leaf)) (.seq 0 [2,3] .leaf .leaf))))
theorem Y39.body_eq:Tryz.f87.body=some Y39.body:=by kernel_rfl
theorem Y39.dist:noTwice (places Y39.ann Y39.body)=true:=by kernel_rfl
noncomputable def Y39.J (Q:AV→AHeap→Prop):JT:=funJ prog C Tryz.f87 Y39.ann Y39.body Q
theorem Y39.goR {Q:AV→AHeap→Prop} {k:Nat} {p:List Nat} (hl:lookJ (places Y39.ann Y39.body) k=some (p,false)) {e:Env} {h:AHeap} (hk:atJ prog C 24 (Y39.J Q) false p Y39.ann Y39.body e h (kFun prog Tryz.f87 Q)):Y39.J Q k e h:=goJ_run (P:=prog) (fn:=Tryz.f87) (ann:=Y39.ann) (body:=Y39.body) (Q:=Q) (k:=k) (p:=p) (e:=e) (h:=h) (acall_le X) Y39.dist hl hk
def Y39.p0 (Q:AV→AHeap→Prop) (x1:AV) (x16:Bool) (h:AHeap):Prop:=Y39.J Q 1 [(1,x1),(16,(AV.b x16))] h
theorem Y39.j0 (Q:AV→AHeap→Prop) (x1:AV) (x16:Bool) (h:AHeap):Y39.J Q 1 [(1,x1),(16,(AV.b x16))] h=Y39.p0 Q x1 x16 h:=rfl
def Y39.t0 (J:JT) (Q:AV→AHeap→Prop) (x1:AV) (x16:Bool) (h:AHeap):Prop:=
(bif x16 then
(Q (AV.tu [(AV.s []),(AV.b false)]) h)
else
(pFieldAddr 3 x1 fun v20=>
pLoad1 v20 h fun v21=>
asS v21 fun l22=>
pStrBytes (AV.s l22) h fun v23 h24=>
C Y31.id [v23,(AV.fn (.func Y40.id) [] [])] h24 fun v25 h26=>
asB v25 fun c27=>
(bif (!c27) then
(Q (AV.tu [(AV.s []),(AV.b false)]) h26)
else
(pFieldAddr 3 x1 fun v31=>
pLoad1 v31 h26 fun v32=>
asS v32 fun l33=>
Q (AV.tu [(AV.s l33),(AV.b true)]) h26))))
theorem Y39.t0_eq (J:JT) (Q:AV→AHeap→Prop) (x1:AV) (x16:Bool) (h:AHeap):Y39.t0 J Q x1 x16 h=atJ prog C 24 J false [1,0,1] Y39.ann Y39.body [(1,x1),(16,(AV.b x16))] h (kFun prog Tryz.f87 Q):=by kernel_rfl
theorem Y39.i0 {Q:AV→AHeap→Prop} {x1:AV} {x16:Bool} {h:AHeap} (H:Y39.t0 (Y39.J Q) Q x1 x16 h):Y39.p0 Q x1 x16 h:=Y39.goR (k:=1) (p:=[1,0,1]) (by kernel_rfl) ((Y39.t0_eq (Y39.J Q) Q x1 x16 h).mp H)
def Y39.t (J:JT) (Q:AV→AHeap→Prop) (x0:AV) (h:AHeap):Prop:=
pBox (some 33) x0 h fun v0 h1=>
pLoadN 5 v0 h1 fun v3=>
C Y29.id [v3,(AV.i .i64 12)] h1 fun v4 h5=>
asB v4 fun c6=>
(bif (!c6) then
(pLoadN 5 v0 h5 fun v7=>
C Y29.id [v7,(AV.i .i64 19)] h5 fun v8 h9=>
asB v8 fun c10=>
(bif (!c10) then
(pLoadN 5 v0 h9 fun v11=>
C Y29.id [v11,(AV.i .i64 22)] h9 fun v12 h13=>
asB v12 fun c14=>
J 1 [(1,v0),(16,(AV.b (!c14)))] h13)
else
(J 1 [(1,v0),(16,(AV.b false))] h9)))
else
(J 1 [(1,v0),(16,(AV.b false))] h5))
theorem Y39.t_eq (J:JT) (Q:AV→AHeap→Prop) (x0:AV) (h:AHeap):Y39.t J Q x0 h=exJ prog C 24 J Y39.ann Y39.body (initEnv 0 [x0]) h (kFun prog Tryz.f87 Q):=by kernel_rfl
theorem Y39.call {K:AV→AHeap→Prop} {x0:AV} {h:AHeap} (H:Y39.t (Y39.J (kRet h K)) (kRet h K) x0 h):C Y39.id [x0] h K:=
  callJ (P:=prog) (fn:=Tryz.f87) (ann:=Y39.ann) (body:=Y39.body) Tryz.func87 Y39.body_eq (by kernel_rfl) Y39.dist (by kernel_rfl) ((Y39.t_eq (Y39.J (kRet h K)) (kRet h K) x0 h).mp H)
noncomputable def Y68.body:Code:=(Tryz.f88.body).getD .skip
def Y68.ann:Ann:=(.seq 0 [0] .leaf (.seq 0 [0] (.seq 0 [0,6] .leaf (.br .leaf .leaf)) (.seq 0 [2] .leaf .leaf)))
theorem Y68.body_eq:Tryz.f88.body=some Y68.body:=by kernel_rfl
theorem Y68.dist:noTwice (places Y68.ann Y68.body)=true:=by kernel_rfl
noncomputable def Y68.J (Q:AV→AHeap→Prop):JT:=funJ prog C Tryz.f88 Y68.ann Y68.body Q
def Y68.t (J:JT) (Q:AV→AHeap→Prop) (x0:AV) (h:AHeap):Prop:=
pLenSl x0 fun n1=>
pRem n1 2 fun n2=>
(bif (decide ((n2:Int)=1)) then
(False)
else
(pAppend none 1 16 (AV.sl none 0 none) x0 h fun v5 h6=>
pBuild [(AV.i .u32 0),(AV.i .i32 0),(AV.i .u32 0),AV.ni,(AV.sl none 0 none)] [(4,1,v5)] fun v7=>
pBox (some 149) v7 h6 fun v8 h9=>
Q v8 h9))
theorem Y68.t_eq (J:JT) (Q:AV→AHeap→Prop) (x0:AV) (h:AHeap):Y68.t J Q x0 h=exJ prog C 12 J Y68.ann Y68.body (initEnv 0 [x0]) h (kFun prog Tryz.f88 Q):=by kernel_rfl
theorem Y68.call {K:AV→AHeap→Prop} {x0:AV} {h:AHeap} (H:Y68.t (Y68.J (kRet h K)) (kRet h K) x0 h):C Y68.id [x0] h K:=
  callJ (P:=prog) (fn:=Tryz.f88) (ann:=Y68.ann) (body:=Y68.body) Tryz.func88 Y68.body_eq (by kernel_rfl) Y68.dist (by kernel_rfl) ((Y68.t_eq (Y68.J (kRet h K)) (kRet h K) x0 h).mp H)
noncomputable def Y60.body:Code:=(Tryz.f89.body).getD .skip
def Y60.ann:Ann:=(.seq 0 [0,1] .leaf (.seq 0 [0,1] .leaf (.seq 0 [4] .leaf .leaf)))
theorem Y60.body_eq:Tryz.f89.body=some Y60.body:=by kernel_rfl
theorem Y60.dist:noTwice (places Y60.ann Y60.body)=true:=by kernel_rfl
noncomputable def Y60.J (Q:AV→AHeap→Prop):JT:=funJ prog C Tryz.f89 Y60.ann Y60.body Q
def Y60.t (J:JT) (Q:AV→AHeap→Prop) (x0:AV) (x1:List UInt8) (h:AHeap):Prop:=
pNil x0 fun v1=>
pFieldAddr 0 v1 fun v2=>
C Y77.id [v2,(AV.fn (.func Y72.id) [x0] [])] h fun v3 h4=>
pNil x0 fun v6=>
pFieldAddr 3 v6 fun v7=>
pLoad1 v7 h4 fun v8=>
pInvoke prog C v8 "Replace" [(AV.s x1)] h4 fun v9 h10=>
asS v9 fun l11=>
Q (AV.s l11) h10
theorem Y60.t_eq (J:JT) (Q:AV→AHeap→Prop) (x0:AV) (x1:List UInt8) (h:AHeap):Y60.t J Q x0 x1 h=exJ prog C 17 J Y60.ann Y60.body (initEnv 0 [x0,(AV.s x1)]) h (kFun prog Tryz.f89 Q):=by kernel_rfl
theorem Y60.call {K:AV→AHeap→Prop} {x0:AV} {x1:List UInt8} {h:AHeap} (H:Y60.t (Y60.J (kRet h K)) (kRet h K) x0 x1 h):C Y60.id [x0,(AV.s x1)] h K:=
  callJ (P:=prog) (fn:=Tryz.f89) (ann:=Y60.ann) (body:=Y60.body) Tryz.func89 Y60.body_eq (by kernel_rfl) Y60.dist (by kernel_rfl) ((Y60.t_eq (Y60.J (kRet h K)) (kRet h K) x0 x1 h).mp H)
noncomputable def Y76.body:Code:=(Tryz.f91.body).getD .skip
def Y76.ann:Ann:=(.seq 0 [0,1] .leaf (.seq 0 [0,1] (.seq 0 [0,1,9] .leaf (.br (.seq 0 [4,5] .leaf .leaf) .leaf)) (.seq 0 [4,5] .leaf .leaf)))
theorem Y76.body_eq:Tryz.f91.body=some Y76.body:=by kernel_rfl
theorem Y76.dist:noTwice (places Y76.ann Y76.body)=true:=by kernel_rfl
noncomputable def Y76.J (Q:AV→AHeap→Prop):JT:=funJ prog C Tryz.f91 Y76.ann Y76.body Q
def Y76.t (J:JT) (Q:AV→AHeap→Prop) (x0:List UInt8) (x1:List UInt8) (h:AHeap):Prop:=
C Y35.id [(AV.s x0),(AV.s x1)] h fun v1 h2=>
asB v1 fun c3=>
(bif (!c3) then
(Q (AV.tu [(AV.s x0),(AV.b false)]) h2)
else
(pSliceStr (AV.s x0) (some (AV.i .i64 (x1.length:Int))) none fun l7=>
Q (AV.tu [(AV.s l7),(AV.b true)]) h2))
theorem Y76.t_eq (J:JT) (Q:AV→AHeap→Prop) (x0:List UInt8) (x1:List UInt8) (h:AHeap):Y76.t J Q x0 x1 h=exJ prog C 15 J Y76.ann Y76.body (initEnv 0 [(AV.s x0),(AV.s x1)]) h (kFun prog Tryz.f91 Q):=by kernel_rfl
theorem Y76.call {K:AV→AHeap→Prop} {x0:List UInt8} {x1:List UInt8} {h:AHeap} (H:Y76.t (Y76.J (kRet h K)) (kRet h K) x0 x1 h):C Y76.id [(AV.s x0),(AV.s x1)] h K:=
  callJ (P:=prog) (fn:=Tryz.f91) (ann:=Y76.ann) (body:=Y76.body) Tryz.func91 Y76.body_eq (by kernel_rfl) Y76.dist (by kernel_rfl) ((Y76.t_eq (Y76.J (kRet h K)) (kRet h K) x0 x1 h).mp H)
noncomputable def Y20.body:Code:=(Tryz.f92.body).getD .skip
def Y20.ann:Ann:=(.seq 0 [0] .leaf (.seq 0 [0] (.seq 0 [0,9] .leaf (.br (.seq 0 [2,3,4] .leaf .leaf) .leaf)) (.seq 0 [0,5] (.ord (.neu 0 (.neu 1 (.neu 2 (.neu 3 (.neu 4 (.neu 5 (.eff 6 .done .stop)))))))) (.seq 0 [0,5] (.seq 0 [0,5,16] .leaf (.br (.seq 0 [2,3,4] .leaf .leaf) .leaf)) (.seq 0 [0,6] .leaf (.seq 0 [0,6] (.one (.seq 1 [0,6,21] .leaf (.br (.seq 0 [2,3,4] .leaf .leaf) (.seq 0 [0,6,28] .leaf (.br (.seq 0 [2,3,4] .leaf .leaf) .leaf))))) (.seq 0 [0,5,6] .leaf (.seq 0 [0,5,6] (.seq 0 [0,5,6,33,34] .leaf (.one (.loop 2 [0,5,6,33,34] (.seq 0 [0,5,6,33,34,35] .leaf (.seq 0 [0,5,6,33,34] (.br .leaf .leaf) (.seq 0 [0,5,6,33,34] (.one (.seq 0 [0,5,6,7,33,34] .leaf .leaf)) .leaf)))))) (.seq 0 [0,5,6] (.seq 3 [0,5,6,54] .leaf (.br (.seq 0 [2,3,4] .leaf .leaf) .leaf)) (.seq 0 [2,3,4] (.ord (.neu 0 (.neu 1 (.neu 2 (.neu 3 (.neu 4 (.neu 5 (.neu 6 .done)))))))) .leaf))))))))))
theorem Y20.body_eq:Tryz.f92.body=some Y20.body:=by kernel_rfl
theorem Y20.dist:noTwice (places Y20.ann Y20.body)=true:=by kernel_rfl
noncomputable def Y20.J (Q:AV→AHeap→Prop):JT:=funJ prog C Tryz.f92 Y20.ann Y20.body Q
theorem Y20.goR {Q:AV→AHeap→Prop} {k:Nat} {p:List Nat} (hl:lookJ (places Y20.ann Y20.body) k=some (p,false)) {e:Env} {h:AHeap} (hk:atJ prog C 59 (Y20.J Q) false p Y20.ann Y20.body e h (kFun prog Tryz.f92 Q)):Y20.J Q k e h:=goJ_run (P:=prog) (fn:=Tryz.f92) (ann:=Y20.ann) (body:=Y20.body) (Q:=Q) (k:=k) (p:=p) (e:=e) (h:=h) (acall_le X) Y20.dist hl hk
theorem Y20.goH {Q:AV→AHeap→Prop} {k:Nat} {p:List Nat} (hl:lookJ (places Y20.ann Y20.body) k=some (p,true)) {e:Env} {h:AHeap} (hk:atJ prog C 59 (Y20.J Q) true p Y20.ann Y20.body e h (kFun prog Tryz.f92 Q)):Y20.J Q k e h:=goJ_head (P:=prog) (fn:=Tryz.f92) (ann:=Y20.ann) (body:=Y20.body) (Q:=Q) (k:=k) (p:=p) (e:=e) (h:=h) (acall_le X) Y20.dist hl hk
def Y20.p0 (Q:AV→AHeap→Prop) (x0:List UInt8) (x6:Int) (x21:Bool) (h:AHeap):Prop:=Y20.J Q 1 [(0,(AV.s x0)),(6,(AV.i .i64 x6)),(21,(AV.b x21))] h
theorem Y20.j0 (Q:AV→AHeap→Prop) (x0:List UInt8) (x6:Int) (x21:Bool) (h:AHeap):Y20.J Q 1 [(0,(AV.s x0)),(6,(AV.i .i64 x6)),(21,(AV.b x21))] h=Y20.p0 Q x0 x6 x21 h:=rfl
def Y20.p1 (Q:AV→AHeap→Prop) (x0:List UInt8) (x5:Int) (x6:Int) (x33:Int) (x34:Int) (h:AHeap):Prop:=Y20.J Q 2 [(0,(AV.s x0)),(5,(AV.i .i64 x5)),(6,(AV.i .i64 x6)),(33,(AV.i .i64 x33)),(34,(AV.i .i64 x34))] h
theorem Y20.j1 (Q:AV→AHeap→Prop) (x0:List UInt8) (x5:Int) (x6:Int) (x33:Int) (x34:Int) (h:AHeap):Y20.J Q 2 [(0,(AV.s x0)),(5,(AV.i .i64 x5)),(6,(AV.i .i64 x6)),(33,(AV.i .i64 x33)),(34,(AV.i .i64 x34))] h=Y20.p1 Q x0 x5 x6 x33 x34 h:=rfl
def Y20.p2 (Q:AV→AHeap→Prop) (x0:List UInt8) (x5:Int) (x6:Int) (x54:Bool) (h:AHeap):Prop:=Y20.J Q 3 [(0,(AV.s x0)),(5,(AV.i .i64 x5)),(6,(AV.i .i64 x6)),(54,(AV.b x54))] h
theorem Y20.j2 (Q:AV→AHeap→Prop) (x0:List UInt8) (x5:Int) (x6:Int) (x54:Bool) (h:AHeap):Y20.J Q 3 [(0,(AV.s x0)),(5,(AV.i .i64 x5)),(6,(AV.i .i64 x6)),(54,(AV.b x54))] h=Y20.p2 Q x0 x5 x6 x54 h:=rfl
def Y20.t0 (J:JT) (Q:AV→AHeap→Prop) (x0:List UInt8) (x6:Int) (x21:Bool) (h:AHeap):Prop:=
(bif x21 then
(Q (AV.tu [(AV.i .i64 0),(AV.s []),(AV.i .i64 2)]) h)
else
((bif (decide (((x0.length:Int):Int)<x6)) then
(Q (AV.tu [(AV.i .i64 0),(AV.s []),(AV.i .i64 1)]) h)
else
(J 2 [(0,(AV.s x0)),(5,(AV.i .i64 0)),(6,(AV.i .i64 x6)),(33,(AV.i .i64 x6)),(34,(AV.i .i64 0))] h))))
theorem Y20.t0_eq (J:JT) (Q:AV→AHeap→Prop) (x0:List UInt8) (x6:Int) (x21:Bool) (h:AHeap):Y20.t0 J Q x0 x6 x21 h=atJ prog C 59 J false [1,1,1,1,1,0,0,1] Y20.ann Y20.body [(0,(AV.s x0)),(6,(AV.i .i64 x6)),(21,(AV.b x21))] h (kFun prog Tryz.f92 Q):=by kernel_rfl
theorem Y20.i0 {Q:AV→AHeap→Prop} {x0:List UInt8} {x6:Int} {x21:Bool} {h:AHeap} (H:Y20.t0 (Y20.J Q) Q x0 x6 x21 h):Y20.p0 Q x0 x6 x21 h:=Y20.goR (k:=1) (p:=[1,1,1,1,1,0,0,1]) (by kernel_rfl) ((Y20.t0_eq (Y20.J Q) Q x0 x6 x21 h).mp H)
def Y20.t1 (J:JT) (Q:AV→AHeap→Prop) (x0:List UInt8) (x5:Int) (x6:Int) (x33:Int) (x34:Int) (h:AHeap):Prop:=
(bif (decide ((x34:Int)<x33)) then
(pShl .i64 x5 8 fun n24=>
pIdxStr (AV.s x0) (AV.i .i64 x34) fun n25=>
withI (bitsOp .or .i64 n24 (IntKind.wrap .i64 n25)) fun n26=>
withI (IntKind.wrap .i64 (x34+1)) fun n28=>
J 2 [(0,(AV.s x0)),(5,(AV.i .i64 n26)),(6,(AV.i .i64 x6)),(33,(AV.i .i64 x33)),(34,(AV.i .i64 n28))] h)
else
((bif (decide ((x5:Int)<128)) then
(J 3 [(0,(AV.s x0)),(5,(AV.i .i64 x5)),(6,(AV.i .i64 x6)),(54,(AV.b true))] h)
else
(withI (IntKind.wrap .i64 (x6 - 1)) fun n31=>
withI (IntKind.wrap .i64 (8 * n31)) fun n32=>
pShr .i64 x5 n32 fun n33=>
J 3 [(0,(AV.s x0)),(5,(AV.i .i64 x5)),(6,(AV.i .i64 x6)),(54,(AV.b (decide ((n33:Int)=0))))] h))))
theorem Y20.t1_eq (J:JT) (Q:AV→AHeap→Prop) (x0:List UInt8) (x5:Int) (x6:Int) (x33:Int) (x34:Int) (h:AHeap):Y20.t1 J Q x0 x5 x6 x33 x34 h=atJ prog C 59 J true [1,1,1,1,1,1,1,0,1,0] Y20.ann Y20.body [(0,(AV.s x0)),(5,(AV.i .i64 x5)),(6,(AV.i .i64 x6)),(33,(AV.i .i64 x33)),(34,(AV.i .i64 x34))] h (kFun prog Tryz.f92 Q):=by kernel_rfl
theorem Y20.i1 {Q:AV→AHeap→Prop} {x0:List UInt8} {x5:Int} {x6:Int} {x33:Int} {x34:Int} {h:AHeap} (H:Y20.t1 (Y20.J Q) Q x0 x5 x6 x33 x34 h):Y20.p1 Q x0 x5 x6 x33 x34 h:=Y20.goH (k:=2) (p:=[1,1,1,1,1,1,1,0,1,0]) (by kernel_rfl) ((Y20.t1_eq (Y20.J Q) Q x0 x5 x6 x33 x34 h).mp H)
def Y20.t2 (J:JT) (Q:AV→AHeap→Prop) (x0:List UInt8) (x5:Int) (x6:Int) (x54:Bool) (h:AHeap):Prop:=
(bif x54 then
(Q (AV.tu [(AV.i .i64 0),(AV.s []),(AV.i .i64 2)]) h)
else
(pSliceStr (AV.s x0) (some (AV.i .i64 x6)) none fun l37=>
Q (AV.tu [(AV.i .i64 x5),(AV.s l37),(AV.i .i64 0)]) h))
theorem Y20.t2_eq (J:JT) (Q:AV→AHeap→Prop) (x0:List UInt8) (x5:Int) (x6:Int) (x54:Bool) (h:AHeap):Y20.t2 J Q x0 x5 x6 x54 h=atJ prog C 59 J false [1,1,1,1,1,1,1,1,0,1] Y20.ann Y20.body [(0,(AV.s x0)),(5,(AV.i .i64 x5)),(6,(AV.i .i64 x6)),(54,(AV.b x54))] h (kFun prog Tryz.f92 Q):=by kernel_rfl
theorem Y20.i2 {Q:AV→AHeap→Prop} {x0:List UInt8} {x5:Int} {x6:Int} {x54:Bool} {h:AHeap} (H:Y20.t2 (Y20.J Q) Q x0 x5 x6 x54 h):Y20.p2 Q x0 x5 x6 x54 h:=Y20.goR (k:=3) (p:=[1,1,1,1,1,1,1,1,0,1]) (by kernel_rfl) ((Y20.t2_eq (Y20.J Q) Q x0 x5 x6 x54 h).mp H)
def Y20.t (J:JT) (Q:AV→AHeap→Prop) (x0:List UInt8) (h:AHeap):Prop:=
(bif (decide ((x0:List UInt8)=[])) then
(Q (AV.tu [(AV.i .i64 0),(AV.s []),(AV.i .i64 1)]) h)
else
(pIdxStr (AV.s x0) (AV.i .i64 0) fun n4=>
pSliceStr (AV.s x0) (some (AV.i .i64 1)) none fun l5=>
(bif (decide (((IntKind.wrap .i64 n4):Int)<128)) then
(Q (AV.tu [(AV.i .i64 (IntKind.wrap .i64 n4)),(AV.s l5),(AV.i .i64 0)]) h)
else
(withI (IntKind.wrap .i64 ((IntKind.wrap .i64 n4) - 128)) fun n10=>
(bif (decide ((n10:Int)<1)) then
(J 1 [(0,(AV.s l5)),(6,(AV.i .i64 n10)),(21,(AV.b true))] h)
else
(J 1 [(0,(AV.s l5)),(6,(AV.i .i64 n10)),(21,(AV.b (decide ((3:Int)<n10))))] h))))))
theorem Y20.t_eq (J:JT) (Q:AV→AHeap→Prop) (x0:List UInt8) (h:AHeap):Y20.t J Q x0 h=exJ prog C 59 J Y20.ann Y20.body (initEnv 0 [(AV.s x0)]) h (kFun prog Tryz.f92 Q):=by kernel_rfl
theorem Y20.call {K:AV→AHeap→Prop} {x0:List UInt8} {h:AHeap} (H:Y20.t (Y20.J (kRet h K)) (kRet h K) x0 h):C Y20.id [(AV.s x0)] h K:=
  callJ (P:=prog) (fn:=Tryz.f92) (ann:=Y20.ann) (body:=Y20.body) Tryz.func92 Y20.body_eq (by kernel_rfl) Y20.dist (by kernel_rfl) ((Y20.t_eq (Y20.J (kRet h K)) (kRet h K) x0 h).mp H)
noncomputable def Y29.body:Code:=(Tryz.f93.body).getD .skip
def Y29.ann:Ann:=(.seq 0 [1,2] .leaf (.seq 1 [4] .leaf .leaf))
theorem Y29.body_eq:Tryz.f93.body=some Y29.body:=by kernel_rfl
theorem Y29.dist:noTwice (places Y29.ann Y29.body)=true:=by kernel_rfl
noncomputable def Y29.J (Q:AV→AHeap→Prop):JT:=funJ prog C Tryz.f93 Y29.ann Y29.body Q
theorem Y29.goR {Q:AV→AHeap→Prop} {k:Nat} {p:List Nat} (hl:lookJ (places Y29.ann Y29.body) k=some (p,false)) {e:Env} {h:AHeap} (hk:atJ prog C 25 (Y29.J Q) false p Y29.ann Y29.body e h (kFun prog Tryz.f93 Q)):Y29.J Q k e h:=goJ_run (P:=prog) (fn:=Tryz.f93) (ann:=Y29.ann) (body:=Y29.body) (Q:=Q) (k:=k) (p:=p) (e:=e) (h:=h) (acall_le X) Y29.dist hl hk
def Y29.p0 (Q:AV→AHeap→Prop) (x4:Bool) (h:AHeap):Prop:=Y29.J Q 1 [(4,(AV.b x4))] h
theorem Y29.j0 (Q:AV→AHeap→Prop) (x4:Bool) (h:AHeap):Y29.J Q 1 [(4,(AV.b x4))] h=Y29.p0 Q x4 h:=rfl
def Y29.t0 (J:JT) (Q:AV→AHeap→Prop) (x4:Bool) (h:AHeap):Prop:=
Q (AV.b x4) h
theorem Y29.t0_eq (J:JT) (Q:AV→AHeap→Prop) (x4:Bool) (h:AHeap):Y29.t0 J Q x4 h=atJ prog C 25 J false [1,1] Y29.ann Y29.body [(4,(AV.b x4))] h (kFun prog Tryz.f93 Q):=by kernel_rfl
theorem Y29.i0 {Q:AV→AHeap→Prop} {x4:Bool} {h:AHeap} (H:Y29.t0 (Y29.J Q) Q x4 h):Y29.p0 Q x4 h:=Y29.goR (k:=1) (p:=[1,1]) (by kernel_rfl) ((Y29.t0_eq (Y29.J Q) Q x4 h).mp H)
def Y29.t (J:JT) (Q:AV→AHeap→Prop) (x0:AV) (x1:Int) (h:AHeap):Prop:=
pBox (some 33) x0 h fun v0 h1=>
pFieldAddr 0 v0 fun v3=>
pLoad1 v3 h1 fun v4=>
asI .i64 v4 fun n5=>
(bif (decide ((n5:Int)=0)) then
(pFieldAddr 1 v0 fun v6=>
pLoad1 v6 h1 fun v7=>
asI .i64 v7 fun n8=>
(bif (decide ((n8:Int)=x1)) then
(pFieldAddr 2 v0 fun v9=>
pLoad1 v9 h1 fun v10=>
asB v10 fun c11=>
(bif (!c11) then
(pFieldAddr 4 v0 fun v12=>
pLoad1 v12 h1 fun v13=>
pLenSl v13 fun n14=>
J 1 [(4,(AV.b (decide ((n14:Int)=0))))] h1)
else
(J 1 [(4,(AV.b false))] h1)))
else
(J 1 [(4,(AV.b false))] h1)))
else
(J 1 [(4,(AV.b false))] h1))
theorem Y29.t_eq (J:JT) (Q:AV→AHeap→Prop) (x0:AV) (x1:Int) (h:AHeap):Y29.t J Q x0 x1 h=exJ prog C 25 J Y29.ann Y29.body (initEnv 0 [x0,(AV.i .i64 x1)]) h (kFun prog Tryz.f93 Q):=by kernel_rfl
theorem Y29.call {K:AV→AHeap→Prop} {x0:AV} {x1:Int} {h:AHeap} (H:Y29.t (Y29.J (kRet h K)) (kRet h K) x0 x1 h):C Y29.id [x0,(AV.i .i64 x1)] h K:=
  callJ (P:=prog) (fn:=Tryz.f93) (ann:=Y29.ann) (body:=Y29.body) Tryz.func93 Y29.body_eq (by kernel_rfl) Y29.dist (by kernel_rfl) ((Y29.t_eq (Y29.J (kRet h K)) (kRet h K) x0 x1 h).mp H)
noncomputable def Y31.body:Code:=(Tryz.f94.body).getD .skip
def Y31.ann:Ann:=(.seq 0 [0,1] .leaf (.seq 0 [] (.seq 0 [1,7,8,9] .leaf (.one (.loop 1 [1,7,8,9] (.seq 0 [1,7,8,9,10] .leaf (.seq 0 [1,7,8,9] (.br .leaf .leaf) (.seq 0 [1,7,8,9] (.one (.seq 0 [1,6,7,8,9] .leaf (.seq 0 [1,7,8,9,16] .leaf (.br (.seq 0 [4] .leaf .leaf) .leaf)))) .leaf)))))) (.seq 0 [4] .leaf .leaf)))
theorem Y31.body_eq:Tryz.f94.body=some Y31.body:=by kernel_rfl
theorem Y31.dist:noTwice (places Y31.ann Y31.body)=true:=by kernel_rfl
noncomputable def Y31.J (Q:AV→AHeap→Prop):JT:=funJ prog C Tryz.f94 Y31.ann Y31.body Q
theorem Y31.goH {Q:AV→AHeap→Prop} {k:Nat} {p:List Nat} (hl:lookJ (places Y31.ann Y31.body) k=some (p,true)) {e:Env} {h:AHeap} (hk:atJ prog C 18 (Y31.J Q) true p Y31.ann Y31.body e h (kFun prog Tryz.f94 Q)):Y31.J Q k e h:=goJ_head (P:=prog) (fn:=Tryz.f94) (ann:=Y31.ann) (body:=Y31.body) (Q:=Q) (k:=k) (p:=p) (e:=e) (h:=h) (acall_le X) Y31.dist hl hk
def Y31.p0 (Q:AV→AHeap→Prop) (x1:AV) (x7:AV) (x8:Int) (x9:Int) (h:AHeap):Prop:=Y31.J Q 1 [(1,x1),(7,x7),(8,(AV.i .i64 x8)),(9,(AV.i .i64 x9))] h
theorem Y31.j0 (Q:AV→AHeap→Prop) (x1:AV) (x7:AV) (x8:Int) (x9:Int) (h:AHeap):Y31.J Q 1 [(1,x1),(7,x7),(8,(AV.i .i64 x8)),(9,(AV.i .i64 x9))] h=Y31.p0 Q x1 x7 x8 x9 h:=rfl
def Y31.t0 (J:JT) (Q:AV→AHeap→Prop) (x1:AV) (x7:AV) (x8:Int) (x9:Int) (h:AHeap):Prop:=
(bif (decide ((x9:Int)<x8)) then
(pIdxAddrSl 1 x7 (AV.i .i64 x9) h fun v6=>
pLoad1 v6 h fun v7=>
asI .u8 v7 fun n8=>
pCallV C x1 [(AV.i .u8 n8)] h fun v10 h11=>
asB v10 fun c12=>
(bif (!c12) then
(Q (AV.b false) h11)
else
(withI (IntKind.wrap .i64 (x9+1)) fun n16=>
J 1 [(1,x1),(7,x7),(8,(AV.i .i64 x8)),(9,(AV.i .i64 n16))] h11)))
else
(Q (AV.b true) h))
theorem Y31.t0_eq (J:JT) (Q:AV→AHeap→Prop) (x1:AV) (x7:AV) (x8:Int) (x9:Int) (h:AHeap):Y31.t0 J Q x1 x7 x8 x9 h=atJ prog C 18 J true [1,0,1,0] Y31.ann Y31.body [(1,x1),(7,x7),(8,(AV.i .i64 x8)),(9,(AV.i .i64 x9))] h (kFun prog Tryz.f94 Q):=by kernel_rfl
theorem Y31.i0 {Q:AV→AHeap→Prop} {x1:AV} {x7:AV} {x8:Int} {x9:Int} {h:AHeap} (H:Y31.t0 (Y31.J Q) Q x1 x7 x8 x9 h):Y31.p0 Q x1 x7 x8 x9 h:=Y31.goH (k:=1) (p:=[1,0,1,0]) (by kernel_rfl) ((Y31.t0_eq (Y31.J Q) Q x1 x7 x8 x9 h).mp H)
def Y31.t (J:JT) (Q:AV→AHeap→Prop) (x0:AV) (x1:AV) (h:AHeap):Prop:=
pLenSl x0 fun n1=>
J 1 [(1,x1),(7,x0),(8,(AV.i .i64 n1)),(9,(AV.i .i64 0))] h
theorem Y31.t_eq (J:JT) (Q:AV→AHeap→Prop) (x0:AV) (x1:AV) (h:AHeap):Y31.t J Q x0 x1 h=exJ prog C 18 J Y31.ann Y31.body (initEnv 0 [x0,x1]) h (kFun prog Tryz.f94 Q):=by kernel_rfl
theorem Y31.call {K:AV→AHeap→Prop} {x0:AV} {x1:AV} {h:AHeap} (H:Y31.t (Y31.J (kRet h K)) (kRet h K) x0 x1 h):C Y31.id [x0,x1] h K:=
  callJ (P:=prog) (fn:=Tryz.f94) (ann:=Y31.ann) (body:=Y31.body) Tryz.func94 Y31.body_eq (by kernel_rfl) Y31.dist (by kernel_rfl) ((Y31.t_eq (Y31.J (kRet h K)) (kRet h K) x0 x1 h).mp H)
noncomputable def Y42.body:Code:=(Tryz.f95.body).getD .skip
def Y42.ann:Ann:=(.seq 0 [0] .leaf (.seq 1 [2] .leaf .leaf))
theorem Y42.body_eq:Tryz.f95.body=some Y42.body:=by kernel_rfl
theorem Y42.dist:noTwice (places Y42.ann Y42.body)=true:=by kernel_rfl
noncomputable def Y42.J (Q:AV→AHeap→Prop):JT:=funJ prog C Tryz.f95 Y42.ann Y42.body Q
theorem Y42.goR {Q:AV→AHeap→Prop} {k:Nat} {p:List Nat} (hl:lookJ (places Y42.ann Y42.body) k=some (p,false)) {e:Env} {h:AHeap} (hk:atJ prog C 9 (Y42.J Q) false p Y42.ann Y42.body e h (kFun prog Tryz.f95 Q)):Y42.J Q k e h:=goJ_run (P:=prog) (fn:=Tryz.f95) (ann:=Y42.ann) (body:=Y42.body) (Q:=Q) (k:=k) (p:=p) (e:=e) (h:=h) (acall_le X) Y42.dist hl hk
def Y42.p0 (Q:AV→AHeap→Prop) (x2:Bool) (h:AHeap):Prop:=Y42.J Q 1 [(2,(AV.b x2))] h
theorem Y42.j0 (Q:AV→AHeap→Prop) (x2:Bool) (h:AHeap):Y42.J Q 1 [(2,(AV.b x2))] h=Y42.p0 Q x2 h:=rfl
def Y42.t0 (J:JT) (Q:AV→AHeap→Prop) (x2:Bool) (h:AHeap):Prop:=
Q (AV.b x2) h
theorem Y42.t0_eq (J:JT) (Q:AV→AHeap→Prop) (x2:Bool) (h:AHeap):Y42.t0 J Q x2 h=atJ prog C 9 J false [1,1] Y42.ann Y42.body [(2,(AV.b x2))] h (kFun prog Tryz.f95 Q):=by kernel_rfl
theorem Y42.i0 {Q:AV→AHeap→Prop} {x2:Bool} {h:AHeap} (H:Y42.t0 (Y42.J Q) Q x2 h):Y42.p0 Q x2 h:=Y42.goR (k:=1) (p:=[1,1]) (by kernel_rfl) ((Y42.t0_eq (Y42.J Q) Q x2 h).mp H)
def Y42.t (J:JT) (Q:AV→AHeap→Prop) (x0:Int) (h:AHeap):Prop:=
(bif (decide ((48:Int)≤x0)) then
(J 1 [(2,(AV.b (decide ((x0:Int)≤57))))] h)
else
(J 1 [(2,(AV.b false))] h))
theorem Y42.t_eq (J:JT) (Q:AV→AHeap→Prop) (x0:Int) (h:AHeap):Y42.t J Q x0 h=exJ prog C 9 J Y42.ann Y42.body (initEnv 0 [(AV.i .u8 x0)]) h (kFun prog Tryz.f95 Q):=by kernel_rfl
theorem Y42.call {K:AV→AHeap→Prop} {x0:Int} {h:AHeap} (H:Y42.t (Y42.J (kRet h K)) (kRet h K) x0 h):C Y42.id [(AV.i .u8 x0)] h K:=
  callJ (P:=prog) (fn:=Tryz.f95) (ann:=Y42.ann) (body:=Y42.body) Tryz.func95 Y42.body_eq (by kernel_rfl) Y42.dist (by kernel_rfl) ((Y42.t_eq (Y42.J (kRet h K)) (kRet h K) x0 h).mp H)
noncomputable def Y35.body:Code:=(Tryz.f96.body).getD .skip
def Y35.ann:Ann:=(.seq 0 [0,1] .leaf (.seq 1 [4] .leaf .leaf))
theorem Y35.body_eq:Tryz.f96.body=some Y35.body:=by kernel_rfl
theorem Y35.dist:noTwice (places Y35.ann Y35.body)=true:=by kernel_rfl
noncomputable def Y35.J (Q:AV→AHeap→Prop):JT:=funJ prog C Tryz.f96 Y35.ann Y35.body Q
theorem Y35.goR {Q:AV→AHeap→Prop} {k:Nat} {p:List Nat} (hl:lookJ (places Y35.ann Y35.body) k=some (p,false)) {e:Env} {h:AHeap} (hk:atJ prog C 18 (Y35.J Q) false p Y35.ann Y35.body e h (kFun prog Tryz.f96 Q)):Y35.J Q k e h:=goJ_run (P:=prog) (fn:=Tryz.f96) (ann:=Y35.ann) (body:=Y35.body) (Q:=Q) (k:=k) (p:=p) (e:=e) (h:=h) (acall_le X) Y35.dist hl hk
def Y35.p0 (Q:AV→AHeap→Prop) (x4:Bool) (h:AHeap):Prop:=Y35.J Q 1 [(4,(AV.b x4))] h
theorem Y35.j0 (Q:AV→AHeap→Prop) (x4:Bool) (h:AHeap):Y35.J Q 1 [(4,(AV.b x4))] h=Y35.p0 Q x4 h:=rfl
def Y35.t0 (J:JT) (Q:AV→AHeap→Prop) (x4:Bool) (h:AHeap):Prop:=
Q (AV.b x4) h
theorem Y35.t0_eq (J:JT) (Q:AV→AHeap→Prop) (x4:Bool) (h:AHeap):Y35.t0 J Q x4 h=atJ prog C 18 J false [1,1] Y35.ann Y35.body [(4,(AV.b x4))] h (kFun prog Tryz.f96 Q):=by kernel_rfl
theorem Y35.i0 {Q:AV→AHeap→Prop} {x4:Bool} {h:AHeap} (H:Y35.t0 (Y35.J Q) Q x4 h):Y35.p0 Q x4 h:=Y35.goR (k:=1) (p:=[1,1]) (by kernel_rfl) ((Y35.t0_eq (Y35.J Q) Q x4 h).mp H)
def Y35.t (J:JT) (Q:AV→AHeap→Prop) (x0:List UInt8) (x1:List UInt8) (h:AHeap):Prop:=
(bif (decide (((x1.length:Int):Int)≤(x0.length:Int))) then
(pSliceStr (AV.s x0) none (some (AV.i .i64 (x1.length:Int))) fun l1=>
J 1 [(4,(AV.b (decide ((l1:List UInt8)=x1))))] h)
else
(J 1 [(4,(AV.b false))] h))
theorem Y35.t_eq (J:JT) (Q:AV→AHeap→Prop) (x0:List UInt8) (x1:List UInt8) (h:AHeap):Y35.t J Q x0 x1 h=exJ prog C 18 J Y35.ann Y35.body (initEnv 0 [(AV.s x0),(AV.s x1)]) h (kFun prog Tryz.f96 Q):=by kernel_rfl
theorem Y35.call {K:AV→AHeap→Prop} {x0:List UInt8} {x1:List UInt8} {h:AHeap} (H:Y35.t (Y35.J (kRet h K)) (kRet h K) x0 x1 h):C Y35.id [(AV.s x0),(AV.s x1)] h K:=
  callJ (P:=prog) (fn:=Tryz.f96) (ann:=Y35.ann) (body:=Y35.body) Tryz.func96 Y35.body_eq (by kernel_rfl) Y35.dist (by kernel_rfl) ((Y35.t_eq (Y35.J (kRet h K)) (kRet h K) x0 x1 h).mp H)
noncomputable def Y19.body:Code:=(Tryz.f104.body).getD .skip
def Y19.ann:Ann:=(.seq 0 [0,1,2,3] .leaf (.seq 0 [0,1,2,3] (.seq 0 [0,1,2,3,13] .leaf (.br (.seq 0 [8] .leaf .leaf) .leaf)) (.seq 0 [0,1,2,3] (.seq 0 [0,1,2,3,15] .leaf (.br (.seq 0 [8] .leaf .leaf) .leaf)) (.seq 1 [0,1,2,3] (.seq 0 [0,1,2,3,20] .leaf (.br .leaf .leaf)) (.seq 0 [0,1,2,3] .leaf (.seq 0 [0,1,2,3,9] .leaf (.seq 0 [0,1,2,3,9] .leaf (.seq 0 [0,1,2,3,9,10] .leaf (.seq 3 [0,9,10] (.one (.loop 2 [0,1,2,3,9,10] (.seq 0 [0,1,2,3,9,10] (.seq 0 [0,1,2,3,9,10,36] .leaf (.br .leaf .leaf)) (.one (.seq 0 [0,1,2,3,9,10,11] .leaf (.seq 0 [0,1,2,3,9,10,11] (.seq 0 [0,1,2,3,9,10,11,41] .leaf (.br .leaf .leaf)) (.seq 0 [0,1,2,3,9,10,11] .leaf (.seq 0 [0,1,2,3,9,10] .leaf .leaf)))))))) (.seq 0 [9,10] .leaf (.seq 0 [8] .leaf .leaf)))))))))))
theorem Y19.body_eq:Tryz.f104.body=some Y19.body:=by kernel_rfl
theorem Y19.dist:noTwice (places Y19.ann Y19.body)=true:=by kernel_rfl
noncomputable def Y19.J (Q:AV→AHeap→Prop):JT:=funJ prog C Tryz.f104 Y19.ann Y19.body Q
theorem Y19.goR {Q:AV→AHeap→Prop} {k:Nat} {p:List Nat} (hl:lookJ (places Y19.ann Y19.body) k=some (p,false)) {e:Env} {h:AHeap} (hk:atJ prog C 66 (Y19.J Q) false p Y19.ann Y19.body e h (kFun prog Tryz.f104 Q)):Y19.J Q k e h:=goJ_run (P:=prog) (fn:=Tryz.f104) (ann:=Y19.ann) (body:=Y19.body) (Q:=Q) (k:=k) (p:=p) (e:=e) (h:=h) (acall_le X) Y19.dist hl hk
theorem Y19.goH {Q:AV→AHeap→Prop} {k:Nat} {p:List Nat} (hl:lookJ (places Y19.ann Y19.body) k=some (p,true)) {e:Env} {h:AHeap} (hk:atJ prog C 66 (Y19.J Q) true p Y19.ann Y19.body e h (kFun prog Tryz.f104 Q)):Y19.J Q k e h:=goJ_head (P:=prog) (fn:=Tryz.f104) (ann:=Y19.ann) (body:=Y19.body) (Q:=Q) (k:=k) (p:=p) (e:=e) (h:=h) (acall_le X) Y19.dist hl hk
def Y19.p1 (Q:AV→AHeap→Prop) (x0:List UInt8) (x1:List UInt8) (x2:Int) (x3:Int) (x9:AV) (x10:Int) (h:AHeap):Prop:=Y19.J Q 2 [(0,(AV.s x0)),(1,(AV.s x1)),(2,(AV.i .i64 x2)),(3,(AV.i .i64 x3)),(9,x9),(10,(AV.i .i64 x10))] h
theorem Y19.j1 (Q:AV→AHeap→Prop) (x0:List UInt8) (x1:List UInt8) (x2:Int) (x3:Int) (x9:AV) (x10:Int) (h:AHeap):Y19.J Q 2 [(0,(AV.s x0)),(1,(AV.s x1)),(2,(AV.i .i64 x2)),(3,(AV.i .i64 x3)),(9,x9),(10,(AV.i .i64 x10))] h=Y19.p1 Q x0 x1 x2 x3 x9 x10 h:=rfl
def Y19.p2 (Q:AV→AHeap→Prop) (x0:List UInt8) (x9:AV) (x10:Int) (h:AHeap):Prop:=Y19.J Q 3 [(0,(AV.s x0)),(9,x9),(10,(AV.i .i64 x10))] h
theorem Y19.j2 (Q:AV→AHeap→Prop) (x0:List UInt8) (x9:AV) (x10:Int) (h:AHeap):Y19.J Q 3 [(0,(AV.s x0)),(9,x9),(10,(AV.i .i64 x10))] h=Y19.p2 Q x0 x9 x10 h:=rfl
def Y19.p0 (Q:AV→AHeap→Prop) (x0:List UInt8) (x1:List UInt8) (x2:Int) (x3:Int) (h:AHeap):Prop:=Y19.J Q 1 [(0,(AV.s x0)),(1,(AV.s x1)),(2,(AV.i .i64 x2)),(3,(AV.i .i64 x3))] h
theorem Y19.j0 (Q:AV→AHeap→Prop) (x0:List UInt8) (x1:List UInt8) (x2:Int) (x3:Int) (h:AHeap):Y19.J Q 1 [(0,(AV.s x0)),(1,(AV.s x1)),(2,(AV.i .i64 x2)),(3,(AV.i .i64 x3))] h=Y19.p0 Q x0 x1 x2 x3 h:=rfl
def Y19.t1 (J:JT) (Q:AV→AHeap→Prop) (x0:List UInt8) (x1:List UInt8) (x2:Int) (x3:Int) (x9:AV) (x10:Int) (h:AHeap):Prop:=
(bif (decide ((x10:Int)<x3)) then
(C Y62.id [(AV.s x0),(AV.s x1)] h fun v27 h28=>
asI .i64 v27 fun n29=>
(bif (decide ((n29:Int)<0)) then
(J 3 [(0,(AV.s x0)),(9,x9),(10,(AV.i .i64 x10))] h28)
else
(withI (IntKind.wrap .i64 (n29+x2)) fun n34=>
pSliceStr (AV.s x0) none (some (AV.i .i64 n34)) fun l35=>
pIdxAddrSl 1 x9 (AV.i .i64 x10) h28 fun v36=>
pStore 1 v36 (AV.s l35) h28 fun h37=>
withI (IntKind.wrap .i64 (n29+(x1.length:Int))) fun n39=>
pSliceStr (AV.s x0) (some (AV.i .i64 n39)) none fun l40=>
withI (IntKind.wrap .i64 (x10+1)) fun n42=>
J 2 [(0,(AV.s l40)),(1,(AV.s x1)),(2,(AV.i .i64 x2)),(3,(AV.i .i64 x3)),(9,x9),(10,(AV.i .i64 n42))] h37)))
else
(J 3 [(0,(AV.s x0)),(9,x9),(10,(AV.i .i64 x10))] h))
theorem Y19.t1_eq (J:JT) (Q:AV→AHeap→Prop) (x0:List UInt8) (x1:List UInt8) (x2:Int) (x3:Int) (x9:AV) (x10:Int) (h:AHeap):Y19.t1 J Q x0 x1 x2 x3 x9 x10 h=atJ prog C 66 J true [1,1,1,1,1,1,1,1,0,0] Y19.ann Y19.body [(0,(AV.s x0)),(1,(AV.s x1)),(2,(AV.i .i64 x2)),(3,(AV.i .i64 x3)),(9,x9),(10,(AV.i .i64 x10))] h (kFun prog Tryz.f104 Q):=by kernel_rfl
theorem Y19.i1 {Q:AV→AHeap→Prop} {x0:List UInt8} {x1:List UInt8} {x2:Int} {x3:Int} {x9:AV} {x10:Int} {h:AHeap} (H:Y19.t1 (Y19.J Q) Q x0 x1 x2 x3 x9 x10 h):Y19.p1 Q x0 x1 x2 x3 x9 x10 h:=Y19.goH (k:=2) (p:=[1,1,1,1,1,1,1,1,0,0]) (by kernel_rfl) ((Y19.t1_eq (Y19.J Q) Q x0 x1 x2 x3 x9 x10 h).mp H)
def Y19.t2 (J:JT) (Q:AV→AHeap→Prop) (x0:List UInt8) (x9:AV) (x10:Int) (h:AHeap):Prop:=
pIdxAddrSl 1 x9 (AV.i .i64 x10) h fun v44=>
pStore 1 v44 (AV.s x0) h fun h45=>
withI (IntKind.wrap .i64 (x10+1)) fun n47=>
pSliceSl 1 x9 none (some (AV.i .i64 n47)) none h45 fun v48=>
Q v48 h45
theorem Y19.t2_eq (J:JT) (Q:AV→AHeap→Prop) (x0:List UInt8) (x9:AV) (x10:Int) (h:AHeap):Y19.t2 J Q x0 x9 x10 h=atJ prog C 66 J false [1,1,1,1,1,1,1,1,1] Y19.ann Y19.body [(0,(AV.s x0)),(9,x9),(10,(AV.i .i64 x10))] h (kFun prog Tryz.f104 Q):=by kernel_rfl
theorem Y19.i2 {Q:AV→AHeap→Prop} {x0:List UInt8} {x9:AV} {x10:Int} {h:AHeap} (H:Y19.t2 (Y19.J Q) Q x0 x9 x10 h):Y19.p2 Q x0 x9 x10 h:=Y19.goR (k:=3) (p:=[1,1,1,1,1,1,1,1,1]) (by kernel_rfl) ((Y19.t2_eq (Y19.J Q) Q x0 x9 x10 h).mp H)
def Y19.t0 (J:JT) (Q:AV→AHeap→Prop) (x0:List UInt8) (x1:List UInt8) (x2:Int) (x3:Int) (h:AHeap):Prop:=
withI (IntKind.wrap .i64 ((x0.length:Int)+1)) fun n16=>
pMake 1 16 [(AV.s [])] (AV.i .i64 (mmI false x3 n16)) (AV.i .i64 (mmI false x3 n16)) h fun v18 h19=>
withI (IntKind.wrap .i64 ((mmI false x3 n16) - 1)) fun n21=>
J 2 [(0,(AV.s x0)),(1,(AV.s x1)),(2,(AV.i .i64 x2)),(3,(AV.i .i64 n21)),(9,v18),(10,(AV.i .i64 0))] h19
theorem Y19.t0_eq (J:JT) (Q:AV→AHeap→Prop) (x0:List UInt8) (x1:List UInt8) (x2:Int) (x3:Int) (h:AHeap):Y19.t0 J Q x0 x1 x2 x3 h=atJ prog C 66 J false [1,1,1,1] Y19.ann Y19.body [(0,(AV.s x0)),(1,(AV.s x1)),(2,(AV.i .i64 x2)),(3,(AV.i .i64 x3))] h (kFun prog Tryz.f104 Q):=by kernel_rfl
theorem Y19.i0 {Q:AV→AHeap→Prop} {x0:List UInt8} {x1:List UInt8} {x2:Int} {x3:Int} {h:AHeap} (H:Y19.t0 (Y19.J Q) Q x0 x1 x2 x3 h):Y19.p0 Q x0 x1 x2 x3 h:=Y19.goR (k:=1) (p:=[1,1,1,1]) (by kernel_rfl) ((Y19.t0_eq (Y19.J Q) Q x0 x1 x2 x3 h).mp H)
def Y19.t (J:JT) (Q:AV→AHeap→Prop) (x0:List UInt8) (x1:List UInt8) (x2:Int) (x3:Int) (h:AHeap):Prop:=
(bif (decide ((x3:Int)=0)) then
(Q (AV.sl none 0 none) h)
else
((bif (decide ((x1:List UInt8)=[])) then
(C Y93.id [(AV.s x0),(AV.i .i64 x3)] h fun v5 h6=>
Q v5 h6)
else
((bif (decide ((x3:Int)<0)) then
(C Y47.id [(AV.s x0),(AV.s x1)] h fun v10 h11=>
asI .i64 v10 fun n12=>
withI (IntKind.wrap .i64 (n12+1)) fun n13=>
J 1 [(0,(AV.s x0)),(1,(AV.s x1)),(2,(AV.i .i64 x2)),(3,(AV.i .i64 n13))] h11)
else
(J 1 [(0,(AV.s x0)),(1,(AV.s x1)),(2,(AV.i .i64 x2)),(3,(AV.i .i64 x3))] h))))))
theorem Y19.t_eq (J:JT) (Q:AV→AHeap→Prop) (x0:List UInt8) (x1:List UInt8) (x2:Int) (x3:Int) (h:AHeap):Y19.t J Q x0 x1 x2 x3 h=exJ prog C 66 J Y19.ann Y19.body (initEnv 0 [(AV.s x0),(AV.s x1),(AV.i .i64 x2),(AV.i .i64 x3)]) h (kFun prog Tryz.f104 Q):=by kernel_rfl
theorem Y19.call {K:AV→AHeap→Prop} {x0:List UInt8} {x1:List UInt8} {x2:Int} {x3:Int} {h:AHeap} (H:Y19.t (Y19.J (kRet h K)) (kRet h K) x0 x1 x2 x3 h):C Y19.id [(AV.s x0),(AV.s x1),(AV.i .i64 x2),(AV.i .i64 x3)] h K:=
  callJ (P:=prog) (fn:=Tryz.f104) (ann:=Y19.ann) (body:=Y19.body) Tryz.func104 Y19.body_eq (by kernel_rfl) Y19.dist (by kernel_rfl) ((Y19.t_eq (Y19.J (kRet h K)) (kRet h K) x0 x1 x2 x3 h).mp H)
noncomputable def Y57.body:Code:=(Tryz.f105.body).getD .skip
def Y57.ann:Ann:=(.seq 0 [0,1] .leaf (.seq 0 [4] .leaf .leaf))
theorem Y57.body_eq:Tryz.f105.body=some Y57.body:=by kernel_rfl
theorem Y57.dist:noTwice (places Y57.ann Y57.body)=true:=by kernel_rfl
noncomputable def Y57.J (Q:AV→AHeap→Prop):JT:=funJ prog C Tryz.f105 Y57.ann Y57.body Q
def Y57.t (J:JT) (Q:AV→AHeap→Prop) (x0:List UInt8) (x1:Int) (h:AHeap):Prop:=
C Y83.id [(AV.s x0),(AV.i .u8 x1)] h fun v1 h2=>
asI .i64 v1 fun n3=>
Q (AV.i .i64 n3) h2
theorem Y57.t_eq (J:JT) (Q:AV→AHeap→Prop) (x0:List UInt8) (x1:Int) (h:AHeap):Y57.t J Q x0 x1 h=exJ prog C 8 J Y57.ann Y57.body (initEnv 0 [(AV.s x0),(AV.i .u8 x1)]) h (kFun prog Tryz.f105 Q):=by kernel_rfl
theorem Y57.call {K:AV→AHeap→Prop} {x0:List UInt8} {x1:Int} {h:AHeap} (H:Y57.t (Y57.J (kRet h K)) (kRet h K) x0 x1 h):C Y57.id [(AV.s x0),(AV.i .u8 x1)] h K:=
  callJ (P:=prog) (fn:=Tryz.f105) (ann:=Y57.ann) (body:=Y57.body) Tryz.func105 Y57.body_eq (by kernel_rfl) Y57.dist (by kernel_rfl) ((Y57.t_eq (Y57.J (kRet h K)) (kRet h K) x0 x1 h).mp H)
noncomputable def Y51.body:Code:=(Tryz.f106.body).getD .skip
def Y51.ann:Ann:=(.seq 0 [0] .leaf (.seq 0 [2] .leaf .leaf))
theorem Y51.body_eq:Tryz.f106.body=some Y51.body:=by kernel_rfl
theorem Y51.dist:noTwice (places Y51.ann Y51.body)=true:=by kernel_rfl
noncomputable def Y51.J (Q:AV→AHeap→Prop):JT:=funJ prog C Tryz.f106 Y51.ann Y51.body Q
def Y51.t (J:JT) (Q:AV→AHeap→Prop) (x0:Int) (h:AHeap):Prop:=
pQuo .i64 x0 4 fun n1=>
pQuo .i64 x0 100 fun n2=>
withI (IntKind.wrap .i64 (n1 - n2)) fun n3=>
pQuo .i64 x0 400 fun n4=>
withI (IntKind.wrap .i64 (n3+n4)) fun n5=>
Q (AV.i .i64 n5) h
theorem Y51.t_eq (J:JT) (Q:AV→AHeap→Prop) (x0:Int) (h:AHeap):Y51.t J Q x0 h=exJ prog C 11 J Y51.ann Y51.body (initEnv 0 [(AV.i .i64 x0)]) h (kFun prog Tryz.f106 Q):=by kernel_rfl
theorem Y51.call {K:AV→AHeap→Prop} {x0:Int} {h:AHeap} (H:Y51.t (Y51.J (kRet h K)) (kRet h K) x0 h):C Y51.id [(AV.i .i64 x0)] h K:=
  callJ (P:=prog) (fn:=Tryz.f106) (ann:=Y51.ann) (body:=Y51.body) Tryz.func106 Y51.body_eq (by kernel_rfl) Y51.dist (by kernel_rfl) ((Y51.t_eq (Y51.J (kRet h K)) (kRet h K) x0 h).mp H)
noncomputable def Y41.body:Code:=(Tryz.f107.body).getD .skip
def Y41.ann:Ann:=(.seq 0 [0] .leaf (.seq 1 [2] .leaf .leaf))
theorem Y41.body_eq:Tryz.f107.body=some Y41.body:=by kernel_rfl
theorem Y41.dist:noTwice (places Y41.ann Y41.body)=true:=by kernel_rfl
noncomputable def Y41.J (Q:AV→AHeap→Prop):JT:=funJ prog C Tryz.f107 Y41.ann Y41.body Q
theorem Y41.goR {Q:AV→AHeap→Prop} {k:Nat} {p:List Nat} (hl:lookJ (places Y41.ann Y41.body) k=some (p,false)) {e:Env} {h:AHeap} (hk:atJ prog C 16 (Y41.J Q) false p Y41.ann Y41.body e h (kFun prog Tryz.f107 Q)):Y41.J Q k e h:=goJ_run (P:=prog) (fn:=Tryz.f107) (ann:=Y41.ann) (body:=Y41.body) (Q:=Q) (k:=k) (p:=p) (e:=e) (h:=h) (acall_le X) Y41.dist hl hk
def Y41.p0 (Q:AV→AHeap→Prop) (x2:Bool) (h:AHeap):Prop:=Y41.J Q 1 [(2,(AV.b x2))] h
theorem Y41.j0 (Q:AV→AHeap→Prop) (x2:Bool) (h:AHeap):Y41.J Q 1 [(2,(AV.b x2))] h=Y41.p0 Q x2 h:=rfl
def Y41.t0 (J:JT) (Q:AV→AHeap→Prop) (x2:Bool) (h:AHeap):Prop:=
Q (AV.b x2) h
theorem Y41.t0_eq (J:JT) (Q:AV→AHeap→Prop) (x2:Bool) (h:AHeap):Y41.t0 J Q x2 h=atJ prog C 16 J false [1,1] Y41.ann Y41.body [(2,(AV.b x2))] h (kFun prog Tryz.f107 Q):=by kernel_rfl
theorem Y41.i0 {Q:AV→AHeap→Prop} {x2:Bool} {h:AHeap} (H:Y41.t0 (Y41.J Q) Q x2 h):Y41.p0 Q x2 h:=Y41.goR (k:=1) (p:=[1,1]) (by kernel_rfl) ((Y41.t0_eq (Y41.J Q) Q x2 h).mp H)
def Y41.t (J:JT) (Q:AV→AHeap→Prop) (x0:Int) (h:AHeap):Prop:=
pRem x0 4 fun n1=>
(bif (decide ((n1:Int)=0)) then
(pRem x0 100 fun n2=>
(bif (!decide ((n2:Int)=0)) then
(J 1 [(2,(AV.b true))] h)
else
(pRem x0 400 fun n4=>
J 1 [(2,(AV.b (decide ((n4:Int)=0))))] h)))
else
(J 1 [(2,(AV.b false))] h))
theorem Y41.t_eq (J:JT) (Q:AV→AHeap→Prop) (x0:Int) (h:AHeap):Y41.t J Q x0 h=exJ prog C 16 J Y41.ann Y41.body (initEnv 0 [(AV.i .i64 x0)]) h (kFun prog Tryz.f107 Q):=by kernel_rfl
theorem Y41.call {K:AV→AHeap→Prop} {x0:Int} {h:AHeap} (H:Y41.t (Y41.J (kRet h K)) (kRet h K) x0 h):C Y41.id [(AV.i .i64 x0)] h K:=
  callJ (P:=prog) (fn:=Tryz.f107) (ann:=Y41.ann) (body:=Y41.body) Tryz.func107 Y41.body_eq (by kernel_rfl) Y41.dist (by kernel_rfl) ((Y41.t_eq (Y41.J (kRet h K)) (kRet h K) x0 h).mp H)
noncomputable def Y36.body:Code:=(Tryz.f108.body).getD .skip
def Y36.ann:Ann:=(.seq 0 [0,1] .leaf (.seq 0 [] (.seq 0 [1,7,8,9] .leaf (.one (.loop 1 [1,7,8,9] (.seq 0 [1,7,8,9,10] .leaf (.seq 0 [1,7,8,9] (.br .leaf .leaf) (.seq 0 [1,7,8,9] (.one (.seq 0 [1,6,7,8,9] .leaf (.seq 0 [1,7,8,9,16] .leaf (.br (.seq 0 [4] .leaf .leaf) .leaf)))) .leaf)))))) (.seq 0 [4] .leaf .leaf)))
theorem Y36.body_eq:Tryz.f108.body=some Y36.body:=by kernel_rfl
theorem Y36.dist:noTwice (places Y36.ann Y36.body)=true:=by kernel_rfl
noncomputable def Y36.J (Q:AV→AHeap→Prop):JT:=funJ prog C Tryz.f108 Y36.ann Y36.body Q
theorem Y36.goH {Q:AV→AHeap→Prop} {k:Nat} {p:List Nat} (hl:lookJ (places Y36.ann Y36.body) k=some (p,true)) {e:Env} {h:AHeap} (hk:atJ prog C 18 (Y36.J Q) true p Y36.ann Y36.body e h (kFun prog Tryz.f108 Q)):Y36.J Q k e h:=goJ_head (P:=prog) (fn:=Tryz.f108) (ann:=Y36.ann) (body:=Y36.body) (Q:=Q) (k:=k) (p:=p) (e:=e) (h:=h) (acall_le X) Y36.dist hl hk
def Y36.p0 (Q:AV→AHeap→Prop) (x1:AV) (x7:AV) (x8:Int) (x9:Int) (h:AHeap):Prop:=Y36.J Q 1 [(1,x1),(7,x7),(8,(AV.i .i64 x8)),(9,(AV.i .i64 x9))] h
theorem Y36.j0 (Q:AV→AHeap→Prop) (x1:AV) (x7:AV) (x8:Int) (x9:Int) (h:AHeap):Y36.J Q 1 [(1,x1),(7,x7),(8,(AV.i .i64 x8)),(9,(AV.i .i64 x9))] h=Y36.p0 Q x1 x7 x8 x9 h:=rfl
def Y36.t0 (J:JT) (Q:AV→AHeap→Prop) (x1:AV) (x7:AV) (x8:Int) (x9:Int) (h:AHeap):Prop:=
(bif (decide ((x9:Int)<x8)) then
(pIdxAddrSl 5 x7 (AV.i .i64 x9) h fun v6=>
pLoadN 5 v6 h fun v7=>
pAlloc (some 33) [(AV.i .i64 0),(AV.i .i64 0),(AV.b false),(AV.s []),(AV.sl none 0 none)] h fun v8 h9=>
pStore 5 v8 v7 h9 fun h10=>
pLoadN 5 v8 h10 fun v12=>
pCallV C x1 [v12] h10 fun v13 h14=>
asB v13 fun c15=>
(bif (!c15) then
(Q (AV.b false) h14)
else
(withI (IntKind.wrap .i64 (x9+1)) fun n19=>
J 1 [(1,x1),(7,x7),(8,(AV.i .i64 x8)),(9,(AV.i .i64 n19))] h14)))
else
(Q (AV.b true) h))
theorem Y36.t0_eq (J:JT) (Q:AV→AHeap→Prop) (x1:AV) (x7:AV) (x8:Int) (x9:Int) (h:AHeap):Y36.t0 J Q x1 x7 x8 x9 h=atJ prog C 18 J true [1,0,1,0] Y36.ann Y36.body [(1,x1),(7,x7),(8,(AV.i .i64 x8)),(9,(AV.i .i64 x9))] h (kFun prog Tryz.f108 Q):=by kernel_rfl
theorem Y36.i0 {Q:AV→AHeap→Prop} {x1:AV} {x7:AV} {x8:Int} {x9:Int} {h:AHeap} (H:Y36.t0 (Y36.J Q) Q x1 x7 x8 x9 h):Y36.p0 Q x1 x7 x8 x9 h:=Y36.goH (k:=1) (p:=[1,0,1,0]) (by kernel_rfl) ((Y36.t0_eq (Y36.J Q) Q x1 x7 x8 x9 h).mp H)
def Y36.t (J:JT) (Q:AV→AHeap→Prop) (x0:AV) (x1:AV) (h:AHeap):Prop:=
pLenSl x0 fun n1=>
J 1 [(1,x1),(7,x0),(8,(AV.i .i64 n1)),(9,(AV.i .i64 0))] h
theorem Y36.t_eq (J:JT) (Q:AV→AHeap→Prop) (x0:AV) (x1:AV) (h:AHeap):Y36.t J Q x0 x1 h=exJ prog C 18 J Y36.ann Y36.body (initEnv 0 [x0,x1]) h (kFun prog Tryz.f108 Q):=by kernel_rfl
theorem Y36.call {K:AV→AHeap→Prop} {x0:AV} {x1:AV} {h:AHeap} (H:Y36.t (Y36.J (kRet h K)) (kRet h K) x0 x1 h):C Y36.id [x0,x1] h K:=
  callJ (P:=prog) (fn:=Tryz.f108) (ann:=Y36.ann) (body:=Y36.body) Tryz.func108 Y36.body_eq (by kernel_rfl) Y36.dist (by kernel_rfl) ((Y36.t_eq (Y36.J (kRet h K)) (kRet h K) x0 x1 h).mp H)
noncomputable def Y55.body:Code:=(Tryz.f109.body).getD .skip
def Y55.ann:Ann:=(.seq 0 [1,2,3,4] .leaf (.seq 0 [3] .leaf (.seq 0 [5] .leaf .leaf)))
theorem Y55.body_eq:Tryz.f109.body=some Y55.body:=by kernel_rfl
theorem Y55.dist:noTwice (places Y55.ann Y55.body)=true:=by kernel_rfl
noncomputable def Y55.J (Q:AV→AHeap→Prop):JT:=funJ prog C Tryz.f109 Y55.ann Y55.body Q
def Y55.t (J:JT) (Q:AV→AHeap→Prop) (x0:AV) (x1:AV) (x2:AV) (x3:AV) (h:AHeap):Prop:=
pBox (some 33) x0 h fun v0 h1=>
pLoad1 x1 h1 fun v3=>
pLoadN 5 v0 h1 fun v4=>
pLoad1 x2 h1 fun v5=>
asI .i64 v5 fun n6=>
withI (IntKind.wrap .i64 (n6+1)) fun n7=>
C Y26.id [v3,v4,(AV.i .i64 n7)] h1 fun v8 h9=>
asI .i64 v8 fun n10=>
pStore 1 x3 (AV.i .i64 n10) h9 fun h11=>
pLoad1 x3 h11 fun v13=>
asI .i64 v13 fun n14=>
Q (AV.b (decide ((n14:Int)=0))) h11
theorem Y55.t_eq (J:JT) (Q:AV→AHeap→Prop) (x0:AV) (x1:AV) (x2:AV) (x3:AV) (h:AHeap):Y55.t J Q x0 x1 x2 x3 h=exJ prog C 13 J Y55.ann Y55.body (initEnv 0 [x0,x1,x2,x3]) h (kFun prog Tryz.f109 Q):=by kernel_rfl
theorem Y55.call {K:AV→AHeap→Prop} {x0:AV} {x1:AV} {x2:AV} {x3:AV} {h:AHeap} (H:Y55.t (Y55.J (kRet h K)) (kRet h K) x0 x1 x2 x3 h):C Y55.id [x0,x1,x2,x3] h K:=
  callJ (P:=prog) (fn:=Tryz.f109) (ann:=Y55.ann) (body:=Y55.body) Tryz.func109 Y55.body_eq (by kernel_rfl) Y55.dist (by kernel_rfl) ((Y55.t_eq (Y55.J (kRet h K)) (kRet h K) x0 x1 x2 x3 h).mp H)
noncomputable def Y38.body:Code:=(Tryz.f111.body).getD .skip
def Y38.ann:Ann:=(.seq 0 [0,1] .leaf (.seq 0 [0,1,5] .leaf (.seq 0 [0,1,5] (.one (.seq 1 [0,1,5,16] .leaf (.br (.seq 0 [4] .leaf .leaf) (.seq 0 [0,1,5,24] .leaf (.br (.seq 0 [4] .leaf .leaf) (.seq 0 [0,1,5,31] .leaf (.br (.seq 0 [4] .leaf .leaf) (.seq 2 [0,1,5,36] .leaf (.br (.seq 0 [4] .leaf .leaf) .leaf))))))))) (.seq 0 [0,1,5,6] .leaf (.seq 0 [0,1,5,6,7] .leaf (.seq 0 [0,1,5,6,7,8] .leaf (.seq 0 [0,1,5,6,7,8,9] .leaf (.seq 0 [0,1,5,6,7,8,9,10] .leaf (.seq 0 [] (.one (.loop 3 [0,1,5,6,7,8,9,10] (.seq 0 [0,1,5,6,7,8,9,10] (.seq 0 [0,1,5,6,7,8,9,10,59] .leaf (.br .leaf .leaf)) (.one (.seq 4 [0,1,5,6,7,8,9,10] (.seq 0 [0,1,5,6,7,8,9,10,64] .leaf (.br (.seq 0 [0,1,5,6,7,8,9,10,11] .leaf (.seq 0 [0,1,5,6,7,8,9,10,11] (.seq 0 [0,1,5,6,7,8,9,10,11,73] .leaf (.br (.seq 0 [4] .leaf .leaf) .leaf)) .leaf)) .leaf)) (.seq 0 [0,1,5,6,7,8,9,10] (.seq 5 [0,1,5,6,7,8,9,10,93] .leaf (.br (.seq 0 [4] .leaf .leaf) .leaf)) (.seq 0 [0,1,5,6,7,8,9,10] .leaf (.seq 0 [0,1,5,6,7,8,9,10] .leaf (.seq 6 [0,1,5,6,7,8,9,10,107] .leaf (.br (.seq 0 [8,12] .leaf (.seq 0 [] (.seq 0 [8,12,114] .leaf (.br (.seq 0 [4] .leaf .leaf) .leaf)) (.seq 0 [4] .leaf .leaf))) (.seq 7 [0,1,5,6,7,8,9,10,132] .leaf (.br (.seq 0 [8,13] .leaf (.seq 0 [8,13] (.seq 0 [8,13,139] .leaf (.br (.seq 0 [4] .leaf .leaf) .leaf)) (.seq 0 [4] .leaf .leaf))) .leaf)))))))))))) (.seq 0 [4] .leaf .leaf))))))))))
theorem Y38.body_eq:Tryz.f111.body=some Y38.body:=by kernel_rfl
theorem Y38.dist:noTwice (places Y38.ann Y38.body)=true:=by kernel_rfl
noncomputable def Y38.J (Q:AV→AHeap→Prop):JT:=funJ prog C Tryz.f111 Y38.ann Y38.body Q
theorem Y38.goR {Q:AV→AHeap→Prop} {k:Nat} {p:List Nat} (hl:lookJ (places Y38.ann Y38.body) k=some (p,false)) {e:Env} {h:AHeap} (hk:atJ prog C 143 (Y38.J Q) false p Y38.ann Y38.body e h (kFun prog Tryz.f111 Q)):Y38.J Q k e h:=goJ_run (P:=prog) (fn:=Tryz.f111) (ann:=Y38.ann) (body:=Y38.body) (Q:=Q) (k:=k) (p:=p) (e:=e) (h:=h) (acall_le X) Y38.dist hl hk
def Y38.p0 (Q:AV→AHeap→Prop) (x0:List UInt8) (x1:List UInt8) (x5:Int) (x16:Bool) (h:AHeap):Prop:=Y38.J Q 1 [(0,(AV.s x0)),(1,(AV.s x1)),(5,(AV.i .i64 x5)),(16,(AV.b x16))] h
theorem Y38.j0 (Q:AV→AHeap→Prop) (x0:List UInt8) (x1:List UInt8) (x5:Int) (x16:Bool) (h:AHeap):Y38.J Q 1 [(0,(AV.s x0)),(1,(AV.s x1)),(5,(AV.i .i64 x5)),(16,(AV.b x16))] h=Y38.p0 Q x0 x1 x5 x16 h:=rfl
def Y38.t0 (J:JT) (Q:AV→AHeap→Prop) (x0:List UInt8) (x1:List UInt8) (x5:Int) (x16:Bool) (h:AHeap):Prop:=
(bif x16 then
(Q (AV.i .i64 0) h)
else
((bif (decide ((x5:Int)=1)) then
(pIdxStr (AV.s x1) (AV.i .i64 0) fun n6=>
C Y57.id [(AV.s x0),(AV.i .u8 n6)] h fun v7 h8=>
asI .i64 v7 fun n9=>
Q (AV.i .i64 n9) h8)
else
((bif (decide (((x0.length:Int):Int)≤x5)) then
(Q (AV.i .i64 (-1)) h)
else
(pLoad1 (gvar h 10) h fun v13=>
asI .i64 v13 fun n14=>
(bif (decide ((x5:Int)≤n14)) then
(J 2 [(0,(AV.s x0)),(1,(AV.s x1)),(5,(AV.i .i64 x5)),(36,(AV.b (decide (((x0.length:Int):Int)≤64))))] h)
else
(J 2 [(0,(AV.s x0)),(1,(AV.s x1)),(5,(AV.i .i64 x5)),(36,(AV.b false))] h))))))))
theorem Y38.t0_eq (J:JT) (Q:AV→AHeap→Prop) (x0:List UInt8) (x1:List UInt8) (x5:Int) (x16:Bool) (h:AHeap):Y38.t0 J Q x0 x1 x5 x16 h=atJ prog C 143 J false [1,1,0,0,1] Y38.ann Y38.body [(0,(AV.s x0)),(1,(AV.s x1)),(5,(AV.i .i64 x5)),(16,(AV.b x16))] h (kFun prog Tryz.f111 Q):=by kernel_rfl
theorem Y38.i0 {Q:AV→AHeap→Prop} {x0:List UInt8} {x1:List UInt8} {x5:Int} {x16:Bool} {h:AHeap} (H:Y38.t0 (Y38.J Q) Q x0 x1 x5 x16 h):Y38.p0 Q x0 x1 x5 x16 h:=Y38.goR (k:=1) (p:=[1,1,0,0,1]) (by kernel_rfl) ((Y38.t0_eq (Y38.J Q) Q x0 x1 x5 x16 h).mp H)
def Y38.t (J:JT) (Q:AV→AHeap→Prop) (x0:List UInt8) (x1:List UInt8) (h:AHeap):Prop:=
(bif (decide (((x1.length:Int):Int)=0)) then
(J 1 [(0,(AV.s x0)),(1,(AV.s x1)),(5,(AV.i .i64 (x1.length:Int))),(16,(AV.b true))] h)
else
(J 1 [(0,(AV.s x0)),(1,(AV.s x1)),(5,(AV.i .i64 (x1.length:Int))),(16,(AV.b (decide ((x1:List UInt8)=x0))))] h))
theorem Y38.t_eq (J:JT) (Q:AV→AHeap→Prop) (x0:List UInt8) (x1:List UInt8) (h:AHeap):Y38.t J Q x0 x1 h=exJ prog C 143 J Y38.ann Y38.body (initEnv 0 [(AV.s x0),(AV.s x1)]) h (kFun prog Tryz.f111 Q):=by kernel_rfl
theorem Y38.call {K:AV→AHeap→Prop} {x0:List UInt8} {x1:List UInt8} {h:AHeap} (H:Y38.t (Y38.J (kRet h K)) (kRet h K) x0 x1 h):C Y38.id [(AV.s x0),(AV.s x1)] h K:=
  callJ (P:=prog) (fn:=Tryz.f111) (ann:=Y38.ann) (body:=Y38.body) Tryz.func111 Y38.body_eq (by kernel_rfl) Y38.dist (by kernel_rfl) ((Y38.t_eq (Y38.J (kRet h K)) (kRet h K) x0 x1 h).mp H)
noncomputable def Y70.body:Code:=(Tryz.f112.body).getD .skip
def Y70.ann:Ann:=(.seq 0 [0,6] .leaf (.br .leaf (.seq 0 [19] .leaf (.br .leaf .leaf))))
theorem Y70.body_eq:Tryz.f112.body=some Y70.body:=by kernel_rfl
theorem Y70.dist:noTwice (places Y70.ann Y70.body)=true:=by kernel_rfl
noncomputable def Y70.J (Q:AV→AHeap→Prop):JT:=funJ prog C Tryz.f112 Y70.ann Y70.body Q
def Y70.t (J:JT) (Q:AV→AHeap→Prop) (x0:AV) (h:AHeap):Prop:=
pNil x0 fun v0=>
pFieldAddr 0 v0 fun v1=>
pLoad1 v1 h fun v2=>
pBin prog .eql 108 v2 (AV.p none) fun v3=>
asB v3 fun c4=>
(bif c4 then
(pUnsafe x0 h fun v6=>
C Y87.id [v6] h fun v7 h8=>
pFromUnsafe prog 110 v7 h8 fun v9=>
pNil x0 fun v10=>
pFieldAddr 0 v10 fun v11=>
pStore 1 v11 v9 h8 fun h12=>
Q (AV.tu []) h12)
else
(pNil x0 fun v13=>
pFieldAddr 0 v13 fun v14=>
pLoad1 v14 h fun v15=>
pBin prog .neq 108 v15 x0 fun v16=>
asB v16 fun c17=>
(bif c17 then
(False)
else
(Q (AV.tu []) h))))
theorem Y70.t_eq (J:JT) (Q:AV→AHeap→Prop) (x0:AV) (h:AHeap):Y70.t J Q x0 h=exJ prog C 20 J Y70.ann Y70.body (initEnv 0 [x0]) h (kFun prog Tryz.f112 Q):=by kernel_rfl
theorem Y70.call {K:AV→AHeap→Prop} {x0:AV} {h:AHeap} (H:Y70.t (Y70.J (kRet h K)) (kRet h K) x0 h):C Y70.id [x0] h K:=
  callJ (P:=prog) (fn:=Tryz.f112) (ann:=Y70.ann) (body:=Y70.body) Tryz.func112 Y70.body_eq (by kernel_rfl) Y70.dist (by kernel_rfl) ((Y70.t_eq (Y70.J (kRet h K)) (kRet h K) x0 h).mp H)
noncomputable def Y40.body:Code:=(Tryz.f114.body).getD .skip
def Y40.ann:Ann:=(.seq 0 [0] .leaf (.seq 1 [2] .leaf .leaf))
theorem Y40.body_eq:Tryz.f114.body=some Y40.body:=by kernel_rfl
theorem Y40.dist:noTwice (places Y40.ann Y40.body)=true:=by kernel_rfl
noncomputable def Y40.J (Q:AV→AHeap→Prop):JT:=funJ prog C Tryz.f114 Y40.ann Y40.body Q
theorem Y40.goR {Q:AV→AHeap→Prop} {k:Nat} {p:List Nat} (hl:lookJ (places Y40.ann Y40.body) k=some (p,false)) {e:Env} {h:AHeap} (hk:atJ prog C 9 (Y40.J Q) false p Y40.ann Y40.body e h (kFun prog Tryz.f114 Q)):Y40.J Q k e h:=goJ_run (P:=prog) (fn:=Tryz.f114) (ann:=Y40.ann) (body:=Y40.body) (Q:=Q) (k:=k) (p:=p) (e:=e) (h:=h) (acall_le X) Y40.dist hl hk
def Y40.p0 (Q:AV→AHeap→Prop) (x2:Bool) (h:AHeap):Prop:=Y40.J Q 1 [(2,(AV.b x2))] h
theorem Y40.j0 (Q:AV→AHeap→Prop) (x2:Bool) (h:AHeap):Y40.J Q 1 [(2,(AV.b x2))] h=Y40.p0 Q x2 h:=rfl
def Y40.t0 (J:JT) (Q:AV→AHeap→Prop) (x2:Bool) (h:AHeap):Prop:=
Q (AV.b x2) h
theorem Y40.t0_eq (J:JT) (Q:AV→AHeap→Prop) (x2:Bool) (h:AHeap):Y40.t0 J Q x2 h=atJ prog C 9 J false [1,1] Y40.ann Y40.body [(2,(AV.b x2))] h (kFun prog Tryz.f114 Q):=by kernel_rfl
theorem Y40.i0 {Q:AV→AHeap→Prop} {x2:Bool} {h:AHeap} (H:Y40.t0 (Y40.J Q) Q x2 h):Y40.p0 Q x2 h:=Y40.goR (k:=1) (p:=[1,1]) (by kernel_rfl) ((Y40.t0_eq (Y40.J Q) Q x2 h).mp H)
def Y40.t (J:JT) (Q:AV→AHeap→Prop) (x0:Int) (h:AHeap):Prop:=
(bif (decide ((32:Int)≤x0)) then
(J 1 [(2,(AV.b (decide ((x0:Int)≤126))))] h)
else
(J 1 [(2,(AV.b false))] h))
theorem Y40.t_eq (J:JT) (Q:AV→AHeap→Prop) (x0:Int) (h:AHeap):Y40.t J Q x0 h=exJ prog C 9 J Y40.ann Y40.body (initEnv 0 [(AV.i .u8 x0)]) h (kFun prog Tryz.f114 Q):=by kernel_rfl
theorem Y40.call {K:AV→AHeap→Prop} {x0:Int} {h:AHeap} (H:Y40.t (Y40.J (kRet h K)) (kRet h K) x0 h):C Y40.id [(AV.i .u8 x0)] h K:=
  callJ (P:=prog) (fn:=Tryz.f114) (ann:=Y40.ann) (body:=Y40.body) Tryz.func114 Y40.body_eq (by kernel_rfl) Y40.dist (by kernel_rfl) ((Y40.t_eq (Y40.J (kRet h K)) (kRet h K) x0 h).mp H)
noncomputable def Y77.body:Code:=(Tryz.f115.body).getD .skip
def Y77.ann:Ann:=(.seq 0 [0,1,8] .leaf (.br .leaf .leaf))
theorem Y77.body_eq:Tryz.f115.body=some Y77.body:=by kernel_rfl
theorem Y77.dist:noTwice (places Y77.ann Y77.body)=true:=by kernel_rfl
noncomputable def Y77.J (Q:AV→AHeap→Prop):JT:=funJ prog C Tryz.f115 Y77.ann Y77.body Q
def Y77.t (J:JT) (Q:AV→AHeap→Prop) (x0:AV) (x1:AV) (h:AHeap):Prop:=
pNil x0 fun v0=>
pFieldAddr 0 v0 fun v1=>
C Y59.id [v1] h fun v2 h3=>
asB v2 fun c4=>
(bif (!c4) then
(C Y78.id [x0,x1] h3 fun v6 h7=>
Q (AV.tu []) h7)
else
(Q (AV.tu []) h3))
theorem Y77.t_eq (J:JT) (Q:AV→AHeap→Prop) (x0:AV) (x1:AV) (h:AHeap):Y77.t J Q x0 x1 h=exJ prog C 12 J Y77.ann Y77.body (initEnv 0 [x0,x1]) h (kFun prog Tryz.f115 Q):=by kernel_rfl
theorem Y77.call {K:AV→AHeap→Prop} {x0:AV} {x1:AV} {h:AHeap} (H:Y77.t (Y77.J (kRet h K)) (kRet h K) x0 x1 h):C Y77.id [x0,x1] h K:=
  callJ (P:=prog) (fn:=Tryz.f115) (ann:=Y77.ann) (body:=Y77.body) Tryz.func115 Y77.body_eq (by kernel_rfl) Y77.dist (by kernel_rfl) ((Y77.t_eq (Y77.J (kRet h K)) (kRet h K) x0 x1 h).mp H)
noncomputable def Y72.body:Code:=(Tryz.f116.body).getD .skip
def Y72.ann:Ann:=(.seq 0 [0] .leaf .leaf)
theorem Y72.body_eq:Tryz.f116.body=some Y72.body:=by kernel_rfl
theorem Y72.dist:noTwice (places Y72.ann Y72.body)=true:=by kernel_rfl
noncomputable def Y72.J (Q:AV→AHeap→Prop):JT:=funJ prog C Tryz.f116 Y72.ann Y72.body Q
def Y72.t (J:JT) (Q:AV→AHeap→Prop) (x0:AV) (h:AHeap):Prop:=
C Y6.id [x0] h fun v0 h1=>
pNil x0 fun v2=>
pFieldAddr 3 v2 fun v3=>
pStore 1 v3 v0 h1 fun h4=>
pNil x0 fun v6=>
pFieldAddr 4 v6 fun v7=>
pStore 1 v7 (AV.sl none 0 none) h4 fun h8=>
Q (AV.tu []) h8
theorem Y72.t_eq (J:JT) (Q:AV→AHeap→Prop) (x0:AV) (h:AHeap):Y72.t J Q x0 h=exJ prog C 10 J Y72.ann Y72.body (initEnv 0 [x0]) h (kFun prog Tryz.f116 Q):=by kernel_rfl
theorem Y72.call {K:AV→AHeap→Prop} {x0:AV} {h:AHeap} (H:Y72.t (Y72.J (kRet h K)) (kRet h K) x0 h):C Y72.id [x0] h K:=
  callJ (P:=prog) (fn:=Tryz.f116) (ann:=Y72.ann) (body:=Y72.body) Tryz.func116 Y72.body_eq (by kernel_rfl) Y72.dist (by kernel_rfl) ((Y72.t_eq (Y72.J (kRet h K)) (kRet h K) x0 h).mp H)
noncomputable def Y47.body:Code:=(Tryz.f121.body).getD .skip
def Y47.ann:Ann:=(.seq 0 [0,1] .leaf (.seq 0 [0,1] (.seq 0 [0,1,9] .leaf (.br (.seq 0 [4] .leaf .leaf) .leaf)) (.seq 0 [0,1] (.seq 0 [0,1,15] .leaf (.br (.seq 0 [4] .leaf .leaf) .leaf)) (.seq 0 [0,1,5] .leaf (.one (.loop 1 [0,1,5] (.one (.seq 0 [0,1,5,6] .leaf (.seq 0 [0,1,5,6] (.seq 0 [0,1,5,6,24] .leaf (.br (.seq 0 [4] .leaf .leaf) .leaf)) (.seq 0 [0,1,5,6] .leaf .leaf))))))))))
theorem Y47.body_eq:Tryz.f121.body=some Y47.body:=by kernel_rfl
theorem Y47.dist:noTwice (places Y47.ann Y47.body)=true:=by kernel_rfl
noncomputable def Y47.J (Q:AV→AHeap→Prop):JT:=funJ prog C Tryz.f121 Y47.ann Y47.body Q
def Y47.p0 (Q:AV→AHeap→Prop) (x0:List UInt8) (x1:List UInt8) (x5:Int) (h:AHeap):Prop:=Y47.J Q 1 [(0,(AV.s x0)),(1,(AV.s x1)),(5,(AV.i .i64 x5))] h
theorem Y47.j0 (Q:AV→AHeap→Prop) (x0:List UInt8) (x1:List UInt8) (x5:Int) (h:AHeap):Y47.J Q 1 [(0,(AV.s x0)),(1,(AV.s x1)),(5,(AV.i .i64 x5))] h=Y47.p0 Q x0 x1 x5 h:=rfl
def Y47.t (J:JT) (Q:AV→AHeap→Prop) (x0:List UInt8) (x1:List UInt8) (h:AHeap):Prop:=
(bif (decide (((x1.length:Int):Int)=0)) then
(C Y95.id [(AV.s x0)] h fun v2 h3=>
asI .i64 v2 fun n4=>
withI (IntKind.wrap .i64 (n4+1)) fun n5=>
Q (AV.i .i64 n5) h3)
else
((bif (decide (((x1.length:Int):Int)=1)) then
(pIdxStr (AV.s x1) (AV.i .i64 0) fun n9=>
C Y82.id [(AV.s x0),(AV.i .u8 n9)] h fun v10 h11=>
asI .i64 v10 fun n12=>
Q (AV.i .i64 n12) h11)
else
(J 1 [(0,(AV.s x0)),(1,(AV.s x1)),(5,(AV.i .i64 0))] h))))
theorem Y47.t_eq (J:JT) (Q:AV→AHeap→Prop) (x0:List UInt8) (x1:List UInt8) (h:AHeap):Y47.t J Q x0 x1 h=exJ prog C 34 J Y47.ann Y47.body (initEnv 0 [(AV.s x0),(AV.s x1)]) h (kFun prog Tryz.f121 Q):=by kernel_rfl
theorem Y47.call {K:AV→AHeap→Prop} {x0:List UInt8} {x1:List UInt8} {h:AHeap} (H:Y47.t (Y47.J (kRet h K)) (kRet h K) x0 x1 h):C Y47.id [(AV.s x0),(AV.s x1)] h K:=
  callJ (P:=prog) (fn:=Tryz.f121) (ann:=Y47.ann) (body:=Y47.body) Tryz.func121 Y47.body_eq (by kernel_rfl) Y47.dist (by kernel_rfl) ((Y47.t_eq (Y47.J (kRet h K)) (kRet h K) x0 x1 h).mp H)
noncomputable def Y62.body:Code:=(Tryz.f122.body).getD .skip
def Y62.ann:Ann:=(.seq 0 [0,1] .leaf (.seq 0 [4] .leaf .leaf))
theorem Y62.body_eq:Tryz.f122.body=some Y62.body:=by kernel_rfl
theorem Y62.dist:noTwice (places Y62.ann Y62.body)=true:=by kernel_rfl
noncomputable def Y62.J (Q:AV→AHeap→Prop):JT:=funJ prog C Tryz.f122 Y62.ann Y62.body Q
def Y62.t (J:JT) (Q:AV→AHeap→Prop) (x0:List UInt8) (x1:List UInt8) (h:AHeap):Prop:=
C Y38.id [(AV.s x0),(AV.s x1)] h fun v1 h2=>
asI .i64 v1 fun n3=>
Q (AV.i .i64 n3) h2
theorem Y62.t_eq (J:JT) (Q:AV→AHeap→Prop) (x0:List UInt8) (x1:List UInt8) (h:AHeap):Y62.t J Q x0 x1 h=exJ prog C 8 J Y62.ann Y62.body (initEnv 0 [(AV.s x0),(AV.s x1)]) h (kFun prog Tryz.f122 Q):=by kernel_rfl
theorem Y62.call {K:AV→AHeap→Prop} {x0:List UInt8} {x1:List UInt8} {h:AHeap} (H:Y62.t (Y62.J (kRet h K)) (kRet h K) x0 x1 h):C Y62.id [(AV.s x0),(AV.s x1)] h K:=
  callJ (P:=prog) (fn:=Tryz.f122) (ann:=Y62.ann) (body:=Y62.body) Tryz.func122 Y62.body_eq (by kernel_rfl) Y62.dist (by kernel_rfl) ((Y62.t_eq (Y62.J (kRet h K)) (kRet h K) x0 x1 h).mp H)
noncomputable def Y59.body:Code:=(Tryz.f129.body).getD .skip
def Y59.ann:Ann:=(.seq 0 [0] .leaf (.seq 0 [2] .leaf .leaf))
theorem Y59.body_eq:Tryz.f129.body=some Y59.body:=by kernel_rfl
theorem Y59.dist:noTwice (places Y59.ann Y59.body)=true:=by kernel_rfl
noncomputable def Y59.J (Q:AV→AHeap→Prop):JT:=funJ prog C Tryz.f129 Y59.ann Y59.body Q
def Y59.t (J:JT) (Q:AV→AHeap→Prop) (x0:AV) (h:AHeap):Prop:=
pNil x0 fun v1=>
pFieldAddr 0 v1 fun v2=>
C Y85.id [v2] h fun v3 h4=>
asI .u32 v3 fun n5=>
Q (AV.b (!decide ((n5:Int)=0))) h4
theorem Y59.t_eq (J:JT) (Q:AV→AHeap→Prop) (x0:AV) (h:AHeap):Y59.t J Q x0 h=exJ prog C 8 J Y59.ann Y59.body (initEnv 0 [x0]) h (kFun prog Tryz.f129 Q):=by kernel_rfl
theorem Y59.call {K:AV→AHeap→Prop} {x0:AV} {h:AHeap} (H:Y59.t (Y59.J (kRet h K)) (kRet h K) x0 h):C Y59.id [x0] h K:=
  callJ (P:=prog) (fn:=Tryz.f129) (ann:=Y59.ann) (body:=Y59.body) Tryz.func129 Y59.body_eq (by kernel_rfl) Y59.dist (by kernel_rfl) ((Y59.t_eq (Y59.J (kRet h K)) (kRet h K) x0 h).mp H)
noncomputable def Y78.body:Code:=(Tryz.f130.body).getD .skip
def Y78.ann:Ann:=(.seq 0 [0,1] .leaf (.seq 0 [0,1] .leaf (.seq 0 [0,1,15] .leaf (.br (.seq 0 [1] .leaf .leaf) .leaf))))
theorem Y78.body_eq:Tryz.f130.body=some Y78.body:=by kernel_rfl
def Y78.tD (Q:AV→AHeap→Prop) (x0:AV) (x1:AV) (h:AHeap):Prop:=
pNil x0 fun v0=>
pFieldAddr 1 v0 fun v1=>
C Y63.id [v1] h fun v2 h3=>
pNil x0 fun v5=>
pFieldAddr 1 v5 fun v6=>
pNil x0 fun v8=>
pFieldAddr 0 v8 fun v9=>
C Y59.id [v9] h3 fun v10 h11=>
asB v10 fun c12=>
(bif (!c12) then
(pNil x0 fun v14=>
pFieldAddr 0 v14 fun v15=>
pCallV C x1 [] h11 fun v17 h18=>
aF prog C Y67.id [v15,(AV.b true)] h18 fun _ h19=>
aF prog C Y54.id [v6] h19 fun _ h20=>
Q (AV.tu []) h20)
else
(aF prog C Y54.id [v6] h11 fun _ h21=>
Q (AV.tu []) h21))
theorem Y78.tD_eq (Q:AV→AHeap→Prop) (x0:AV) (x1:AV) (h:AHeap):Y78.tD Q x0 x1 h=dexec prog C 21 Y78.ann Y78.body (initEnv 0 [x0,x1]) h [] (kFunD prog C Tryz.f130 Q):=by kernel_rfl
theorem Y78.callD {K:AV→AHeap→Prop} {x0:AV} {x1:AV} {h:AHeap} (H:Y78.tD (kRet h K) x0 x1 h):aFD prog C Y78.id [x0,x1] h K:=
  ⟨Tryz.f130,Y78.body,Y78.ann,Tryz.func130,Y78.body_eq,by kernel_rfl,Nat.le_of_ble_eq_true (by kernel_rfl),(Y78.tD_eq (kRet h K) x0 x1 h).mp H⟩
noncomputable def Y6.body:Code:=(Tryz.f131.body).getD .skip
def Y6.ann:Ann:=(.seq 0 [0] .leaf (.seq 0 [3] .leaf (.seq 0 [3] (.seq 1 [3,28] .leaf (.br (.seq 0 [2] (.ord (.neu 0 (.neu 1 (.neu 2 (.neu 3 (.neu 4 (.neu 5 (.eff 6 (.neu 7 (.neu 8 .done)) .stop)))))))) .leaf) .leaf)) (.seq 0 [3,4] .leaf (.seq 0 [3,4] (.seq 0 [3,4,5] .leaf (.one (.loop 2 [3,4,5] (.seq 0 [3,4,5] (.seq 0 [3,4,5,40] .leaf (.br .leaf .leaf)) (.seq 3 [3,4,5] (.one (.seq 0 [3,4,5] (.seq 0 [3,4,5,48] .leaf (.br (.seq 0 [2] .leaf .leaf) .leaf)) (.seq 0 [3,4,5,58] .leaf (.br .leaf .leaf)))) .leaf))))) (.seq 0 [3] (.seq 0 [3,59] .leaf (.br (.seq 0 [3,6] .leaf (.seq 0 [3,6] (.seq 0 [3,6,61] .leaf (.one (.loop 4 [3,6,61] (.seq 0 [3,6,61,62] .leaf (.seq 0 [3,6,61] (.br .leaf .leaf) (.seq 0 [3,6,61] (.one (.seq 0 [3,6,7,61] .leaf .leaf)) .leaf)))))) (.seq 0 [6] (.seq 0 [3,6,8] .leaf (.one (.loop 5 [3,6,8] (.seq 0 [3,6,8] (.seq 0 [3,6,8,73] .leaf (.br .leaf .leaf)) (.seq 0 [3,6,8] (.one (.seq 0 [3,6,8,9] .leaf (.seq 0 [3,6,8,9,10] .leaf .leaf))) .leaf))))) (.seq 0 [2] .leaf .leaf)))) .leaf)) (.seq 0 [3,11] .leaf (.seq 0 [11] (.seq 0 [3,11,12] .leaf (.one (.loop 6 [3,11,12] (.seq 0 [3,11,12] (.seq 0 [3,11,12,100] .leaf (.br .leaf .leaf)) (.seq 0 [3,11,12] (.one (.seq 0 [3,11,12,13] .leaf (.seq 0 [3,11,12,13,14] .leaf (.seq 7 [3,11,12,13,14] (.seq 0 [3,11,12,13,14,117] .leaf (.br .leaf .leaf)) .leaf)))) .leaf))))) (.seq 0 [2] .leaf .leaf)))))))))
theorem Y6.body_eq:Tryz.f131.body=some Y6.body:=by kernel_rfl
theorem Y6.dist:noTwice (places Y6.ann Y6.body)=true:=by kernel_rfl
noncomputable def Y6.J (Q:AV→AHeap→Prop):JT:=funJ prog C Tryz.f131 Y6.ann Y6.body Q
theorem Y6.goR {Q:AV→AHeap→Prop} {k:Nat} {p:List Nat} (hl:lookJ (places Y6.ann Y6.body) k=some (p,false)) {e:Env} {h:AHeap} (hk:atJ prog C 132 (Y6.J Q) false p Y6.ann Y6.body e h (kFun prog Tryz.f131 Q)):Y6.J Q k e h:=goJ_run (P:=prog) (fn:=Tryz.f131) (ann:=Y6.ann) (body:=Y6.body) (Q:=Q) (k:=k) (p:=p) (e:=e) (h:=h) (acall_le X) Y6.dist hl hk
theorem Y6.goH {Q:AV→AHeap→Prop} {k:Nat} {p:List Nat} (hl:lookJ (places Y6.ann Y6.body) k=some (p,true)) {e:Env} {h:AHeap} (hk:atJ prog C 132 (Y6.J Q) true p Y6.ann Y6.body e h (kFun prog Tryz.f131 Q)):Y6.J Q k e h:=goJ_head (P:=prog) (fn:=Tryz.f131) (ann:=Y6.ann) (body:=Y6.body) (Q:=Q) (k:=k) (p:=p) (e:=e) (h:=h) (acall_le X) Y6.dist hl hk
def Y6.p0 (Q:AV→AHeap→Prop) (x3:AV) (x28:Bool) (h:AHeap):Prop:=Y6.J Q 1 [(3,x3),(28,(AV.b x28))] h
theorem Y6.j0 (Q:AV→AHeap→Prop) (x3:AV) (x28:Bool) (h:AHeap):Y6.J Q 1 [(3,x3),(28,(AV.b x28))] h=Y6.p0 Q x3 x28 h:=rfl
def Y6.p2 (Q:AV→AHeap→Prop) (x3:AV) (x4:Bool) (x5:Int) (h:AHeap):Prop:=Y6.J Q 3 [(3,x3),(4,(AV.b x4)),(5,(AV.i .i64 x5))] h
theorem Y6.j2 (Q:AV→AHeap→Prop) (x3:AV) (x4:Bool) (x5:Int) (h:AHeap):Y6.J Q 3 [(3,x3),(4,(AV.b x4)),(5,(AV.i .i64 x5))] h=Y6.p2 Q x3 x4 x5 h:=rfl
def Y6.p1 (Q:AV→AHeap→Prop) (x3:AV) (x4:Bool) (x5:Int) (h:AHeap):Prop:=Y6.J Q 2 [(3,x3),(4,(AV.b x4)),(5,(AV.i .i64 x5))] h
theorem Y6.j1 (Q:AV→AHeap→Prop) (x3:AV) (x4:Bool) (x5:Int) (h:AHeap):Y6.J Q 2 [(3,x3),(4,(AV.b x4)),(5,(AV.i .i64 x5))] h=Y6.p1 Q x3 x4 x5 h:=rfl
def Y6.p6 (Q:AV→AHeap→Prop) (x3:AV) (x11:AV) (x12:Int) (x13:Int) (x14:List UInt8) (h:AHeap):Prop:=Y6.J Q 7 [(3,x3),(11,x11),(12,(AV.i .i64 x12)),(13,(AV.i .u8 x13)),(14,(AV.s x14))] h
theorem Y6.j6 (Q:AV→AHeap→Prop) (x3:AV) (x11:AV) (x12:Int) (x13:Int) (x14:List UInt8) (h:AHeap):Y6.J Q 7 [(3,x3),(11,x11),(12,(AV.i .i64 x12)),(13,(AV.i .u8 x13)),(14,(AV.s x14))] h=Y6.p6 Q x3 x11 x12 x13 x14 h:=rfl
def Y6.p5 (Q:AV→AHeap→Prop) (x3:AV) (x11:AV) (x12:Int) (h:AHeap):Prop:=Y6.J Q 6 [(3,x3),(11,x11),(12,(AV.i .i64 x12))] h
theorem Y6.j5 (Q:AV→AHeap→Prop) (x3:AV) (x11:AV) (x12:Int) (h:AHeap):Y6.J Q 6 [(3,x3),(11,x11),(12,(AV.i .i64 x12))] h=Y6.p5 Q x3 x11 x12 h:=rfl
def Y6.t0 (J:JT) (Q:AV→AHeap→Prop) (x3:AV) (x28:Bool) (h:AHeap):Prop:=
(bif x28 then
(pIdxAddrSl 1 x3 (AV.i .i64 0) h fun v11=>
pLoad1 v11 h fun v12=>
asS v12 fun l13=>
pIdxAddrSl 1 x3 (AV.i .i64 1) h fun v14=>
pLoad1 v14 h fun v15=>
asS v15 fun l16=>
C Y96.id [(AV.s l13),(AV.s l16)] h fun v17 h18=>
pIdxAddrSl 1 x3 (AV.i .i64 1) h18 fun v19=>
(v14=v19 ∧
(pIdxAddrSl 1 x3 (AV.i .i64 0) h18 fun v20=>
(v11=v20 ∧
(Q (AV.ifc 169 v17) h18)))))
else
(J 2 [(3,x3),(4,(AV.b true)),(5,(AV.i .i64 0))] h))
theorem Y6.t0_eq (J:JT) (Q:AV→AHeap→Prop) (x3:AV) (x28:Bool) (h:AHeap):Y6.t0 J Q x3 x28 h=atJ prog C 132 J false [1,1,0,1] Y6.ann Y6.body [(3,x3),(28,(AV.b x28))] h (kFun prog Tryz.f131 Q):=by kernel_rfl
theorem Y6.i0 {Q:AV→AHeap→Prop} {x3:AV} {x28:Bool} {h:AHeap} (H:Y6.t0 (Y6.J Q) Q x3 x28 h):Y6.p0 Q x3 x28 h:=Y6.goR (k:=1) (p:=[1,1,0,1]) (by kernel_rfl) ((Y6.t0_eq (Y6.J Q) Q x3 x28 h).mp H)
def Y6.t2 (J:JT) (Q:AV→AHeap→Prop) (x3:AV) (x4:Bool) (x5:Int) (h:AHeap):Prop:=
withI (IntKind.wrap .i64 (x5+2)) fun n44=>
J 2 [(3,x3),(4,(AV.b x4)),(5,(AV.i .i64 n44))] h
theorem Y6.t2_eq (J:JT) (Q:AV→AHeap→Prop) (x3:AV) (x4:Bool) (x5:Int) (h:AHeap):Y6.t2 J Q x3 x4 x5 h=atJ prog C 132 J false [1,1,1,1,0,1,0,0,1,1] Y6.ann Y6.body [(3,x3),(4,(AV.b x4)),(5,(AV.i .i64 x5))] h (kFun prog Tryz.f131 Q):=by kernel_rfl
theorem Y6.i2 {Q:AV→AHeap→Prop} {x3:AV} {x4:Bool} {x5:Int} {h:AHeap} (H:Y6.t2 (Y6.J Q) Q x3 x4 x5 h):Y6.p2 Q x3 x4 x5 h:=Y6.goR (k:=3) (p:=[1,1,1,1,0,1,0,0,1,1]) (by kernel_rfl) ((Y6.t2_eq (Y6.J Q) Q x3 x4 x5 h).mp H)
def Y6.t1 (J:JT) (Q:AV→AHeap→Prop) (x3:AV) (x4:Bool) (x5:Int) (h:AHeap):Prop:=
pLenSl x3 fun n25=>
(bif (decide ((x5:Int)<n25)) then
(pIdxAddrSl 1 x3 (AV.i .i64 x5) h fun v29=>
pLoad1 v29 h fun v30=>
asS v30 fun l31=>
(bif (!decide (((l31.length:Int):Int)=1)) then
(C Y94.id [x3] h fun v33 h34=>
Q (AV.ifc 171 v33) h34)
else
(withI (IntKind.wrap .i64 (x5+1)) fun n37=>
pIdxAddrSl 1 x3 (AV.i .i64 n37) h fun v38=>
pLoad1 v38 h fun v39=>
asS v39 fun l40=>
(bif (!decide (((l40.length:Int):Int)=1)) then
(J 3 [(3,x3),(4,(AV.b false)),(5,(AV.i .i64 x5))] h)
else
(J 3 [(3,x3),(4,(AV.b x4)),(5,(AV.i .i64 x5))] h)))))
else
((bif x4 then
(pAlloc none [(AV.i .u8 0),(AV.i .u8 0),(AV.i .u8 0),(AV.i .u8 0),(AV.i .u8 0),(AV.i .u8 0),(AV.i .u8 0),(AV.i .u8 0),(AV.i .u8 0),(AV.i .u8 0),(AV.i .u8 0),(AV.i .u8 0),(AV.i .u8 0),(AV.i .u8 0),(AV.i .u8 0),(AV.i .u8 0),(AV.i .u8 0),(AV.i .u8 0),(AV.i .u8 0),(AV.i .u8 0),(AV.i .u8 0),(AV.i .u8 0),(AV.i .u8 0),(AV.i .u8 0),(AV.i .u8 0),(AV.i .u8 0),(AV.i .u8 0),(AV.i .u8 0),(AV.i .u8 0),(AV.i .u8 0),(AV.i .u8 0),(AV.i .u8 0),(AV.i .u8 0),(AV.i .u8 0),(AV.i .u8 0),(AV.i .u8 0),(AV.i .u8 0),(AV.i .u8 0),(AV.i .u8 0),(AV.i .u8 0),(AV.i .u8 0),(AV.i .u8 0),(AV.i .u8 0),(AV.i .u8 0),(AV.i .u8 0),(AV.i .u8 0),(AV.i .u8 0),(AV.i .u8 0),(AV.i .u8 0),(AV.i .u8 0),(AV.i .u8 0),(AV.i .u8 0),(AV.i .u8 0),(AV.i .u8 0),(AV.i .u8 0),(AV.i .u8 0),(AV.i .u8 0),(AV.i .u8 0),(AV.i .u8 0),(AV.i .u8 0),(AV.i .u8 0),(AV.i .u8 0),(AV.i .u8 0),(AV.i .u8 0),(AV.i .u8 0),(AV.i .u8 0),(AV.i .u8 0),(AV.i .u8 0),(AV.i .u8 0),(AV.i .u8 0),(AV.i .u8 0),(AV.i .u8 0),(AV.i .u8 0),(AV.i .u8 0),(AV.i .u8 0),(AV.i .u8 0),(AV.i .u8 0),(AV.i .u8 0),(AV.i .u8 0),(AV.i .u8 0),(AV.i .u8 0),(AV.i .u8 0),(AV.i .u8 0),(AV.i .u8 0),(AV.i .u8 0),(AV.i .u8 0),(AV.i .u8 0),(AV.i .u8 0),(AV.i .u8 0),(AV.i .u8 0),(AV.i .u8 0),(AV.i .u8 0),(AV.i .u8 0),(AV.i .u8 0),(AV.i .u8 0),(AV.i .u8 0),(AV.i .u8 0),(AV.i .u8 0),(AV.i .u8 0),(AV.i .u8 0),(AV.i .u8 0),(AV.i .u8 0),(AV.i .u8 0),(AV.i .u8 0),(AV.i .u8 0),(AV.i .u8 0),(AV.i .u8 0),(AV.i .u8 0),(AV.i .u8 0),(AV.i .u8 0),(AV.i .u8 0),(AV.i .u8 0),(AV.i .u8 0),(AV.i .u8 0),(AV.i .u8 0),(AV.i .u8 0),(AV.i .u8 0),(AV.i .u8 0),(AV.i .u8 0),(AV.i .u8 0),(AV.i .u8 0),(AV.i .u8 0),(AV.i .u8 0),(AV.i .u8 0),(AV.i .u8 0),(AV.i .u8 0),(AV.i .u8 0),(AV.i .u8 0),(AV.i .u8 0),(AV.i .u8 0),(AV.i .u8 0),(AV.i .u8 0),(AV.i .u8 0),(AV.i .u8 0),(AV.i .u8 0),(AV.i .u8 0),(AV.i .u8 0),(AV.i .u8 0),(AV.i .u8 0),(AV.i .u8 0),(AV.i .u8 0),(AV.i .u8 0),(AV.i .u8 0),(AV.i .u8 0),(AV.i .u8 0),(AV.i .u8 0),(AV.i .u8 0),(AV.i .u8 0),(AV.i .u8 0),(AV.i .u8 0),(AV.i .u8 0),(AV.i .u8 0),(AV.i .u8 0),(AV.i .u8 0),(AV.i .u8 0),(AV.i .u8 0),(AV.i .u8 0),(AV.i .u8 0),(AV.i .u8 0),(AV.i .u8 0),(AV.i .u8 0),(AV.i .u8 0),(AV.i .u8 0),(AV.i .u8 0),(AV.i .u8 0),(AV.i .u8 0),(AV.i .u8 0),(AV.i .u8 0),(AV.i .u8 0),(AV.i .u8 0),(AV.i .u8 0),(AV.i .u8 0),(AV.i .u8 0),(AV.i .u8 0),(AV.i .u8 0),(AV.i .u8 0),(AV.i .u8 0),(AV.i .u8 0),(AV.i .u8 0),(AV.i .u8 0),(AV.i .u8 0),(AV.i .u8 0),(AV.i .u8 0),(AV.i .u8 0),(AV.i .u8 0),(AV.i .u8 0),(AV.i .u8 0),(AV.i .u8 0),(AV.i .u8 0),(AV.i .u8 0),(AV.i .u8 0),(AV.i .u8 0),(AV.i .u8 0),(AV.i .u8 0),(AV.i .u8 0),(AV.i .u8 0),(AV.i .u8 0),(AV.i .u8 0),(AV.i .u8 0),(AV.i .u8 0),(AV.i .u8 0),(AV.i .u8 0),(AV.i .u8 0),(AV.i .u8 0),(AV.i .u8 0),(AV.i .u8 0),(AV.i .u8 0),(AV.i .u8 0),(AV.i .u8 0),(AV.i .u8 0),(AV.i .u8 0),(AV.i .u8 0),(AV.i .u8 0),(AV.i .u8 0),(AV.i .u8 0),(AV.i .u8 0),(AV.i .u8 0),(AV.i .u8 0),(AV.i .u8 0),(AV.i .u8 0),(AV.i .u8 0),(AV.i .u8 0),(AV.i .u8 0),(AV.i .u8 0),(AV.i .u8 0),(AV.i .u8 0),(AV.i .u8 0),(AV.i .u8 0),(AV.i .u8 0),(AV.i .u8 0),(AV.i .u8 0),(AV.i .u8 0),(AV.i .u8 0),(AV.i .u8 0),(AV.i .u8 0),(AV.i .u8 0),(AV.i .u8 0),(AV.i .u8 0),(AV.i .u8 0),(AV.i .u8 0),(AV.i .u8 0),(AV.i .u8 0),(AV.i .u8 0),(AV.i .u8 0),(AV.i .u8 0),(AV.i .u8 0),(AV.i .u8 0),(AV.i .u8 0),(AV.i .u8 0),(AV.i .u8 0),(AV.i .u8 0),(AV.i .u8 0),(AV.i .u8 0),(AV.i .u8 0),(AV.i .u8 0),(AV.i .u8 0)] h fun v47 h48=>
pStore 256 v47 (AV.ag [(AV.i .u8 0),(AV.i .u8 0),(AV.i .u8 0),(AV.i .u8 0),(AV.i .u8 0),(AV.i .u8 0),(AV.i .u8 0),(AV.i .u8 0),(AV.i .u8 0),(AV.i .u8 0),(AV.i .u8 0),(AV.i .u8 0),(AV.i .u8 0),(AV.i .u8 0),(AV.i .u8 0),(AV.i .u8 0),(AV.i .u8 0),(AV.i .u8 0),(AV.i .u8 0),(AV.i .u8 0),(AV.i .u8 0),(AV.i .u8 0),(AV.i .u8 0),(AV.i .u8 0),(AV.i .u8 0),(AV.i .u8 0),(AV.i .u8 0),(AV.i .u8 0),(AV.i .u8 0),(AV.i .u8 0),(AV.i .u8 0),(AV.i .u8 0),(AV.i .u8 0),(AV.i .u8 0),(AV.i .u8 0),(AV.i .u8 0),(AV.i .u8 0),(AV.i .u8 0),(AV.i .u8 0),(AV.i .u8 0),(AV.i .u8 0),(AV.i .u8 0),(AV.i .u8 0),(AV.i .u8 0),(AV.i .u8 0),(AV.i .u8 0),(AV.i .u8 0),(AV.i .u8 0),(AV.i .u8 0),(AV.i .u8 0),(AV.i .u8 0),(AV.i .u8 0),(AV.i .u8 0),(AV.i .u8 0),(AV.i .u8 0),(AV.i .u8 0),(AV.i .u8 0),(AV.i .u8 0),(AV.i .u8 0),(AV.i .u8 0),(AV.i .u8 0),(AV.i .u8 0),(AV.i .u8 0),(AV.i .u8 0),(AV.i .u8 0),(AV.i .u8 0),(AV.i .u8 0),(AV.i .u8 0),(AV.i .u8 0),(AV.i .u8 0),(AV.i .u8 0),(AV.i .u8 0),(AV.i .u8 0),(AV.i .u8 0),(AV.i .u8 0),(AV.i .u8 0),(AV.i .u8 0),(AV.i .u8 0),(AV.i .u8 0),(AV.i .u8 0),(AV.i .u8 0),(AV.i .u8 0),(AV.i .u8 0),(AV.i .u8 0),(AV.i .u8 0),(AV.i .u8 0),(AV.i .u8 0),(AV.i .u8 0),(AV.i .u8 0),(AV.i .u8 0),(AV.i .u8 0),(AV.i .u8 0),(AV.i .u8 0),(AV.i .u8 0),(AV.i .u8 0),(AV.i .u8 0),(AV.i .u8 0),(AV.i .u8 0),(AV.i .u8 0),(AV.i .u8 0),(AV.i .u8 0),(AV.i .u8 0),(AV.i .u8 0),(AV.i .u8 0),(AV.i .u8 0),(AV.i .u8 0),(AV.i .u8 0),(AV.i .u8 0),(AV.i .u8 0),(AV.i .u8 0),(AV.i .u8 0),(AV.i .u8 0),(AV.i .u8 0),(AV.i .u8 0),(AV.i .u8 0),(AV.i .u8 0),(AV.i .u8 0),(AV.i .u8 0),(AV.i .u8 0),(AV.i .u8 0),(AV.i .u8 0),(AV.i .u8 0),(AV.i .u8 0),(AV.i .u8 0),(AV.i .u8 0),(AV.i .u8 0),(AV.i .u8 0),(AV.i .u8 0),(AV.i .u8 0),(AV.i .u8 0),(AV.i .u8 0),(AV.i .u8 0),(AV.i .u8 0),(AV.i .u8 0),(AV.i .u8 0),(AV.i .u8 0),(AV.i .u8 0),(AV.i .u8 0),(AV.i .u8 0),(AV.i .u8 0),(AV.i .u8 0),(AV.i .u8 0),(AV.i .u8 0),(AV.i .u8 0),(AV.i .u8 0),(AV.i .u8 0),(AV.i .u8 0),(AV.i .u8 0),(AV.i .u8 0),(AV.i .u8 0),(AV.i .u8 0),(AV.i .u8 0),(AV.i .u8 0),(AV.i .u8 0),(AV.i .u8 0),(AV.i .u8 0),(AV.i .u8 0),(AV.i .u8 0),(AV.i .u8 0),(AV.i .u8 0),(AV.i .u8 0),(AV.i .u8 0),(AV.i .u8 0),(AV.i .u8 0),(AV.i .u8 0),(AV.i .u8 0),(AV.i .u8 0),(AV.i .u8 0),(AV.i .u8 0),(AV.i .u8 0),(AV.i .u8 0),(AV.i .u8 0),(AV.i .u8 0),(AV.i .u8 0),(AV.i .u8 0),(AV.i .u8 0),(AV.i .u8 0),(AV.i .u8 0),(AV.i .u8 0),(AV.i .u8 0),(AV.i .u8 0),(AV.i .u8 0),(AV.i .u8 0),(AV.i .u8 0),(AV.i .u8 0),(AV.i .u8 0),(AV.i .u8 0),(AV.i .u8 0),(AV.i .u8 0),(AV.i .u8 0),(AV.i .u8 0),(AV.i .u8 0),(AV.i .u8 0),(AV.i .u8 0),(AV.i .u8 0),(AV.i .u8 0),(AV.i .u8 0),(AV.i .u8 0),(AV.i .u8 0),(AV.i .u8 0),(AV.i .u8 0),(AV.i .u8 0),(AV.i .u8 0),(AV.i .u8 0),(AV.i .u8 0),(AV.i .u8 0),(AV.i .u8 0),(AV.i .u8 0),(AV.i .u8 0),(AV.i .u8 0),(AV.i .u8 0),(AV.i .u8 0),(AV.i .u8 0),(AV.i .u8 0),(AV.i .u8 0),(AV.i .u8 0),(AV.i .u8 0),(AV.i .u8 0),(AV.i .u8 0),(AV.i .u8 0),(AV.i .u8 0),(AV.i .u8 0),(AV.i .u8 0),(AV.i .u8 0),(AV.i .u8 0),(AV.i .u8 0),(AV.i .u8 0),(AV.i .u8 0),(AV.i .u8 0),(AV.i .u8 0),(AV.i .u8 0),(AV.i .u8 0),(AV.i .u8 0),(AV.i .u8 0),(AV.i .u8 0),(AV.i .u8 0),(AV.i .u8 0),(AV.i .u8 0),(AV.i .u8 0),(AV.i .u8 0),(AV.i .u8 0),(AV.i .u8 0),(AV.i .u8 0),(AV.i .u8 0),(AV.i .u8 0),(AV.i .u8 0),(AV.i .u8 0),(AV.i .u8 0),(AV.i .u8 0),(AV.i .u8 0),(AV.i .u8 0),(AV.i .u8 0),(AV.i .u8 0),(AV.i .u8 0),(AV.i .u8 0),(AV.i .u8 0)]) h48 fun h49=>
J 4 [(3,x3),(6,v47),(61,(AV.i .i64 0))] h49)
else
(pLenSl x3 fun n85=>
pQuo .i64 n85 2 fun n86=>
pMake 1 16 [(AV.s [])] (AV.i .i64 0) (AV.i .i64 n86) h fun v87 h88=>
pBuild [(AV.sl none 0 none),(AV.sl none 0 none),(AV.sl none 0 none),(AV.sl none 0 none),(AV.sl none 0 none),(AV.sl none 0 none),(AV.sl none 0 none),(AV.sl none 0 none),(AV.sl none 0 none),(AV.sl none 0 none),(AV.sl none 0 none),(AV.sl none 0 none),(AV.sl none 0 none),(AV.sl none 0 none),(AV.sl none 0 none),(AV.sl none 0 none),(AV.sl none 0 none),(AV.sl none 0 none),(AV.sl none 0 none),(AV.sl none 0 none),(AV.sl none 0 none),(AV.sl none 0 none),(AV.sl none 0 none),(AV.sl none 0 none),(AV.sl none 0 none),(AV.sl none 0 none),(AV.sl none 0 none),(AV.sl none 0 none),(AV.sl none 0 none),(AV.sl none 0 none),(AV.sl none 0 none),(AV.sl none 0 none),(AV.sl none 0 none),(AV.sl none 0 none),(AV.sl none 0 none),(AV.sl none 0 none),(AV.sl none 0 none),(AV.sl none 0 none),(AV.sl none 0 none),(AV.sl none 0 none),(AV.sl none 0 none),(AV.sl none 0 none),(AV.sl none 0 none),(AV.sl none 0 none),(AV.sl none 0 none),(AV.sl none 0 none),(AV.sl none 0 none),(AV.sl none 0 none),(AV.sl none 0 none),(AV.sl none 0 none),(AV.sl none 0 none),(AV.sl none 0 none),(AV.sl none 0 none),(AV.sl none 0 none),(AV.sl none 0 none),(AV.sl none 0 none),(AV.sl none 0 none),(AV.sl none 0 none),(AV.sl none 0 none),(AV.sl none 0 none),(AV.sl none 0 none),(AV.sl none 0 none),(AV.sl none 0 none),(AV.sl none 0 none),(AV.sl none 0 none),(AV.sl none 0 none),(AV.sl none 0 none),(AV.sl none 0 none),(AV.sl none 0 none),(AV.sl none 0 none),(AV.sl none 0 none),(AV.sl none 0 none),(AV.sl none 0 none),(AV.sl none 0 none),(AV.sl none 0 none),(AV.sl none 0 none),(AV.sl none 0 none),(AV.sl none 0 none),(AV.sl none 0 none),(AV.sl none 0 none),(AV.sl none 0 none),(AV.sl none 0 none),(AV.sl none 0 none),(AV.sl none 0 none),(AV.sl none 0 none),(AV.sl none 0 none),(AV.sl none 0 none),(AV.sl none 0 none),(AV.sl none 0 none),(AV.sl none 0 none),(AV.sl none 0 none),(AV.sl none 0 none),(AV.sl none 0 none),(AV.sl none 0 none),(AV.sl none 0 none),(AV.sl none 0 none),(AV.sl none 0 none),(AV.sl none 0 none),(AV.sl none 0 none),(AV.sl none 0 none),(AV.sl none 0 none),(AV.sl none 0 none),(AV.sl none 0 none),(AV.sl none 0 none),(AV.sl none 0 none),(AV.sl none 0 none),(AV.sl none 0 none),(AV.sl none 0 none),(AV.sl none 0 none),(AV.sl none 0 none),(AV.sl none 0 none),(AV.sl none 0 none),(AV.sl none 0 none),(AV.sl none 0 none),(AV.sl none 0 none),(AV.sl none 0 none),(AV.sl none 0 none),(AV.sl none 0 none),(AV.sl none 0 none),(AV.sl none 0 none),(AV.sl none 0 none),(AV.sl none 0 none),(AV.sl none 0 none),(AV.sl none 0 none),(AV.sl none 0 none),(AV.sl none 0 none),(AV.sl none 0 none),(AV.sl none 0 none),(AV.sl none 0 none),(AV.sl none 0 none),(AV.sl none 0 none),(AV.sl none 0 none),(AV.sl none 0 none),(AV.sl none 0 none),(AV.sl none 0 none),(AV.sl none 0 none),(AV.sl none 0 none),(AV.sl none 0 none),(AV.sl none 0 none),(AV.sl none 0 none),(AV.sl none 0 none),(AV.sl none 0 none),(AV.sl none 0 none),(AV.sl none 0 none),(AV.sl none 0 none),(AV.sl none 0 none),(AV.sl none 0 none),(AV.sl none 0 none),(AV.sl none 0 none),(AV.sl none 0 none),(AV.sl none 0 none),(AV.sl none 0 none),(AV.sl none 0 none),(AV.sl none 0 none),(AV.sl none 0 none),(AV.sl none 0 none),(AV.sl none 0 none),(AV.sl none 0 none),(AV.sl none 0 none),(AV.sl none 0 none),(AV.sl none 0 none),(AV.sl none 0 none),(AV.sl none 0 none),(AV.sl none 0 none),(AV.sl none 0 none),(AV.sl none 0 none),(AV.sl none 0 none),(AV.sl none 0 none),(AV.sl none 0 none),(AV.sl none 0 none),(AV.sl none 0 none),(AV.sl none 0 none),(AV.sl none 0 none),(AV.sl none 0 none),(AV.sl none 0 none),(AV.sl none 0 none),(AV.sl none 0 none),(AV.sl none 0 none),(AV.sl none 0 none),(AV.sl none 0 none),(AV.sl none 0 none),(AV.sl none 0 none),(AV.sl none 0 none),(AV.sl none 0 none),(AV.sl none 0 none),(AV.sl none 0 none),(AV.sl none 0 none),(AV.sl none 0 none),(AV.sl none 0 none),(AV.sl none 0 none),(AV.sl none 0 none),(AV.sl none 0 none),(AV.sl none 0 none),(AV.sl none 0 none),(AV.sl none 0 none),(AV.sl none 0 none),(AV.sl none 0 none),(AV.sl none 0 none),(AV.sl none 0 none),(AV.sl none 0 none),(AV.sl none 0 none),(AV.sl none 0 none),(AV.sl none 0 none),(AV.sl none 0 none),(AV.sl none 0 none),(AV.sl none 0 none),(AV.sl none 0 none),(AV.sl none 0 none),(AV.sl none 0 none),(AV.sl none 0 none),(AV.sl none 0 none),(AV.sl none 0 none),(AV.sl none 0 none),(AV.sl none 0 none),(AV.sl none 0 none),(AV.sl none 0 none),(AV.sl none 0 none),(AV.sl none 0 none),(AV.sl none 0 none),(AV.sl none 0 none),(AV.sl none 0 none),(AV.sl none 0 none),(AV.sl none 0 none),(AV.sl none 0 none),(AV.sl none 0 none),(AV.sl none 0 none),(AV.sl none 0 none),(AV.sl none 0 none),(AV.sl none 0 none),(AV.sl none 0 none),(AV.sl none 0 none),(AV.sl none 0 none),(AV.sl none 0 none),(AV.sl none 0 none),(AV.sl none 0 none),(AV.sl none 0 none),(AV.sl none 0 none),(AV.sl none 0 none),(AV.sl none 0 none),(AV.sl none 0 none),(AV.sl none 0 none),(AV.sl none 0 none),(AV.sl none 0 none),(AV.sl none 0 none),(AV.sl none 0 none),(AV.sl none 0 none),(AV.sl none 0 none),(AV.sl none 0 none),(AV.sl none 0 none),(AV.sl none 0 none),(AV.sl none 0 none),(AV.sl none 0 none),(AV.sl none 0 none),(AV.sl none 0 none),(AV.sl none 0 none),(AV.sl none 0 none),(AV.sl none 0 none)] [(256,1,v87)] fun v89=>
pAlloc (some 178) [(AV.sl none 0 none),(AV.sl none 0 none),(AV.sl none 0 none),(AV.sl none 0 none),(AV.sl none 0 none),(AV.sl none 0 none),(AV.sl none 0 none),(AV.sl none 0 none),(AV.sl none 0 none),(AV.sl none 0 none),(AV.sl none 0 none),(AV.sl none 0 none),(AV.sl none 0 none),(AV.sl none 0 none),(AV.sl none 0 none),(AV.sl none 0 none),(AV.sl none 0 none),(AV.sl none 0 none),(AV.sl none 0 none),(AV.sl none 0 none),(AV.sl none 0 none),(AV.sl none 0 none),(AV.sl none 0 none),(AV.sl none 0 none),(AV.sl none 0 none),(AV.sl none 0 none),(AV.sl none 0 none),(AV.sl none 0 none),(AV.sl none 0 none),(AV.sl none 0 none),(AV.sl none 0 none),(AV.sl none 0 none),(AV.sl none 0 none),(AV.sl none 0 none),(AV.sl none 0 none),(AV.sl none 0 none),(AV.sl none 0 none),(AV.sl none 0 none),(AV.sl none 0 none),(AV.sl none 0 none),(AV.sl none 0 none),(AV.sl none 0 none),(AV.sl none 0 none),(AV.sl none 0 none),(AV.sl none 0 none),(AV.sl none 0 none),(AV.sl none 0 none),(AV.sl none 0 none),(AV.sl none 0 none),(AV.sl none 0 none),(AV.sl none 0 none),(AV.sl none 0 none),(AV.sl none 0 none),(AV.sl none 0 none),(AV.sl none 0 none),(AV.sl none 0 none),(AV.sl none 0 none),(AV.sl none 0 none),(AV.sl none 0 none),(AV.sl none 0 none),(AV.sl none 0 none),(AV.sl none 0 none),(AV.sl none 0 none),(AV.sl none 0 none),(AV.sl none 0 none),(AV.sl none 0 none),(AV.sl none 0 none),(AV.sl none 0 none),(AV.sl none 0 none),(AV.sl none 0 none),(AV.sl none 0 none),(AV.sl none 0 none),(AV.sl none 0 none),(AV.sl none 0 none),(AV.sl none 0 none),(AV.sl none 0 none),(AV.sl none 0 none),(AV.sl none 0 none),(AV.sl none 0 none),(AV.sl none 0 none),(AV.sl none 0 none),(AV.sl none 0 none),(AV.sl none 0 none),(AV.sl none 0 none),(AV.sl none 0 none),(AV.sl none 0 none),(AV.sl none 0 none),(AV.sl none 0 none),(AV.sl none 0 none),(AV.sl none 0 none),(AV.sl none 0 none),(AV.sl none 0 none),(AV.sl none 0 none),(AV.sl none 0 none),(AV.sl none 0 none),(AV.sl none 0 none),(AV.sl none 0 none),(AV.sl none 0 none),(AV.sl none 0 none),(AV.sl none 0 none),(AV.sl none 0 none),(AV.sl none 0 none),(AV.sl none 0 none),(AV.sl none 0 none),(AV.sl none 0 none),(AV.sl none 0 none),(AV.sl none 0 none),(AV.sl none 0 none),(AV.sl none 0 none),(AV.sl none 0 none),(AV.sl none 0 none),(AV.sl none 0 none),(AV.sl none 0 none),(AV.sl none 0 none),(AV.sl none 0 none),(AV.sl none 0 none),(AV.sl none 0 none),(AV.sl none 0 none),(AV.sl none 0 none),(AV.sl none 0 none),(AV.sl none 0 none),(AV.sl none 0 none),(AV.sl none 0 none),(AV.sl none 0 none),(AV.sl none 0 none),(AV.sl none 0 none),(AV.sl none 0 none),(AV.sl none 0 none),(AV.sl none 0 none),(AV.sl none 0 none),(AV.sl none 0 none),(AV.sl none 0 none),(AV.sl none 0 none),(AV.sl none 0 none),(AV.sl none 0 none),(AV.sl none 0 none),(AV.sl none 0 none),(AV.sl none 0 none),(AV.sl none 0 none),(AV.sl none 0 none),(AV.sl none 0 none),(AV.sl none 0 none),(AV.sl none 0 none),(AV.sl none 0 none),(AV.sl none 0 none),(AV.sl none 0 none),(AV.sl none 0 none),(AV.sl none 0 none),(AV.sl none 0 none),(AV.sl none 0 none),(AV.sl none 0 none),(AV.sl none 0 none),(AV.sl none 0 none),(AV.sl none 0 none),(AV.sl none 0 none),(AV.sl none 0 none),(AV.sl none 0 none),(AV.sl none 0 none),(AV.sl none 0 none),(AV.sl none 0 none),(AV.sl none 0 none),(AV.sl none 0 none),(AV.sl none 0 none),(AV.sl none 0 none),(AV.sl none 0 none),(AV.sl none 0 none),(AV.sl none 0 none),(AV.sl none 0 none),(AV.sl none 0 none),(AV.sl none 0 none),(AV.sl none 0 none),(AV.sl none 0 none),(AV.sl none 0 none),(AV.sl none 0 none),(AV.sl none 0 none),(AV.sl none 0 none),(AV.sl none 0 none),(AV.sl none 0 none),(AV.sl none 0 none),(AV.sl none 0 none),(AV.sl none 0 none),(AV.sl none 0 none),(AV.sl none 0 none),(AV.sl none 0 none),(AV.sl none 0 none),(AV.sl none 0 none),(AV.sl none 0 none),(AV.sl none 0 none),(AV.sl none 0 none),(AV.sl none 0 none),(AV.sl none 0 none),(AV.sl none 0 none),(AV.sl none 0 none),(AV.sl none 0 none),(AV.sl none 0 none),(AV.sl none 0 none),(AV.sl none 0 none),(AV.sl none 0 none),(AV.sl none 0 none),(AV.sl none 0 none),(AV.sl none 0 none),(AV.sl none 0 none),(AV.sl none 0 none),(AV.sl none 0 none),(AV.sl none 0 none),(AV.sl none 0 none),(AV.sl none 0 none),(AV.sl none 0 none),(AV.sl none 0 none),(AV.sl none 0 none),(AV.sl none 0 none),(AV.sl none 0 none),(AV.sl none 0 none),(AV.sl none 0 none),(AV.sl none 0 none),(AV.sl none 0 none),(AV.sl none 0 none),(AV.sl none 0 none),(AV.sl none 0 none),(AV.sl none 0 none),(AV.sl none 0 none),(AV.sl none 0 none),(AV.sl none 0 none),(AV.sl none 0 none),(AV.sl none 0 none),(AV.sl none 0 none),(AV.sl none 0 none),(AV.sl none 0 none),(AV.sl none 0 none),(AV.sl none 0 none),(AV.sl none 0 none),(AV.sl none 0 none),(AV.sl none 0 none),(AV.sl none 0 none),(AV.sl none 0 none),(AV.sl none 0 none),(AV.sl none 0 none),(AV.sl none 0 none),(AV.sl none 0 none),(AV.sl none 0 none),(AV.sl none 0 none),(AV.sl none 0 none),(AV.sl none 0 none),(AV.sl none 0 none),(AV.sl none 0 none),(AV.sl none 0 none),(AV.sl none 0 none),(AV.sl none 0 none),(AV.sl none 0 none),(AV.sl none 0 none),(AV.sl none 0 none),(AV.sl none 0 none),(AV.sl none 0 none),(AV.sl none 0 none),(AV.sl none 0 none),(AV.sl none 0 none),(AV.sl none 0 none)] h88 fun v90 h91=>
pStore 257 v90 v89 h91 fun h92=>
pLenSl x3 fun n94=>
withI (IntKind.wrap .i64 (n94 - 2)) fun n95=>
J 6 [(3,x3),(11,v90),(12,(AV.i .i64 n95))] h92))))
theorem Y6.t1_eq (J:JT) (Q:AV→AHeap→Prop) (x3:AV) (x4:Bool) (x5:Int) (h:AHeap):Y6.t1 J Q x3 x4 x5 h=atJ prog C 132 J true [1,1,1,1,0,1,0] Y6.ann Y6.body [(3,x3),(4,(AV.b x4)),(5,(AV.i .i64 x5))] h (kFun prog Tryz.f131 Q):=by kernel_rfl
theorem Y6.i1 {Q:AV→AHeap→Prop} {x3:AV} {x4:Bool} {x5:Int} {h:AHeap} (H:Y6.t1 (Y6.J Q) Q x3 x4 x5 h):Y6.p1 Q x3 x4 x5 h:=Y6.goH (k:=2) (p:=[1,1,1,1,0,1,0]) (by kernel_rfl) ((Y6.t1_eq (Y6.J Q) Q x3 x4 x5 h).mp H)
def Y6.t6 (J:JT) (Q:AV→AHeap→Prop) (x3:AV) (x11:AV) (x12:Int) (x13:Int) (x14:List UInt8) (h:AHeap):Prop:=
pStrBytes (AV.s x14) h fun v129 h130=>
pFieldAddr 0 x11 fun v131=>
pIdxAddrArr 256 1 v131 (AV.i .u8 x13) fun v132=>
pStore 1 v132 v129 h130 fun h133=>
withI (IntKind.wrap .i64 (x12 - 2)) fun n135=>
J 6 [(3,x3),(11,x11),(12,(AV.i .i64 n135))] h133
theorem Y6.t6_eq (J:JT) (Q:AV→AHeap→Prop) (x3:AV) (x11:AV) (x12:Int) (x13:Int) (x14:List UInt8) (h:AHeap):Y6.t6 J Q x3 x11 x12 x13 x14 h=atJ prog C 132 J false [1,1,1,1,1,1,1,0,1,0,0,1,0,0,1,1,1] Y6.ann Y6.body [(3,x3),(11,x11),(12,(AV.i .i64 x12)),(13,(AV.i .u8 x13)),(14,(AV.s x14))] h (kFun prog Tryz.f131 Q):=by kernel_rfl
theorem Y6.i6 {Q:AV→AHeap→Prop} {x3:AV} {x11:AV} {x12:Int} {x13:Int} {x14:List UInt8} {h:AHeap} (H:Y6.t6 (Y6.J Q) Q x3 x11 x12 x13 x14 h):Y6.p6 Q x3 x11 x12 x13 x14 h:=Y6.goR (k:=7) (p:=[1,1,1,1,1,1,1,0,1,0,0,1,0,0,1,1,1]) (by kernel_rfl) ((Y6.t6_eq (Y6.J Q) Q x3 x11 x12 x13 x14 h).mp H)
def Y6.t5 (J:JT) (Q:AV→AHeap→Prop) (x3:AV) (x11:AV) (x12:Int) (h:AHeap):Prop:=
(bif (decide ((0:Int)≤x12)) then
(pIdxAddrSl 1 x3 (AV.i .i64 x12) h fun v100=>
pLoad1 v100 h fun v101=>
asS v101 fun l102=>
pIdxStr (AV.s l102) (AV.i .i64 0) fun n103=>
withI (IntKind.wrap .i64 (x12+1)) fun n105=>
pIdxAddrSl 1 x3 (AV.i .i64 n105) h fun v106=>
pLoad1 v106 h fun v107=>
asS v107 fun l108=>
pFieldAddr 0 x11 fun v110=>
pIdxAddrArr 256 1 v110 (AV.i .u8 n103) fun v111=>
pLoad1 v111 h fun v112=>
pBin prog .eql 91 v112 (AV.sl none 0 none) fun v113=>
asB v113 fun c114=>
(bif c114 then
(pFieldAddr 256 x11 fun v116=>
pLoad1 v116 h fun v117=>
pBuildSl 1 1 [(AV.i .u8 0)] [(0,1,(AV.i .u8 n103))] h fun v118 h119=>
pBytesStr v118 h119 fun l120=>
pBuildSl 1 1 [(AV.s [])] [(0,1,(AV.s l120))] h119 fun v121 h122=>
pAppend none 1 16 v117 v121 h122 fun v123 h124=>
pFieldAddr 256 x11 fun v125=>
pStore 1 v125 v123 h124 fun h126=>
J 7 [(3,x3),(11,x11),(12,(AV.i .i64 x12)),(13,(AV.i .u8 n103)),(14,(AV.s l108))] h126)
else
(J 7 [(3,x3),(11,x11),(12,(AV.i .i64 x12)),(13,(AV.i .u8 n103)),(14,(AV.s l108))] h)))
else
(Q (AV.ifc 179 x11) h))
theorem Y6.t5_eq (J:JT) (Q:AV→AHeap→Prop) (x3:AV) (x11:AV) (x12:Int) (h:AHeap):Y6.t5 J Q x3 x11 x12 h=atJ prog C 132 J true [1,1,1,1,1,1,1,0,1,0] Y6.ann Y6.body [(3,x3),(11,x11),(12,(AV.i .i64 x12))] h (kFun prog Tryz.f131 Q):=by kernel_rfl
theorem Y6.i5 {Q:AV→AHeap→Prop} {x3:AV} {x11:AV} {x12:Int} {h:AHeap} (H:Y6.t5 (Y6.J Q) Q x3 x11 x12 h):Y6.p5 Q x3 x11 x12 h:=Y6.goH (k:=6) (p:=[1,1,1,1,1,1,1,0,1,0]) (by kernel_rfl) ((Y6.t5_eq (Y6.J Q) Q x3 x11 x12 h).mp H)
def Y6.t (J:JT) (Q:AV→AHeap→Prop) (x0:AV) (h:AHeap):Prop:=
pNil x0 fun v1=>
pFieldAddr 4 v1 fun v2=>
pLoad1 v2 h fun v3=>
pLenSl v3 fun n5=>
(bif (decide ((n5:Int)=2)) then
(pIdxAddrSl 1 v3 (AV.i .i64 0) h fun v6=>
pLoad1 v6 h fun v7=>
asS v7 fun l8=>
J 1 [(3,v3),(28,(AV.b (decide ((1:Int)<(l8.length:Int)))))] h)
else
(J 1 [(3,v3),(28,(AV.b false))] h))
theorem Y6.t_eq (J:JT) (Q:AV→AHeap→Prop) (x0:AV) (h:AHeap):Y6.t J Q x0 h=exJ prog C 132 J Y6.ann Y6.body (initEnv 0 [x0]) h (kFun prog Tryz.f131 Q):=by kernel_rfl
theorem Y6.call {K:AV→AHeap→Prop} {x0:AV} {h:AHeap} (H:Y6.t (Y6.J (kRet h K)) (kRet h K) x0 h):C Y6.id [x0] h K:=
  callJ (P:=prog) (fn:=Tryz.f131) (ann:=Y6.ann) (body:=Y6.body) Tryz.func131 Y6.body_eq (by kernel_rfl) Y6.dist (by kernel_rfl) ((Y6.t_eq (Y6.J (kRet h K)) (kRet h K) x0 h).mp H)
noncomputable def Y63.body:Code:=(Tryz.f140.body).getD .skip
def Y63.ann:Ann:=.leaf
theorem Y63.body_eq:Tryz.f140.body=some Y63.body:=by kernel_rfl
theorem Y63.dist:noTwice (places Y63.ann Y63.body)=true:=by kernel_rfl
noncomputable def Y63.J (Q:AV→AHeap→Prop):JT:=funJ prog C Tryz.f140 Y63.ann Y63.body Q
def Y63.t (J:JT) (Q:AV→AHeap→Prop) (x0:AV) (h:AHeap):Prop:=
pNil x0 fun v0=>
pFieldAddr 0 v0 fun v1=>
C Y75.id [v1] h fun v2 h3=>
Q (AV.tu []) h3
theorem Y63.t_eq (J:JT) (Q:AV→AHeap→Prop) (x0:AV) (h:AHeap):Y63.t J Q x0 h=exJ prog C 6 J Y63.ann Y63.body (initEnv 0 [x0]) h (kFun prog Tryz.f140 Q):=by kernel_rfl
theorem Y63.call {K:AV→AHeap→Prop} {x0:AV} {h:AHeap} (H:Y63.t (Y63.J (kRet h K)) (kRet h K) x0 h):C Y63.id [x0] h K:=
  callJ (P:=prog) (fn:=Tryz.f140) (ann:=Y63.ann) (body:=Y63.body) Tryz.func140 Y63.body_eq (by kernel_rfl) Y63.dist (by kernel_rfl) ((Y63.t_eq (Y63.J (kRet h K)) (kRet h K) x0 h).mp H)
noncomputable def Y54.body:Code:=(Tryz.f141.body).getD .skip
def Y54.ann:Ann:=.leaf
theorem Y54.body_eq:Tryz.f141.body=some Y54.body:=by kernel_rfl
theorem Y54.dist:noTwice (places Y54.ann Y54.body)=true:=by kernel_rfl
noncomputable def Y54.J (Q:AV→AHeap→Prop):JT:=funJ prog C Tryz.f141 Y54.ann Y54.body Q
def Y54.t (J:JT) (Q:AV→AHeap→Prop) (x0:AV) (h:AHeap):Prop:=
pNil x0 fun v0=>
pFieldAddr 0 v0 fun v1=>
C Y43.id [v1] h fun v2 h3=>
Q (AV.tu []) h3
theorem Y54.t_eq (J:JT) (Q:AV→AHeap→Prop) (x0:AV) (h:AHeap):Y54.t J Q x0 h=exJ prog C 6 J Y54.ann Y54.body (initEnv 0 [x0]) h (kFun prog Tryz.f141 Q):=by kernel_rfl
theorem Y54.callF {K:AV→AHeap→Prop} {x0:AV} {h:AHeap} (H:Y54.t (Y54.J (kRet h K)) (kRet h K) x0 h):aF prog C Y54.id [x0] h K:=
  aF_J (P:=prog) (fn:=Tryz.f141) (ann:=Y54.ann) (body:=Y54.body) Tryz.func141 Y54.body_eq (by kernel_rfl) Y54.dist (by kernel_rfl) ((Y54.t_eq (Y54.J (kRet h K)) (kRet h K) x0 h).mp H)
noncomputable def Y67.body:Code:=(Tryz.f142.body).getD .skip
def Y67.ann:Ann:=(.ord (.neu 0 (.neu 1 (.neu 2 (.neu 3 (.eff 4 (.eff 5 .done .stop) .stop))))))
theorem Y67.body_eq:Tryz.f142.body=some Y67.body:=by kernel_rfl
theorem Y67.dist:noTwice (places Y67.ann Y67.body)=true:=by kernel_rfl
noncomputable def Y67.J (Q:AV→AHeap→Prop):JT:=funJ prog C Tryz.f142 Y67.ann Y67.body Q
def Y67.t (J:JT) (Q:AV→AHeap→Prop) (x0:AV) (x1:Bool) (h:AHeap):Prop:=
pNil x0 fun v0=>
pFieldAddr 0 v0 fun v1=>
C Y73.id [(AV.b x1)] h fun v2 h3=>
asI .u32 v2 fun n4=>
C Y86.id [v1,(AV.i .u32 n4)] h3 fun v5 h6=>
Q (AV.tu []) h6
theorem Y67.t_eq (J:JT) (Q:AV→AHeap→Prop) (x0:AV) (x1:Bool) (h:AHeap):Y67.t J Q x0 x1 h=exJ prog C 10 J Y67.ann Y67.body (initEnv 0 [x0,(AV.b x1)]) h (kFun prog Tryz.f142 Q):=by kernel_rfl
theorem Y67.callF {K:AV→AHeap→Prop} {x0:AV} {x1:Bool} {h:AHeap} (H:Y67.t (Y67.J (kRet h K)) (kRet h K) x0 x1 h):aF prog C Y67.id [x0,(AV.b x1)] h K:=
  aF_J (P:=prog) (fn:=Tryz.f142) (ann:=Y67.ann) (body:=Y67.body) Tryz.func142 Y67.body_eq (by kernel_rfl) Y67.dist (by kernel_rfl) ((Y67.t_eq (Y67.J (kRet h K)) (kRet h K) x0 x1 h).mp H)
noncomputable def Y75.body:Code:=(Tryz.f151.body).getD .skip
def Y75.ann:Ann:=(.seq 0 [0] .leaf (.seq 0 [0] (.seq 0 [0,6] .leaf (.br (.seq 0 [] (.br (.seq 0 [0] .leaf .leaf) .leaf) .leaf) .leaf)) .leaf))
theorem Y75.body_eq:Tryz.f151.body=some Y75.body:=by kernel_rfl
theorem Y75.dist:noTwice (places Y75.ann Y75.body)=true:=by kernel_rfl
noncomputable def Y75.J (Q:AV→AHeap→Prop):JT:=funJ prog C Tryz.f151 Y75.ann Y75.body Q
def Y75.t (J:JT) (Q:AV→AHeap→Prop) (x0:AV) (h:AHeap):Prop:=
C Y80.id [] h fun v0 h1=>
pNil x0 fun v3=>
pFieldAddr 0 v3 fun v4=>
C Y90.id [v4,(AV.i .i32 0),(AV.i .i32 1)] h1 fun v5 h6=>
asB v5 fun c7=>
(bif c7 then
(C Y79.id [] h6 fun v9 h10=>
pUnsafe x0 h10 fun v12=>
C Y89.id [v12] h10 fun v13 h14=>
Q (AV.tu []) h14)
else
(C Y97.id [x0] h6 fun v17 h18=>
Q (AV.tu []) h18))
theorem Y75.t_eq (J:JT) (Q:AV→AHeap→Prop) (x0:AV) (h:AHeap):Y75.t J Q x0 h=exJ prog C 13 J Y75.ann Y75.body (initEnv 0 [x0]) h (kFun prog Tryz.f151 Q):=by kernel_rfl
theorem Y75.call {K:AV→AHeap→Prop} {x0:AV} {h:AHeap} (H:Y75.t (Y75.J (kRet h K)) (kRet h K) x0 h):C Y75.id [x0] h K:=
  callJ (P:=prog) (fn:=Tryz.f151) (ann:=Y75.ann) (body:=Y75.body) Tryz.func151 Y75.body_eq (by kernel_rfl) Y75.dist (by kernel_rfl) ((Y75.t_eq (Y75.J (kRet h K)) (kRet h K) x0 h).mp H)
end Go.Proofs.YtcdkpkkdolmfdaaGreatDoor
namespace Go.Proofs.YtcdkpkkdolmfdaaGreatDoor
open Go.GAM
variable [XR]
noncomputable def Y43.body:Code:=(Tryz.f152.body).getD .skip
def Y43.ann:Ann:=(.seq 0 [0] (.br (.seq 0 [0] .leaf (.seq 0 [0] .leaf .leaf)) .leaf) (.seq 0 [0,2] .leaf (.seq 1 [] (.seq 0 [0,2,16] .leaf (.br .leaf .leaf)) .leaf)))
theorem Y43.body_eq:Tryz.f152.body=some Y43.body:=by kernel_rfl
theorem Y43.dist:noTwice (places Y43.ann Y43.body)=true:=by kernel_rfl
noncomputable def Y43.J (Q:AV→AHeap→Prop):JT:=funJ prog C Tryz.f152 Y43.ann Y43.body Q
theorem Y43.goR {Q:AV→AHeap→Prop} {k:Nat} {p:List Nat} (hl:lookJ (places Y43.ann Y43.body) k=some (p,false)) {e:Env} {h:AHeap} (hk:atJ prog C 21 (Y43.J Q) false p Y43.ann Y43.body e h (kFun prog Tryz.f152 Q)):Y43.J Q k e h:=goJ_run (P:=prog) (fn:=Tryz.f152) (ann:=Y43.ann) (body:=Y43.body) (Q:=Q) (k:=k) (p:=p) (e:=e) (h:=h) (acall_le X) Y43.dist hl hk
def Y43.p0 (Q:AV→AHeap→Prop) (h:AHeap):Prop:=Y43.J Q 1 [] h
theorem Y43.j0 (Q:AV→AHeap→Prop) (h:AHeap):Y43.J Q 1 [] h=Y43.p0 Q h:=rfl
def Y43.t0 (J:JT) (Q:AV→AHeap→Prop) (h:AHeap):Prop:=
C Y79.id [] h fun v23 h24=>
Q (AV.tu []) h24
theorem Y43.t0_eq (J:JT) (Q:AV→AHeap→Prop) (h:AHeap):Y43.t0 J Q h=atJ prog C 21 J false [1,1,1] Y43.ann Y43.body [] h (kFun prog Tryz.f152 Q):=by kernel_rfl
theorem Y43.i0 {Q:AV→AHeap→Prop} {h:AHeap} (H:Y43.t0 (Y43.J Q) Q h):Y43.p0 Q h:=Y43.goR (k:=1) (p:=[1,1,1]) (by kernel_rfl) ((Y43.t0_eq (Y43.J Q) Q h).mp H)
def Y43.t (J:JT) (Q:AV→AHeap→Prop) (x0:AV) (h:AHeap):Prop:=
pNil x0 fun v0=>
pFieldAddr 0 v0 fun v1=>
pLoad1 v1 h fun v2=>
asI .i32 v2 fun n3=>
pUnsafe x0 h fun v5=>
C Y84.id [v5] h fun v6 h7=>
C Y80.id [] h7 fun v9 h10=>
pNil x0 fun v12=>
pFieldAddr 0 v12 fun v13=>
C Y91.id [v13,(AV.i .i32 (-1))] h10 fun v14 h15=>
asI .i32 v14 fun n16=>
(bif (!decide ((n16:Int)=0)) then
(C Y98.id [x0,(AV.i .i32 n16)] h15 fun v19 h20=>
J 1 [] h20)
else
(J 1 [] h15))
theorem Y43.t_eq (J:JT) (Q:AV→AHeap→Prop) (x0:AV) (h:AHeap):Y43.t J Q x0 h=exJ prog C 21 J Y43.ann Y43.body (initEnv 0 [x0]) h (kFun prog Tryz.f152 Q):=by kernel_rfl
theorem Y43.call {K:AV→AHeap→Prop} {x0:AV} {h:AHeap} (H:Y43.t (Y43.J (kRet h K)) (kRet h K) x0 h):C Y43.id [x0] h K:=
  callJ (P:=prog) (fn:=Tryz.f152) (ann:=Y43.ann) (body:=Y43.body) Tryz.func152 Y43.body_eq (by kernel_rfl) Y43.dist (by kernel_rfl) ((Y43.t_eq (Y43.J (kRet h K)) (kRet h K) x0 h).mp H)
noncomputable def Y73.body:Code:=(Tryz.f154.body).getD .skip
def Y73.ann:Ann:=(.seq 0 [0] .leaf (.seq 0 [] (.seq 0 [3] .leaf (.br (.seq 0 [2] .leaf .leaf) .leaf)) (.seq 0 [2] .leaf .leaf)))
theorem Y73.body_eq:Tryz.f154.body=some Y73.body:=by kernel_rfl
theorem Y73.dist:noTwice (places Y73.ann Y73.body)=true:=by kernel_rfl
noncomputable def Y73.J (Q:AV→AHeap→Prop):JT:=funJ prog C Tryz.f154 Y73.ann Y73.body Q
def Y73.t (J:JT) (Q:AV→AHeap→Prop) (x0:Bool) (h:AHeap):Prop:=
(bif x0 then
(Q (AV.i .u32 1) h)
else
(Q (AV.i .u32 0) h))
theorem Y73.t_eq (J:JT) (Q:AV→AHeap→Prop) (x0:Bool) (h:AHeap):Y73.t J Q x0 h=exJ prog C 4 J Y73.ann Y73.body (initEnv 0 [(AV.b x0)]) h (kFun prog Tryz.f154 Q):=by kernel_rfl
theorem Y73.call {K:AV→AHeap→Prop} {x0:Bool} {h:AHeap} (H:Y73.t (Y73.J (kRet h K)) (kRet h K) x0 h):C Y73.id [(AV.b x0)] h K:=
  callJ (P:=prog) (fn:=Tryz.f154) (ann:=Y73.ann) (body:=Y73.body) Tryz.func154 Y73.body_eq (by kernel_rfl) Y73.dist (by kernel_rfl) ((Y73.t_eq (Y73.J (kRet h K)) (kRet h K) x0 h).mp H)
noncomputable def Y1.body:Code:=(Tryz.f207.body).getD .skip
def Y1.ann:Ann:=(.seq 0 [0,1] .leaf (.seq 0 [0,1,5] .leaf (.seq 0 [0,1,5,6] .leaf (.seq 5 [0,1,5,6] (.seq 0 [0,1,5,6,26] .leaf (.br (.seq 0 [0,1,5,6,30,31,32] .leaf (.one (.loop 1 [0,1,5,6,30,31,32] (.seq 0 [0,1,5,6,30,31,32,33] .leaf (.seq 0 [0,1,5,6,30,31,32] (.br .leaf .leaf) (.seq 2 [0,1,5,6,30,31,32] (.one (.seq 0 [0,1,5,6,8,30,31,32] .leaf (.seq 0 [0,1,5,6,8,9,30,31,32] .leaf (.seq 0 [0,1,5,6,8,9,30,31,32,40] .leaf (.br (.seq 0 [0,1,5,30,31,32] (.ord (.neu 0 (.neu 1 (.neu 2 (.neu 3 (.neu 4 (.neu 5 (.neu 6 (.neu 7 (.neu 8 (.neu 9 (.neu 10 (.neu 11 (.neu 12 (.eff 13 .done .stop))))))))))))))) .leaf) .leaf))))) .leaf)))))) (.seq 0 [0,1,5,6,10] .leaf (.one (.loop 3 [0,1,5,6,10] (.seq 0 [0,1,5,6,10] (.seq 0 [0,1,5,6,10,58] .leaf (.br .leaf .leaf)) (.seq 4 [0,1,5,6,10] (.one (.seq 0 [0,1,5,6,10,11] .leaf (.seq 0 [0,1,5,6,10,11,70] .leaf (.br (.seq 0 [0,1,5,10] .leaf .leaf) .leaf)))) .leaf))))))) (.seq 0 [0,1,5] (.seq 0 [0,1,5,82] .leaf (.br (.seq 0 [4] .leaf .leaf) .leaf)) (.seq 0 [0,1,12] .leaf (.seq 0 [0,1,12,13] .leaf (.seq 0 [12] (.seq 0 [0,1,12,13,14] .leaf (.one (.loop 6 [0,1,12,13,14] (.seq 0 [0,1,12,13,14] (.seq 0 [0,1,12,13,14,89] .leaf (.br .leaf .leaf)) (.seq 7 [0,1,12,13,14] (.one (.seq 0 [0,1,12,13,14,15] .leaf (.seq 0 [0,1,12,13,14,15,101] .leaf (.br (.ord (.neu 0 (.neu 1 (.neu 2 (.neu 3 (.neu 4 (.neu 5 (.neu 6 (.neu 7 (.neu 8 (.neu 9 (.eff 10 (.neu 11 (.eff 12 .done .stop)) .stop)))))))))))) (.seq 0 [0,1,12,13,14] .leaf .leaf))))) .leaf))))) (.seq 0 [4] .leaf .leaf)))))))))
theorem Y1.body_eq:Tryz.f207.body=some Y1.body:=by kernel_rfl
theorem Y1.dist:noTwice (places Y1.ann Y1.body)=true:=by kernel_rfl
noncomputable def Y1.J (Q:AV→AHeap→Prop):JT:=funJ prog C Tryz.f207 Y1.ann Y1.body Q
theorem Y1.goR {Q:AV→AHeap→Prop} {k:Nat} {p:List Nat} (hl:lookJ (places Y1.ann Y1.body) k=some (p,false)) {e:Env} {h:AHeap} (hk:atJ prog C 122 (Y1.J Q) false p Y1.ann Y1.body e h (kFun prog Tryz.f207 Q)):Y1.J Q k e h:=goJ_run (P:=prog) (fn:=Tryz.f207) (ann:=Y1.ann) (body:=Y1.body) (Q:=Q) (k:=k) (p:=p) (e:=e) (h:=h) (acall_le X) Y1.dist hl hk
theorem Y1.goH {Q:AV→AHeap→Prop} {k:Nat} {p:List Nat} (hl:lookJ (places Y1.ann Y1.body) k=some (p,true)) {e:Env} {h:AHeap} (hk:atJ prog C 122 (Y1.J Q) true p Y1.ann Y1.body e h (kFun prog Tryz.f207 Q)):Y1.J Q k e h:=goJ_head (P:=prog) (fn:=Tryz.f207) (ann:=Y1.ann) (body:=Y1.body) (Q:=Q) (k:=k) (p:=p) (e:=e) (h:=h) (acall_le X) Y1.dist hl hk
def Y1.p1 (Q:AV→AHeap→Prop) (x0:AV) (x1:List UInt8) (x5:Int) (x6:Bool) (x30:AV) (x31:Int) (x32:Int) (h:AHeap):Prop:=Y1.J Q 2 [(0,x0),(1,(AV.s x1)),(5,(AV.i .i64 x5)),(6,(AV.b x6)),(30,x30),(31,(AV.i .i64 x31)),(32,(AV.i .i64 x32))] h
theorem Y1.j1 (Q:AV→AHeap→Prop) (x0:AV) (x1:List UInt8) (x5:Int) (x6:Bool) (x30:AV) (x31:Int) (x32:Int) (h:AHeap):Y1.J Q 2 [(0,x0),(1,(AV.s x1)),(5,(AV.i .i64 x5)),(6,(AV.b x6)),(30,x30),(31,(AV.i .i64 x31)),(32,(AV.i .i64 x32))] h=Y1.p1 Q x0 x1 x5 x6 x30 x31 x32 h:=rfl
def Y1.p0 (Q:AV→AHeap→Prop) (x0:AV) (x1:List UInt8) (x5:Int) (x6:Bool) (x30:AV) (x31:Int) (x32:Int) (h:AHeap):Prop:=Y1.J Q 1 [(0,x0),(1,(AV.s x1)),(5,(AV.i .i64 x5)),(6,(AV.b x6)),(30,x30),(31,(AV.i .i64 x31)),(32,(AV.i .i64 x32))] h
theorem Y1.j0 (Q:AV→AHeap→Prop) (x0:AV) (x1:List UInt8) (x5:Int) (x6:Bool) (x30:AV) (x31:Int) (x32:Int) (h:AHeap):Y1.J Q 1 [(0,x0),(1,(AV.s x1)),(5,(AV.i .i64 x5)),(6,(AV.b x6)),(30,x30),(31,(AV.i .i64 x31)),(32,(AV.i .i64 x32))] h=Y1.p0 Q x0 x1 x5 x6 x30 x31 x32 h:=rfl
def Y1.p3 (Q:AV→AHeap→Prop) (x0:AV) (x1:List UInt8) (x5:Int) (x6:Bool) (x10:Int) (h:AHeap):Prop:=Y1.J Q 4 [(0,x0),(1,(AV.s x1)),(5,(AV.i .i64 x5)),(6,(AV.b x6)),(10,(AV.i .i64 x10))] h
theorem Y1.j3 (Q:AV→AHeap→Prop) (x0:AV) (x1:List UInt8) (x5:Int) (x6:Bool) (x10:Int) (h:AHeap):Y1.J Q 4 [(0,x0),(1,(AV.s x1)),(5,(AV.i .i64 x5)),(6,(AV.b x6)),(10,(AV.i .i64 x10))] h=Y1.p3 Q x0 x1 x5 x6 x10 h:=rfl
def Y1.p2 (Q:AV→AHeap→Prop) (x0:AV) (x1:List UInt8) (x5:Int) (x6:Bool) (x10:Int) (h:AHeap):Prop:=Y1.J Q 3 [(0,x0),(1,(AV.s x1)),(5,(AV.i .i64 x5)),(6,(AV.b x6)),(10,(AV.i .i64 x10))] h
theorem Y1.j2 (Q:AV→AHeap→Prop) (x0:AV) (x1:List UInt8) (x5:Int) (x6:Bool) (x10:Int) (h:AHeap):Y1.J Q 3 [(0,x0),(1,(AV.s x1)),(5,(AV.i .i64 x5)),(6,(AV.b x6)),(10,(AV.i .i64 x10))] h=Y1.p2 Q x0 x1 x5 x6 x10 h:=rfl
def Y1.p6 (Q:AV→AHeap→Prop) (x0:AV) (x1:List UInt8) (x12:AV) (x13:Int) (x14:Int) (h:AHeap):Prop:=Y1.J Q 7 [(0,x0),(1,(AV.s x1)),(12,x12),(13,(AV.i .i64 x13)),(14,(AV.i .i64 x14))] h
theorem Y1.j6 (Q:AV→AHeap→Prop) (x0:AV) (x1:List UInt8) (x12:AV) (x13:Int) (x14:Int) (h:AHeap):Y1.J Q 7 [(0,x0),(1,(AV.s x1)),(12,x12),(13,(AV.i .i64 x13)),(14,(AV.i .i64 x14))] h=Y1.p6 Q x0 x1 x12 x13 x14 h:=rfl
def Y1.p5 (Q:AV→AHeap→Prop) (x0:AV) (x1:List UInt8) (x12:AV) (x13:Int) (x14:Int) (h:AHeap):Prop:=Y1.J Q 6 [(0,x0),(1,(AV.s x1)),(12,x12),(13,(AV.i .i64 x13)),(14,(AV.i .i64 x14))] h
theorem Y1.j5 (Q:AV→AHeap→Prop) (x0:AV) (x1:List UInt8) (x12:AV) (x13:Int) (x14:Int) (h:AHeap):Y1.J Q 6 [(0,x0),(1,(AV.s x1)),(12,x12),(13,(AV.i .i64 x13)),(14,(AV.i .i64 x14))] h=Y1.p5 Q x0 x1 x12 x13 x14 h:=rfl
def Y1.p4 (Q:AV→AHeap→Prop) (x0:AV) (x1:List UInt8) (x5:Int) (x6:Bool) (h:AHeap):Prop:=Y1.J Q 5 [(0,x0),(1,(AV.s x1)),(5,(AV.i .i64 x5)),(6,(AV.b x6))] h
theorem Y1.j4 (Q:AV→AHeap→Prop) (x0:AV) (x1:List UInt8) (x5:Int) (x6:Bool) (h:AHeap):Y1.J Q 5 [(0,x0),(1,(AV.s x1)),(5,(AV.i .i64 x5)),(6,(AV.b x6))] h=Y1.p4 Q x0 x1 x5 x6 h:=rfl
def Y1.t1 (J:JT) (Q:AV→AHeap→Prop) (x0:AV) (x1:List UInt8) (x5:Int) (x6:Bool) (x30:AV) (x31:Int) (x32:Int) (h:AHeap):Prop:=
withI (IntKind.wrap .i64 (x32+1)) fun n38=>
J 1 [(0,x0),(1,(AV.s x1)),(5,(AV.i .i64 x5)),(6,(AV.b x6)),(30,x30),(31,(AV.i .i64 x31)),(32,(AV.i .i64 n38))] h
theorem Y1.t1_eq (J:JT) (Q:AV→AHeap→Prop) (x0:AV) (x1:List UInt8) (x5:Int) (x6:Bool) (x30:AV) (x31:Int) (x32:Int) (h:AHeap):Y1.t1 J Q x0 x1 x5 x6 x30 x31 x32 h=atJ prog C 122 J false [1,1,1,0,1,0,1,0,0,1,1,1] Y1.ann Y1.body [(0,x0),(1,(AV.s x1)),(5,(AV.i .i64 x5)),(6,(AV.b x6)),(30,x30),(31,(AV.i .i64 x31)),(32,(AV.i .i64 x32))] h (kFun prog Tryz.f207 Q):=by kernel_rfl
theorem Y1.i1 {Q:AV→AHeap→Prop} {x0:AV} {x1:List UInt8} {x5:Int} {x6:Bool} {x30:AV} {x31:Int} {x32:Int} {h:AHeap} (H:Y1.t1 (Y1.J Q) Q x0 x1 x5 x6 x30 x31 x32 h):Y1.p1 Q x0 x1 x5 x6 x30 x31 x32 h:=Y1.goR (k:=2) (p:=[1,1,1,0,1,0,1,0,0,1,1,1]) (by kernel_rfl) ((Y1.t1_eq (Y1.J Q) Q x0 x1 x5 x6 x30 x31 x32 h).mp H)
def Y1.t0 (J:JT) (Q:AV→AHeap→Prop) (x0:AV) (x1:List UInt8) (x5:Int) (x6:Bool) (x30:AV) (x31:Int) (x32:Int) (h:AHeap):Prop:=
(bif (decide ((x32:Int)<x31)) then
(pIdxAddrSl 1 x30 (AV.i .i64 x32) h fun v17=>
pLoad1 v17 h fun v18=>
asS v18 fun l19=>
C Y47.id [(AV.s x1),(AV.s l19)] h fun v21 h22=>
asI .i64 v21 fun n23=>
(bif (!decide ((n23:Int)=0)) then
(pIdxStr (AV.s l19) (AV.i .i64 0) fun n26=>
pNil x0 fun v27=>
pFieldAddr 0 v27 fun v28=>
pIdxAddrArr 256 1 v28 (AV.i .u8 n26) fun v29=>
pLoad1 v29 h22 fun v30=>
pLenSl v30 fun n31=>
withI (IntKind.wrap .i64 (n31 - 1)) fun n32=>
withI (IntKind.wrap .i64 (n23 * n32)) fun n33=>
withI (IntKind.wrap .i64 (x5+n33)) fun n34=>
J 2 [(0,x0),(1,(AV.s x1)),(5,(AV.i .i64 n34)),(6,(AV.b true)),(30,x30),(31,(AV.i .i64 x31)),(32,(AV.i .i64 x32))] h22)
else
(J 2 [(0,x0),(1,(AV.s x1)),(5,(AV.i .i64 x5)),(6,(AV.b x6)),(30,x30),(31,(AV.i .i64 x31)),(32,(AV.i .i64 x32))] h22)))
else
(J 5 [(0,x0),(1,(AV.s x1)),(5,(AV.i .i64 x5)),(6,(AV.b x6))] h))
theorem Y1.t0_eq (J:JT) (Q:AV→AHeap→Prop) (x0:AV) (x1:List UInt8) (x5:Int) (x6:Bool) (x30:AV) (x31:Int) (x32:Int) (h:AHeap):Y1.t0 J Q x0 x1 x5 x6 x30 x31 x32 h=atJ prog C 122 J true [1,1,1,0,1,0,1,0] Y1.ann Y1.body [(0,x0),(1,(AV.s x1)),(5,(AV.i .i64 x5)),(6,(AV.b x6)),(30,x30),(31,(AV.i .i64 x31)),(32,(AV.i .i64 x32))] h (kFun prog Tryz.f207 Q):=by kernel_rfl
theorem Y1.i0 {Q:AV→AHeap→Prop} {x0:AV} {x1:List UInt8} {x5:Int} {x6:Bool} {x30:AV} {x31:Int} {x32:Int} {h:AHeap} (H:Y1.t0 (Y1.J Q) Q x0 x1 x5 x6 x30 x31 x32 h):Y1.p0 Q x0 x1 x5 x6 x30 x31 x32 h:=Y1.goH (k:=1) (p:=[1,1,1,0,1,0,1,0]) (by kernel_rfl) ((Y1.t0_eq (Y1.J Q) Q x0 x1 x5 x6 x30 x31 x32 h).mp H)
def Y1.t3 (J:JT) (Q:AV→AHeap→Prop) (x0:AV) (x1:List UInt8) (x5:Int) (x6:Bool) (x10:Int) (h:AHeap):Prop:=
withI (IntKind.wrap .i64 (x10+1)) fun n63=>
J 3 [(0,x0),(1,(AV.s x1)),(5,(AV.i .i64 x5)),(6,(AV.b x6)),(10,(AV.i .i64 n63))] h
theorem Y1.t3_eq (J:JT) (Q:AV→AHeap→Prop) (x0:AV) (x1:List UInt8) (x5:Int) (x6:Bool) (x10:Int) (h:AHeap):Y1.t3 J Q x0 x1 x5 x6 x10 h=atJ prog C 122 J false [1,1,1,0,1,1,1,0,0,1,1] Y1.ann Y1.body [(0,x0),(1,(AV.s x1)),(5,(AV.i .i64 x5)),(6,(AV.b x6)),(10,(AV.i .i64 x10))] h (kFun prog Tryz.f207 Q):=by kernel_rfl
theorem Y1.i3 {Q:AV→AHeap→Prop} {x0:AV} {x1:List UInt8} {x5:Int} {x6:Bool} {x10:Int} {h:AHeap} (H:Y1.t3 (Y1.J Q) Q x0 x1 x5 x6 x10 h):Y1.p3 Q x0 x1 x5 x6 x10 h:=Y1.goR (k:=4) (p:=[1,1,1,0,1,1,1,0,0,1,1]) (by kernel_rfl) ((Y1.t3_eq (Y1.J Q) Q x0 x1 x5 x6 x10 h).mp H)
def Y1.t2 (J:JT) (Q:AV→AHeap→Prop) (x0:AV) (x1:List UInt8) (x5:Int) (x6:Bool) (x10:Int) (h:AHeap):Prop:=
(bif (decide ((x10:Int)<(x1.length:Int))) then
(pIdxStr (AV.s x1) (AV.i .i64 x10) fun n44=>
pNil x0 fun v46=>
pFieldAddr 0 v46 fun v47=>
pIdxAddrArr 256 1 v47 (AV.i .u8 n44) fun v48=>
pLoad1 v48 h fun v49=>
pBin prog .neq 91 v49 (AV.sl none 0 none) fun v50=>
asB v50 fun c51=>
(bif c51 then
(pNil x0 fun v53=>
pFieldAddr 0 v53 fun v54=>
pIdxAddrArr 256 1 v54 (AV.i .u8 n44) fun v55=>
pLoad1 v55 h fun v56=>
pLenSl v56 fun n57=>
withI (IntKind.wrap .i64 (n57 - 1)) fun n58=>
withI (IntKind.wrap .i64 (x5+n58)) fun n59=>
J 4 [(0,x0),(1,(AV.s x1)),(5,(AV.i .i64 n59)),(6,(AV.b true)),(10,(AV.i .i64 x10))] h)
else
(J 4 [(0,x0),(1,(AV.s x1)),(5,(AV.i .i64 x5)),(6,(AV.b x6)),(10,(AV.i .i64 x10))] h)))
else
(J 5 [(0,x0),(1,(AV.s x1)),(5,(AV.i .i64 x5)),(6,(AV.b x6))] h))
theorem Y1.t2_eq (J:JT) (Q:AV→AHeap→Prop) (x0:AV) (x1:List UInt8) (x5:Int) (x6:Bool) (x10:Int) (h:AHeap):Y1.t2 J Q x0 x1 x5 x6 x10 h=atJ prog C 122 J true [1,1,1,0,1,1,1,0] Y1.ann Y1.body [(0,x0),(1,(AV.s x1)),(5,(AV.i .i64 x5)),(6,(AV.b x6)),(10,(AV.i .i64 x10))] h (kFun prog Tryz.f207 Q):=by kernel_rfl
theorem Y1.i2 {Q:AV→AHeap→Prop} {x0:AV} {x1:List UInt8} {x5:Int} {x6:Bool} {x10:Int} {h:AHeap} (H:Y1.t2 (Y1.J Q) Q x0 x1 x5 x6 x10 h):Y1.p2 Q x0 x1 x5 x6 x10 h:=Y1.goH (k:=3) (p:=[1,1,1,0,1,1,1,0]) (by kernel_rfl) ((Y1.t2_eq (Y1.J Q) Q x0 x1 x5 x6 x10 h).mp H)
def Y1.t6 (J:JT) (Q:AV→AHeap→Prop) (x0:AV) (x1:List UInt8) (x12:AV) (x13:Int) (x14:Int) (h:AHeap):Prop:=
withI (IntKind.wrap .i64 (x14+1)) fun n100=>
J 6 [(0,x0),(1,(AV.s x1)),(12,x12),(13,(AV.i .i64 x13)),(14,(AV.i .i64 n100))] h
theorem Y1.t6_eq (J:JT) (Q:AV→AHeap→Prop) (x0:AV) (x1:List UInt8) (x12:AV) (x13:Int) (x14:Int) (h:AHeap):Y1.t6 J Q x0 x1 x12 x13 x14 h=atJ prog C 122 J false [1,1,1,1,1,1,1,0,1,0,0,1,1] Y1.ann Y1.body [(0,x0),(1,(AV.s x1)),(12,x12),(13,(AV.i .i64 x13)),(14,(AV.i .i64 x14))] h (kFun prog Tryz.f207 Q):=by kernel_rfl
theorem Y1.i6 {Q:AV→AHeap→Prop} {x0:AV} {x1:List UInt8} {x12:AV} {x13:Int} {x14:Int} {h:AHeap} (H:Y1.t6 (Y1.J Q) Q x0 x1 x12 x13 x14 h):Y1.p6 Q x0 x1 x12 x13 x14 h:=Y1.goR (k:=7) (p:=[1,1,1,1,1,1,1,0,1,0,0,1,1]) (by kernel_rfl) ((Y1.t6_eq (Y1.J Q) Q x0 x1 x12 x13 x14 h).mp H)
def Y1.t5 (J:JT) (Q:AV→AHeap→Prop) (x0:AV) (x1:List UInt8) (x12:AV) (x13:Int) (x14:Int) (h:AHeap):Prop:=
(bif (decide ((x14:Int)<(x1.length:Int))) then
(pIdxStr (AV.s x1) (AV.i .i64 x14) fun n76=>
pNil x0 fun v78=>
pFieldAddr 0 v78 fun v79=>
pIdxAddrArr 256 1 v79 (AV.i .u8 n76) fun v80=>
pLoad1 v80 h fun v81=>
pBin prog .neq 91 v81 (AV.sl none 0 none) fun v82=>
asB v82 fun c83=>
(bif c83 then
(pSliceSl 1 x12 (some (AV.i .i64 x13)) none none h fun v85=>
pNil x0 fun v86=>
pFieldAddr 0 v86 fun v87=>
pIdxAddrArr 256 1 v87 (AV.i .u8 n76) fun v88=>
pLoad1 v88 h fun v89=>
pCopy 1 v85 v89 h fun v90 h91=>
asI .i64 v90 fun n92=>
withI (IntKind.wrap .i64 (x13+n92)) fun n93=>
J 7 [(0,x0),(1,(AV.s x1)),(12,x12),(13,(AV.i .i64 n93)),(14,(AV.i .i64 x14))] h91)
else
(pIdxAddrSl 1 x12 (AV.i .i64 x13) h fun v95=>
pStore 1 v95 (AV.i .u8 n76) h fun h96=>
withI (IntKind.wrap .i64 (x13+1)) fun n98=>
J 7 [(0,x0),(1,(AV.s x1)),(12,x12),(13,(AV.i .i64 n98)),(14,(AV.i .i64 x14))] h96)))
else
(pBytesStr x12 h fun l102=>
Q (AV.s l102) h))
theorem Y1.t5_eq (J:JT) (Q:AV→AHeap→Prop) (x0:AV) (x1:List UInt8) (x12:AV) (x13:Int) (x14:Int) (h:AHeap):Y1.t5 J Q x0 x1 x12 x13 x14 h=atJ prog C 122 J true [1,1,1,1,1,1,1,0,1,0] Y1.ann Y1.body [(0,x0),(1,(AV.s x1)),(12,x12),(13,(AV.i .i64 x13)),(14,(AV.i .i64 x14))] h (kFun prog Tryz.f207 Q):=by kernel_rfl
theorem Y1.i5 {Q:AV→AHeap→Prop} {x0:AV} {x1:List UInt8} {x12:AV} {x13:Int} {x14:Int} {h:AHeap} (H:Y1.t5 (Y1.J Q) Q x0 x1 x12 x13 x14 h):Y1.p5 Q x0 x1 x12 x13 x14 h:=Y1.goH (k:=6) (p:=[1,1,1,1,1,1,1,0,1,0]) (by kernel_rfl) ((Y1.t5_eq (Y1.J Q) Q x0 x1 x12 x13 x14 h).mp H)
def Y1.t4 (J:JT) (Q:AV→AHeap→Prop) (x0:AV) (x1:List UInt8) (x5:Int) (x6:Bool) (h:AHeap):Prop:=
(bif (!x6) then
(Q (AV.s x1) h)
else
(pMake 1 1 [(AV.i .u8 0)] (AV.i .i64 x5) (AV.i .i64 x5) h fun v68 h69=>
J 6 [(0,x0),(1,(AV.s x1)),(12,v68),(13,(AV.i .i64 0)),(14,(AV.i .i64 0))] h69))
theorem Y1.t4_eq (J:JT) (Q:AV→AHeap→Prop) (x0:AV) (x1:List UInt8) (x5:Int) (x6:Bool) (h:AHeap):Y1.t4 J Q x0 x1 x5 x6 h=atJ prog C 122 J false [1,1,1,1] Y1.ann Y1.body [(0,x0),(1,(AV.s x1)),(5,(AV.i .i64 x5)),(6,(AV.b x6))] h (kFun prog Tryz.f207 Q):=by kernel_rfl
theorem Y1.i4 {Q:AV→AHeap→Prop} {x0:AV} {x1:List UInt8} {x5:Int} {x6:Bool} {h:AHeap} (H:Y1.t4 (Y1.J Q) Q x0 x1 x5 x6 h):Y1.p4 Q x0 x1 x5 x6 h:=Y1.goR (k:=5) (p:=[1,1,1,1]) (by kernel_rfl) ((Y1.t4_eq (Y1.J Q) Q x0 x1 x5 x6 h).mp H)
def Y1.t (J:JT) (Q:AV→AHeap→Prop) (x0:AV) (x1:List UInt8) (h:AHeap):Prop:=
pNil x0 fun v3=>
pFieldAddr 256 v3 fun v4=>
pLoad1 v4 h fun v5=>
pLenSl v5 fun n6=>
withI (IntKind.wrap .i64 (n6 * 8)) fun n7=>
(bif (decide ((n7:Int)≤(x1.length:Int))) then
(pNil x0 fun v9=>
pFieldAddr 256 v9 fun v10=>
pLoad1 v10 h fun v11=>
pLenSl v11 fun n12=>
J 1 [(0,x0),(1,(AV.s x1)),(5,(AV.i .i64 (x1.length:Int))),(6,(AV.b false)),(30,v11),(31,(AV.i .i64 n12)),(32,(AV.i .i64 0))] h)
else
(J 3 [(0,x0),(1,(AV.s x1)),(5,(AV.i .i64 (x1.length:Int))),(6,(AV.b false)),(10,(AV.i .i64 0))] h))
theorem Y1.t_eq (J:JT) (Q:AV→AHeap→Prop) (x0:AV) (x1:List UInt8) (h:AHeap):Y1.t J Q x0 x1 h=exJ prog C 122 J Y1.ann Y1.body (initEnv 0 [x0,(AV.s x1)]) h (kFun prog Tryz.f207 Q):=by kernel_rfl
theorem Y1.call {K:AV→AHeap→Prop} {x0:AV} {x1:List UInt8} {h:AHeap} (H:Y1.t (Y1.J (kRet h K)) (kRet h K) x0 x1 h):C Y1.id [x0,(AV.s x1)] h K:=
  callJ (P:=prog) (fn:=Tryz.f207) (ann:=Y1.ann) (body:=Y1.body) Tryz.func207 Y1.body_eq (by kernel_rfl) Y1.dist (by kernel_rfl) ((Y1.t_eq (Y1.J (kRet h K)) (kRet h K) x0 x1 h).mp H)
end Go.Proofs.YtcdkpkkdolmfdaaGreatDoor
set_option linter.unusedSimpArgs false
namespace Go.GAM
variable {ty:Option TypeId}
def Ext (h0 h:AHeap):Prop:=h0.length≤h.length∧∀ id,id<h0.length→h[id]? = h0[id]?
theorem Ext.trans {h1 h2 h3:AHeap} (a:Ext h1 h2) (b:Ext h2 h3):Ext h1 h3:=⟨Nat.le_trans a.1 b.1,fun id hi=>(b.2 id (Nat.lt_of_lt_of_le hi a.1)).trans (a.2 id hi)⟩
theorem Ext.take {h0 h:AHeap} (a:Ext h0 h):h.take h0.length=h0:=by
  apply List.ext_getElem?
  intro i
  rw [List.getElem?_take]
  by_cases hi:i<h0.length
  · rw [if_pos hi,a.2 i hi]
  · rw [if_neg hi,List.getElem?_eq_none (Nat.le_of_not_lt hi)]
def clean1:AV→Bool
  | .b _ | .i _ _ | .s _ | .p none | .sl none _ _ | .nf | .ni=>true
  | _=>false
def clean:AV→Bool
  | .ag cs | .tu cs=>cs.all clean1
  | v=>clean1 v
theorem clean1_ren {n:Nat} {v:AV} (h:clean1 v=true):ren1 n [] v=v∧ok1 n [] v=true:=by
  unfold clean1 at h
  split at h <;> first | exact ⟨rfl,rfl⟩ | cases h
theorem clean_ren {n:Nat} {v:AV} (h:clean v=true):ren n [] v=v∧okR n [] v=true:=by
  have hl:∀ cs:List AV,cs.all clean1=true→cs.map (ren1 n [])=cs∧cs.all (ok1 n [])=true:=by
    intro cs
    induction cs with
    | nil=>exact fun _=>⟨rfl,rfl⟩
    | cons c cs ih =>
      intro hc
      simp only [List.all_cons,Bool.and_eq_true] at hc
      obtain ⟨h1,h2⟩:=ih hc.2
      obtain ⟨h3,h4⟩:=clean1_ren (n:=n) hc.1
      simp [h1,h2,h3,h4]
  unfold clean at h
  split at h
  · rename_i cs; obtain ⟨h1,h2⟩:=hl cs h; exact ⟨by simp [ren,h1],by simpa [okR] using h2⟩
  · rename_i cs; obtain ⟨h1,h2⟩:=hl cs h; exact ⟨by simp [ren,h1],by simpa [okR] using h2⟩
  · rename_i h1 h2
    obtain ⟨h3,h4⟩:=clean1_ren (n:=n) h
    constructor
    · unfold ren; split
      · exact absurd rfl (h1 _)
      · exact absurd rfl (h2 _)
      · exact h3
    · unfold okR; split
      · exact absurd rfl (h1 _)
      · exact absurd rfl (h2 _)
      · exact h4
theorem kRet_pure {h0 h:AHeap} {K:AV→AHeap→Prop} {r:AV} (hp:clean r=true) (hE:Ext h0 h) (hk:K r h0):kRet h0 K r h:=by
  obtain ⟨h1,h2⟩:=clean_ren (n:=h0.length) hp
  refine .inr ⟨[],List.nodup_nil,h2,by simp,fun id hi=>.inl (hE.2 id hi),hE.1, ?_⟩
  rw [h1,hE.take]
  simpa using hk
theorem byteAV_isByte (l:List UInt8):(l.map byteAV).all isByte=true:=by
  rw [List.all_eq_true]; intro x hx; simp only [List.mem_map] at hx; obtain ⟨c,_,rfl⟩:=hx; rfl
theorem toByte_byteAV (c:UInt8):toByte (byteAV c)=c:=by simp [toByte,byteAV]
theorem toBytes_map (l:List UInt8):(l.map byteAV).map toByte=l:=by
  rw [List.map_map]
  have:toByte ∘ byteAV=id:=by funext c; exact toByte_byteAV c
  rw [this,List.map_id]
theorem wrap_i64 {n:Int} (h0 : -9223372036854775808≤n) (h1:n<9223372036854775808):IntKind.wrap .i64 n=n:=by
  have e1:(2:Int) ^ 64=18446744073709551616:=by decide
  have e2:(2:Int) ^ (64 - 1)=9223372036854775808:=by decide
  simp only [IntKind.wrap,IntKind.bits,IntKind.signed,Bool.true_and,decide_eq_true_eq,e1,e2]
  split <;> omega
theorem wrap_u8 {n:Int} (h0:0≤n) (h1:n<256):IntKind.wrap .u8 n=n:=by
  simp only [IntKind.wrap,IntKind.bits,IntKind.signed,Bool.false_and,Bool.false_eq_true,if_false]
  omega
theorem getD_some {α:Type} {l:List α} {i:Nat} {c d:α} (hc:l[i]? = some c):l.getD i d=c:=by
  rw [List.getD_eq_getElem?_getD,hc] <;> rfl
theorem idxStr {l:List UInt8} {k:IntKind} {i:Nat} {c:UInt8} {K:Int→Prop} (hc:l[i]? = some c) (hk:K (c.toNat:Int)):pIdxStr (.s l) (.i k (i:Int)) K:=by
  obtain ⟨hlt,_⟩:=List.getElem?_eq_some_iff.1 hc
  refine ⟨by omega,by simpa using hlt, ?_⟩
  rw [Int.toNat_natCast,getD_some hc]
  exact hk
theorem bif_t {c:Bool} {A B:Prop} (hc:c=true) (h:A):(bif c then A else B):=by rw [hc]; exact h
theorem bif_f {c:Bool} {A B:Prop} (hc:c=false) (h:B):(bif c then A else B):=by rw [hc]; exact h
theorem bif_both {c:Bool} {A B:Prop} (h1:c=true→A) (h2:c=false→B):(bif c then A else B):=by
  cases c
  · exact h2 rfl
  · exact h1 rfl
theorem withI_is {e n:Int} {K:Int→Prop} (h:e=n) (hk:K n):withI e K:=by subst h; exact hk
theorem withB_is {e n:Bool} {K:Bool→Prop} (h:e=n) (hk:K n):withB e K:=by subst h; exact hk
end Go.GAM
namespace Go.GAM
section
variable {P:Program}
end
end Go.GAM
namespace Go.GAM
variable {ty:Option TypeId}
def Upd (M:Nat→Prop) (h h':AHeap):Prop:=h.length≤h'.length∧∀ i,i<h.length→¬ M i→h'[i]? = h[i]?
theorem Upd.refl (M:Nat→Prop) (h:AHeap):Upd M h h:=⟨Nat.le_refl _,fun _ _ _=>rfl⟩
theorem Upd.trans {M M':Nat→Prop} {h h1 h2:AHeap} (a:Upd M h h1) (b:Upd M' h1 h2) (hM:∀ i,i<h.length→M' i→M i):Upd M h h2:=
  ⟨Nat.le_trans a.1 b.1,fun i hi hn=>(b.2 i (Nat.lt_of_lt_of_le hi a.1) fun hm=>hn (hM i hi hm)).trans (a.2 i hi hn)⟩
theorem Upd.mono {M M':Nat→Prop} {h h1:AHeap} (a:Upd M h h1) (hM:∀ i,i<h.length→M i→M' i):Upd M' h h1:=
  ⟨a.1,fun i hi hn=>a.2 i hi fun hm=>hn (hM i hi hm)⟩
theorem Upd.app (h s:AHeap):Upd (fun _=>False) h (h++s):=⟨by simp,fun i hi _=>by rw [List.getElem?_append_left hi]⟩
theorem Upd.set (h:AHeap) (id:Nat) (b:ABlk):Upd (· = id) h (h.set id b):=⟨by simp,fun i hi hn=>by rw [List.getElem?_set_ne (fun e=>hn e.symm)]⟩
theorem lt_of_some {α:Type} {l:List α} {i:Nat} {a:α} (h:l[i]? = some a):i<l.length:=(List.getElem?_eq_some_iff.1 h).1
def RecAt (h:AHeap) (id:Nat) (cs:List AV):Prop:=∃ b:ABlk,h[id]? = some b∧b.cells=cs∧b.floor≤cs.length∧b.ro=false
theorem RecAt.lt {h:AHeap} {id:Nat} {cs:List AV} (R:RecAt h id cs):id<h.length:=by obtain ⟨b,h1,_⟩:=R; exact lt_of_some h1
theorem RecAt.upd {M:Nat→Prop} {h h':AHeap} {id:Nat} {cs:List AV} (R:RecAt h id cs) (U:Upd M h h') (hM:¬ M id):RecAt h' id cs:=by
  have hl:=R.lt
  obtain ⟨b,h1,h2⟩:=R
  exact ⟨b,(U.2 id hl hM).trans h1,h2⟩
theorem st_nil {a:AA} {K:AV→Prop} (hk:K (.p (some a))):pNil (.p (some a)) K:=hk
theorem st_fld {id ver off o:Nat} {K:AV→Prop} (hk:K (.p (some ⟨id,ver,off+o⟩))):pFieldAddr o (.p (some ⟨id,ver,off⟩)) K:=hk
theorem st_quo {k:IntKind} {a b n:Int} {K:Int→Prop} (hb:b≠0) (hn:k.wrap (a.tdiv b)=n) (hk:K n):pQuo k a b K:=by subst hn; exact ⟨hb,hk⟩
theorem st_rem {a b n:Int} {K:Int→Prop} (hb:b≠0) (hn:a.tmod b=n) (hk:K n):pRem a b K:=by subst hn; exact ⟨hb,hk⟩
theorem st_load {h:AHeap} {id n o:Nat} {cs:List AV} {v:AV} {K:AV→Prop} (R:RecAt h id cs) (hn:n=cs.length) (hc:cs[o]? = some v) (hk:K v):pLoad1 (.p (some ⟨id,n,o⟩)) h K:=by
  obtain ⟨b,h1,rfl,h3,h4⟩:=R
  subst hn
  have:=lt_of_some hc
  refine ⟨b,h1,⟨h3,Nat.le_refl _,this⟩, ?_⟩
  show K (b.cells.getD o .u)
  rw [getD_some hc]; exact hk
theorem st_store {h:AHeap} {id n o:Nat} {cs:List AV} {v:AV} {K:AHeap→Prop} (R:RecAt h id cs) (hn:n=cs.length) (ho:o<cs.length) (hv:v.parts=[v]:=by rfl) (hs:v.sizeOK=true:=by rfl) (hc:v.cellOK=true:=by rfl)
    (hk:∀ h',h'.length=h.length→Upd (· = id) h h'→RecAt h' id (cs.set o v)→K h'):pStore 1 (.p (some ⟨id,n,o⟩)) v h K:=by
  have hl:=R.lt
  obtain ⟨b,h1,rfl,h3,h4⟩:=R
  subst hn
  refine ⟨b,h1,h4,h3,rfl,(by show o+1≤b.cells.length; omega),hs,by rw [hv] <;> rfl,by rw [hv]; simp [hc], ?_⟩
  refine hk _ (by simp) (Upd.set _ _ _) ⟨_,List.getElem?_set_self hl, ?_, ?_,h4⟩
  · rw [hv] <;> rfl
  · simp
theorem st_alloc {cells:List AV} {h:AHeap} {K:AV→AHeap→Prop} (hk:∀ h',h'.length=h.length+1→Upd (fun _=>False) h h'→RecAt h' h.length cells→K (.p (some ⟨h.length,cells.length,0⟩)) h'):pAlloc ty cells h K:=
  hk _ (by simp) (Upd.app _ _) ⟨newBlk cells 1 true ty,by simp,rfl,Nat.le_refl _,rfl⟩
theorem st_box {x:AV} {h:AHeap} {K:AV→AHeap→Prop} (hs:x.sizeOK=true:=by rfl) (hk:∀ h',h'.length=h.length+1→Upd (fun _=>False) h h'→RecAt h' h.length x.parts→K (.p (some ⟨h.length,x.parts.length,0⟩)) h'):pBox ty x h K:=
  ⟨hs,hk _ (by simp) (Upd.app _ _) ⟨newBlk x.parts 1 true ty,by simp,rfl,Nat.le_refl _,rfl⟩⟩
theorem st_asI64 {n:Int} {K:Int→Prop} (hk:K n):asI .i64 (.i .i64 n) K:=hk
theorem st_asI {k:IntKind} {n:Int} {K:Int→Prop} (hk:K n):asI k (.i k n) K:=by cases k <;> exact hk
theorem st_asB {n:Bool} {K:Bool→Prop} (hk:K n):asB (.b n) K:=hk
theorem st_asS {n:List UInt8} {K:List UInt8→Prop} (hk:K n):asS (.s n) K:=hk
theorem st_len {a:Option AA} {n:Nat} {c:Option Nat} {K:Int→Prop} (hk:K n):pLenSl (.sl a n c) K:=hk
theorem wr_all:∀ (ws pre cs:List AV),ws.length=cs.length→wr (pre++cs) pre.length ws=pre++ws
  | [], pre, cs, h => by
    have:cs=[]:=List.eq_nil_of_length_eq_zero (by simpa using h.symm)
    subst this; simp [wr]
  | w :: ws,pre,[],h=>by simp at h
  | w :: ws, pre, c :: cs, h => by
    simp only [wr]
    have e:(pre++c :: cs).set pre.length w=(pre++[w])++cs:=by simp
    rw [e]
    have:=wr_all ws (pre++[w]) cs (by simpa using h)
    simpa using this
theorem st_loadN {h:AHeap} {id n:Nat} {cs:List AV} {K:AV→Prop} (R:RecAt h id cs) (hn:n=cs.length) (hk:K (.ag cs)):pLoadN n (.p (some ⟨id,n,0⟩)) h K:=by
  obtain ⟨b,h1,rfl,h3,h4⟩:=R
  subst hn
  refine ⟨b,h1,⟨h3,Nat.le_refl _,by simp⟩, ?_⟩
  simpa using hk
theorem st_storeN {h:AHeap} {id n:Nat} {cs ws:List AV} {K:AHeap→Prop} (R:RecAt h id cs) (hn:n=cs.length) (hw:ws.length=n) (hc:ws.all AV.cellOK=true)
    (hk:∀ h',h'.length=h.length→Upd (· = id) h h'→RecAt h' id ws→K h'):pStore n (.p (some ⟨id,n,0⟩)) (.ag ws) h K:=by
  have hl:=R.lt
  obtain ⟨b,h1,rfl,h3,h4⟩:=R
  subst hn
  refine ⟨b,h1,h4,h3,rfl,(by show 0+b.cells.length≤b.cells.length; omega),rfl,hw,hc, ?_⟩
  refine hk _ (by simp) (Upd.set _ _ _) ⟨_,List.getElem?_set_self hl, ?_, ?_,h4⟩
  · exact wr_all ws [] b.cells hw
  · rw [hw]; exact Nat.le_refl _
def SlAt (v:AV) (id:Nat):Prop:=match v with
  | .sl (some a) _ _=>a.id=id
  | _=>False
def Rd (sz:Nat) (h:AHeap) (v:AV) (cs:List AV) (len:Nat):Prop:=
  (v = .sl none 0 none∧len=0∧cs=[])∨∃ id ver off cap b,v = .sl (some ⟨id,ver,off⟩) len cap∧h[id]? = some b∧b.sz=sz∧b.floor≤ver∧ver≤b.cells.length∧off+len * sz≤ver∧(b.cells.drop off).take (len * sz)=cs
theorem Rd.upd {sz:Nat} {M:Nat→Prop} {h h':AHeap} {v:AV} {cs:List AV} {len:Nat} (R:Rd sz h v cs len) (U:Upd M h h') (hM:∀ id,SlAt v id→¬ M id):Rd sz h' v cs len:=by
  rcases R with h1 | ⟨id,ver,off,cap,b,rfl,h2,h3⟩
  · exact .inl h1
  · exact .inr ⟨id,ver,off,cap,b,rfl,(U.2 id (lt_of_some h2) (hM id rfl)).trans h2,h3⟩
theorem Rd.lt {sz:Nat} {h:AHeap} {v:AV} {cs:List AV} {len:Nat} (R:Rd sz h v cs len) {id:Nat} (hs:SlAt v id):id<h.length:=by
  rcases R with ⟨rfl,_⟩ | ⟨id',ver,off,cap,b,rfl,h2,h3⟩
  · exact hs.elim
  · cases hs; exact lt_of_some h2
theorem Rd.length {sz:Nat} {h:AHeap} {v:AV} {cs:List AV} {len:Nat} (R:Rd sz h v cs len):cs.length=len * sz:=by
  rcases R with ⟨_,rfl,rfl⟩ | ⟨id,ver,off,cap,b,rfl,h2,h3,h4,h5,h6,rfl⟩
  · simp
  · simp; omega
theorem Rd.sl {sz:Nat} {h:AHeap} {v:AV} {cs:List AV} {len:Nat} (R:Rd sz h v cs len) {K:List AV→Prop} (hk:K cs):slCells sz v h K:=by
  rcases R with ⟨rfl,rfl,rfl⟩ | ⟨id,ver,off,cap,b,rfl,h2,h3,h4,h5,h6,rfl⟩
  · exact hk
  · exact .inr ⟨b,h2,⟨h4,h5,h6⟩,hk⟩
theorem Rd.len {sz:Nat} {h:AHeap} {v:AV} {cs:List AV} {len:Nat} (R:Rd sz h v cs len) {K:Int→Prop} (hk:K len):pLenSl v K:=by
  rcases R with ⟨rfl,rfl,rfl⟩ | ⟨id,ver,off,cap,b,rfl,h2⟩ <;> exact hk
theorem Rd.news {sz:Nat} {h:AHeap} {v:AV} {cs:List AV} {len:Nat} (R:Rd sz h v cs len) {K:List AV→Nat→Prop} (hk:K cs len):newsOf sz v h K:=by
  rcases R with ⟨rfl,rfl,rfl⟩ | ⟨id,ver,off,cap,b,rfl,h2,h3,h4,h5,h6,rfl⟩
  · exact hk
  · exact .inr ⟨b,h2,⟨h4,h5,h6⟩,hk⟩
structure RdAt (sz:Nat) (h:AHeap) (id ver off:Nat) (b:ABlk) (cs:List AV) (len:Nat):Prop where
  blk:h[id]? = some b
  siz:b.sz=sz
  flo:b.floor≤ver
  vle:ver≤b.cells.length
  end_:off+len * sz≤ver
  cel:(b.cells.drop off).take (len * sz)=cs
theorem RdAt.rd {sz:Nat} {h:AHeap} {id ver off:Nat} {b:ABlk} {cs:List AV} {len:Nat} (R:RdAt sz h id ver off b cs len) (cap:Option Nat):Rd sz h (.sl (some ⟨id,ver,off⟩) len cap) cs len:=
  .inr ⟨id,ver,off,cap,b,rfl,R.1,R.2,R.3,R.4,R.5,R.6⟩
theorem RdAt.upd {sz:Nat} {M:Nat→Prop} {h h':AHeap} {id ver off:Nat} {b:ABlk} {cs:List AV} {len:Nat} (R:RdAt sz h id ver off b cs len) (U:Upd M h h') (hM:¬ M id):RdAt sz h' id ver off b cs len:=
  ⟨(U.2 id (lt_of_some R.1) hM).trans R.1,R.2,R.3,R.4,R.5,R.6⟩
theorem RdAt.lt {sz:Nat} {h:AHeap} {id ver off:Nat} {b:ABlk} {cs:List AV} {len:Nat} (R:RdAt sz h id ver off b cs len):id<h.length:=lt_of_some R.1
theorem st_idx {sz:Nat} {h:AHeap} {id ver off:Nat} {b:ABlk} {cs:List AV} {len:Nat} {cap:Option Nat} {k:IntKind} {i:Nat} {K:AV→Prop} (R:RdAt sz h id ver off b cs len) (hi:i<len) (hk:K (.p (some ⟨id,ver,off+i * sz⟩))) :
    pIdxAddrSl sz (.sl (some ⟨id,ver,off⟩) len cap) (.i k (i:Int)) h K:=
  ⟨by omega,by omega,⟨b,R.1,R.3,Nat.le_trans R.3 R.4⟩,by simpa using hk⟩
theorem st_elem {sz:Nat} {h:AHeap} {id ver off:Nat} {b:ABlk} {cs:List AV} {len i o:Nat} {c:AV} {K:AV→Prop} (R:RdAt sz h id ver off b cs len) (hi:i<len) (ho:o<sz) (hc:cs[i * sz+o]? = some c) (hk:K c):pLoad1 (.p (some ⟨id,ver,off+i * sz+o⟩)) h K:=by
  have h1:(i+1) * sz≤len * sz:=Nat.mul_le_mul_right _ hi
  rw [Nat.add_mul] at h1
  have h2:=R.end_
  refine ⟨b,R.1,⟨R.3,R.4,by simp only; omega⟩, ?_⟩
  have h3:=R.cel
  rw [← h3,List.getElem?_take_of_lt (by omega),List.getElem?_drop] at hc
  show K (b.cells.getD (off+i * sz+o) .u)
  rw [getD_some (show b.cells[off+i * sz+o]? = some c by rw [← hc]; congr 1; omega)]
  exact hk
def Arr (sz:Nat) (h:AHeap) (v:AV) (cs:List AV) (len:Nat):Prop:=
  (v = .sl none 0 none∧len=0∧cs=[])∨∃ id b,v = .sl (some ⟨id,cs.length,0⟩) len none∧h[id]? = some b∧b.cells=cs∧cs.length=len * sz∧b.sz=sz∧b.floor≤cs.length∧b.ro=false∧b.gl=false
theorem Arr.nil (sz:Nat) (h:AHeap):Arr sz h (.sl none 0 none) [] 0:=.inl ⟨rfl,rfl,rfl⟩
theorem Arr.rd {sz:Nat} {h:AHeap} {v:AV} {cs:List AV} {len:Nat} (A:Arr sz h v cs len):Rd sz h v cs len:=by
  rcases A with h1 | ⟨id,b,rfl,h2,rfl,h4,h5,h6,h7⟩
  · exact .inl h1
  · refine .inr ⟨id, _, 0, none, b, rfl, h2, h5, h6, Nat.le_refl _, by omega, ?_⟩
    rw [List.drop_zero, ← h4,List.take_length]
theorem Arr.upd {sz:Nat} {M:Nat→Prop} {h h':AHeap} {v:AV} {cs:List AV} {len:Nat} (A:Arr sz h v cs len) (U:Upd M h h') (hM:∀ id,SlAt v id→¬ M id):Arr sz h' v cs len:=by
  rcases A with h1 | ⟨id,b,rfl,h2,h3⟩
  · exact .inl h1
  · exact .inr ⟨id,b,rfl,(U.2 id (lt_of_some h2) (hM id rfl)).trans h2,h3⟩
theorem Arr.append {sz bytes : Nat} {h : AHeap} {v x : AV} {cs ns : List AV} {len k : Nat} (A : Arr sz h v cs len) (hz : 0 < sz) {K : AV → AHeap → Prop}
    (hx:∀ K:List AV→Nat→Prop,K ns k→newsOf sz x h K) (hns:ns.length=k * sz) (hok:ns.all AV.cellOK=true) (hlen:(len+k) * bytes≤140737488355328) (hl2:len+k≤9223372036854775807)
    (hk:∀ v' h',Upd (SlAt v) h h'→Arr sz h' v' (cs++ns) (len+k)→(∀ id,SlAt v' id→SlAt v id∨h.length≤id)→K v' h'):pAppend ty sz bytes v x h K:=by
  refine ⟨hz,hx _ ?_⟩
  rcases A with ⟨rfl,rfl,rfl⟩ | ⟨id,b,rfl,h2,rfl,h4,h5,h6,h7,h8⟩
  · refine ⟨by simpa using hlen, by omega, ?_⟩
    split
    · rename_i h0
      subst h0
      have:ns=[]:=List.eq_nil_of_length_eq_zero (by simpa using hns)
      subst this
      exact hk _ _ (Upd.refl _ _) (.inl ⟨rfl,rfl,rfl⟩) fun id hi=>.inl hi
    · refine hk _ _ ((Upd.app _ _).mono fun _ _ h=>h.elim) (.inr ⟨h.length,newBlk ns sz false ty,by simp,by simp,rfl,by simpa using hns,rfl,Nat.le_refl _,rfl,rfl⟩) fun id hi=>.inr (by cases hi; exact Nat.le_refl _)
  · have hid := lt_of_some h2
    refine ⟨hlen,by omega,b,h2,h5,⟨h6,Nat.le_refl _,by simp only; omega⟩, ?_⟩
    have hcells:(b.cells.drop 0).take (len * sz)=b.cells:=by rw [List.drop_zero, ← h4,List.take_length]
    by_cases ht:k=0
    · subst ht
      have:ns=[]:=List.eq_nil_of_length_eq_zero (by simpa using hns)
      subst this
      refine .inl ⟨rfl,hk _ _ (Upd.refl _ _) ?_ fun id hi=>.inl hi⟩
      rw [List.append_nil]
      exact .inr ⟨id,b,rfl,h2,rfl,h4,h5,h6,h7,h8⟩
    · have htp : 0 < k := Nat.pos_of_ne_zero ht
      have hmul:(len+k) * sz=len * sz+k * sz:=Nat.add_mul _ _ _
      cases hex:b.ex with
      | true =>
        have hkz:0<k * sz:=Nat.mul_pos htp hz
        refine .inr (.inl ⟨htp,.inr ⟨rfl,rfl,rfl,by simp only; omega⟩, ?_⟩)
        rw [hcells]
        refine hk _ _ ((Upd.app _ _).mono fun _ _ h=>h.elim) (.inr ⟨h.length,newBlk (b.cells++ns) sz false ty,rfl,by simp,rfl,by simp [newBlk,hns,h4,hmul],rfl,by simp [newBlk],rfl,rfl⟩) fun id hi=>.inr (by cases hi; exact Nat.le_refl _)
      | false =>
        refine .inr (.inr (.inr (.inl ⟨htp,h7,rfl,rfl,h4.symm,rfl,rfl,h8,hok, ?_⟩)))
        refine hk _ _ ((Upd.set _ _ _).mono fun i _ h=>h.symm) (.inr ⟨id,{ b with cells:=b.cells++ns,ty:=sameTy b.ty ty },rfl,by simp [hid,hex],rfl,by simp [hns,h4,hmul],h5,by simp; omega,h7,h8⟩) fun id hi=>.inl hi
theorem st_build {sz len:Nat} {zeros cs:List AV} {parts:List (Nat × Nat × AV)} {h:AHeap} {K:AV→AHeap→Prop} (hf:fillA zeros parts=some cs) (hl:cs.length=len * sz)
    (hk:∀ v h',h'.length=h.length+1→Upd (fun _=>False) h h'→Rd sz h' v cs len→(∀ id,SlAt v id→h.length≤id)→K v h'):pBuildSl sz len zeros parts h K:=by
  unfold pBuildSl
  rw [hf]
  refine ⟨hl,hk _ _ (by simp) (Upd.app _ _) (.inr ⟨h.length,cs.length,0,none,newBlk cs sz true,rfl,by simp,rfl,Nat.le_refl _,Nat.le_refl _,by omega, ?_⟩) fun id hi=>by cases hi; exact Nat.le_refl _⟩
  simp [newBlk, ← hl]
theorem Arr.push {sz bytes:Nat} {h:AHeap} {v x:AV} {cs zeros:List AV} {len:Nat} (A:Arr sz h v cs len) (hz:0<sz) {K:AV→AHeap→Prop} (hf:fillA zeros [(0,sz,x)]=some x.parts) (hxl:x.parts.length=sz) (hok:x.parts.all AV.cellOK=true)
    (hlen:(len+1) * bytes≤140737488355328) (hl2:len+1≤9223372036854775807)
    (hk:∀ v' h',Upd (SlAt v) h h'→Arr sz h' v' (cs++x.parts) (len+1)→(∀ id,SlAt v' id→SlAt v id∨h.length≤id)→K v' h') :
    pBuildSl sz 1 zeros [(0,sz,x)] h fun y h'=>pAppend ty sz bytes v y h' K:=by
  refine st_build hf (by omega) fun y h1 hl1 U1 R1 F1=>?_
  refine (A.upd U1 fun _ _ h=>h).append hz (ns:=x.parts) (k:=1) (fun K hK=>R1.news hK) (by omega) hok hlen hl2 fun v' h' U2 A2 F2=>hk v' h' ((U1.mono fun _ _ h=>h.elim).trans U2 fun _ _ h=>h) A2 fun id hi=>?_
  rcases F2 id hi with h | h
  · exact .inl h
  · exact .inr (by omega)
def Byt (h:AHeap) (v:AV) (l:List UInt8):Prop:=Rd 1 h v (l.map byteAV) l.length
theorem Byt.str {h:AHeap} {v:AV} {l:List UInt8} (B:Byt h v l) {K:List UInt8→Prop} (hk:K l):pBytesStr v h K:=by
  refine Rd.sl B ⟨byteAV_isByte l, ?_⟩
  rw [toBytes_map]; exact hk
theorem st_subs {l:List UInt8} {lo:Nat} {K:List UInt8→Prop} (h:lo≤l.length) (hk:K (l.drop lo)):pSliceStr (.s l) (some (.i .i64 lo)) none K:=by
  refine ⟨by omega,by simpa using h,Nat.le_refl _, ?_⟩
  simpa using hk
theorem st_subs2 {l:List UInt8} {lo hi:Nat} {K:List UInt8→Prop} (h:lo≤hi) (h2:hi≤l.length) (hk:K ((l.take hi).drop lo)):pSliceStr (.s l) (some (.i .i64 lo)) (some (.i .i64 hi)) K:=by
  refine ⟨by omega,by omega,by simpa using h,by simpa using h2, ?_⟩
  simpa using hk
theorem st_subs1 {l:List UInt8} {hi:Nat} {K:List UInt8→Prop} (h2:hi≤l.length) (hk:K (l.take hi)):pSliceStr (.s l) none (some (.i .i64 hi)) K:=by
  refine ⟨by omega,by simp,by simpa using h2, ?_⟩
  simpa using hk
end Go.GAM
