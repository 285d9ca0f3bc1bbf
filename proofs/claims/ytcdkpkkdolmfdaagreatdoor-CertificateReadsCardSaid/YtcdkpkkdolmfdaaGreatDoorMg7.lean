/- Lemmas (several texts in one). -/
import Derived.Shelf.Strings.OnBuilder
import Derived.Shelf.Strconv.Itoa3
import Derived.Test.YtcdkpkkdolmfdaaGreatDoorProg
import Derived.Test.YtcdkpkkdolmfdaaGreatDoorRows
import Derived.Lib.LaidTab
import Derived.Lib.AppendIntMem
import Derived.Lib.ItoaNum
import Derived.ChangeArms
import Derived.Test.YtcdkpkkdolmfdaaGreatDoorMg6
namespace Go.Proofs
open Go.Shelf
def Tryz.lays156_ren:Go.Shelf.Ren:=⟨fun | 156=>90 | 165=>117 | 166=>118 | 169=>85 | 240=>112 | 241=>132 | 276=>127 | 277=>145 | n=>n,fun | 31=>23 | 9=>9 | 3=>3 | 4=>4 | 0=>0 | 20=>20 | 72=>110 | 76=>152 | 70=>108 | 37=>91 | 75=>112 | 127=>133 | 164=>155 | 5=>5 | 80=>114 | n=>n,fun | n=>n⟩
theorem Tryz.lays156:Go.Proofs.Lays.n156 Tryz.prog Tryz.lays156_ren:={
 mixed:=by kernel_rfl
 f156:=Tryz.func90.trans (congrArg some (by kernel_rfl))
 f165:=Tryz.func117.trans (congrArg some (by kernel_rfl))
 f166:=Tryz.func118.trans (congrArg some (by kernel_rfl))
 f169:=Tryz.func85.trans (congrArg some (by kernel_rfl))
 f240:=Tryz.func112.trans (congrArg some (by kernel_rfl))
 f241:=Tryz.func132.trans (congrArg some (by kernel_rfl))
 f276:=Tryz.func127.trans (congrArg some (by kernel_rfl))
 f277:=Tryz.func145.trans (congrArg some (by kernel_rfl))
 t0:=Tryz.underlying0
 a0:=Tryz.isAgg0
 z0:=Tryz.sizeOf0
 v0:=Tryz.zeroValue0
 t3:=Tryz.underlying3
 a3:=Tryz.isAgg3
 z3:=Tryz.sizeOf3
 v3:=Tryz.zeroValue3
 t4:=Tryz.underlying4
 a4:=Tryz.isAgg4
 z4:=Tryz.sizeOf4
 v4:=Tryz.zeroValue4
 t9:=Tryz.underlying9
 a9:=Tryz.isAgg9
 z9:=Tryz.sizeOf9
 v9:=Tryz.zeroValue9
 t20:=Tryz.underlying20
 a20:=Tryz.isAgg20
 z20:=Tryz.sizeOf20
 v20:=Tryz.zeroValue20
 t31:=Tryz.underlying23
 a31:=Tryz.isAgg23
 z31:=Tryz.sizeOf23
 v31:=Tryz.zeroValue23
 t37:=Tryz.underlying91
 a37:=Tryz.isAgg91
 z37:=Tryz.sizeOf91
 v37:=Tryz.zeroValue91
 t70:=Tryz.underlying108
 a70:=Tryz.isAgg108
 z70:=Tryz.sizeOf108
 v70:=Tryz.zeroValue108
 t72:=Tryz.underlying110
 a72:=Tryz.isAgg110
 z72:=Tryz.sizeOf110
 v72:=Tryz.zeroValue110
 t75:=Tryz.underlying112
 a75:=Tryz.isAgg112
 z75:=Tryz.sizeOf112
 v75:=Tryz.zeroValue112
 t76:=Tryz.underlying152
 a76:=Tryz.isAgg152
 z76:=Tryz.sizeOf152
 v76:=Tryz.zeroValue152
 t127:=Tryz.underlying133
 a127:=Tryz.isAgg133
 z127:=Tryz.sizeOf133
 v127:=Tryz.zeroValue133
 t164:=Tryz.underlying155
 a164:=Tryz.isAgg155
 z164:=Tryz.sizeOf155
 v164:=Tryz.zeroValue155 }
theorem Tryz.Builder_Extra_156:Builder.Extra Tryz.prog Tryz.lays156_ren:={
 sizeBuilder:=by kernel_rfl
 liesBuilder:=by kernel_rfl
 t5:=Tryz.underlying5
 a5:=Tryz.isAgg5
 z5:=Tryz.sizeOf5
 v5:=Tryz.zeroValue5
 infoByte:=by kernel_rfl
 cellsByte:=by kernel_rfl
 sizeByte:=by kernel_rfl
 neB5:=by decide }
open Go.RowKit in
theorem Tryz.strings_Join_none (a:Option Addr) (c:Nat) (sep:ByteArray) (w:World) :
  Calls Tryz.prog 90 #[.slice a 0 c,.string sep] w fun e w'=>e = .returned (.string ⟨#[]⟩)∧w'=w:=Any.strings_Join_none Tryz.lays156 Tryz.Builder_Extra_156 a c sep w
open Go.RowKit in
theorem Tryz.strings_Join (bk o c:Nat) (xs:List ByteArray) (sep:ByteArray) (w:World) (hcells:∀ (j:Nat) x,xs[j]? = some x→w.cell? ⟨bk,o+j,none⟩=some (.string x)) (hbk:bk<w.heap.size) (hN:xs.length≤140737488355328) (hcap:xs.length≤c) (hlen:(Lib.join (xs.map (·.data.toList)) sep.data.toList).length≤140737488355328) :
  Calls Tryz.prog 90 #[.slice (some ⟨bk,o,none⟩) xs.length c,.string sep] w fun e w'=>e = .returned (.string ⟨(Lib.join (xs.map (·.data.toList)) sep.data.toList).toArray⟩)∧Below w.heap.size w w':=Any.strings_Join Tryz.lays156 Tryz.Builder_Extra_156 bk o c xs sep w hcells hbk hN hcap hlen
def Tryz.laysM171_ren:Go.Shelf.Ren:=⟨fun | 171=>113 | 243=>128 | 246=>138 | 283=>147 | 284=>148 | 285=>149 | 286=>150 | 129=>158 | 317=>157 | 318=>159 | 319=>160 | 320=>161 | 337=>171 | 338=>172 | n=>n,fun | 3=>3 | 9=>9 | 2=>2 | 4=>4 | 171=>181 | 0=>0 | 53=>182 | 37=>91 | 5=>5 | 173=>185 | 212=>205 | 51=>137 | 20=>20 | 213=>206 | 46=>84 | 232=>221 | 233=>222 | n=>n,fun | 17=>13 | 18=>14 | 19=>15 | n=>n⟩
theorem Tryz.laysM171:Go.Proofs.LaysM.n171 Tryz.prog Tryz.laysM171_ren:={
 mixed:=by kernel_rfl
 f129:=Tryz.func158.trans (congrArg some (by kernel_rfl))
 f171:=Tryz.func113.trans (congrArg some (by kernel_rfl))
 f243:=Tryz.func128.trans (congrArg some (by kernel_rfl))
 f246:=Tryz.func138.trans (congrArg some (by kernel_rfl))
 f283:=Tryz.func147.trans (congrArg some (by kernel_rfl))
 f284:=Tryz.func148.trans (congrArg some (by kernel_rfl))
 f285:=Tryz.func149.trans (congrArg some (by kernel_rfl))
 f286:=Tryz.func150.trans (congrArg some (by kernel_rfl))
 f317:=Tryz.func157.trans (congrArg some (by kernel_rfl))
 f318:=Tryz.func159.trans (congrArg some (by kernel_rfl))
 f319:=Tryz.func160.trans (congrArg some (by kernel_rfl))
 f320:=Tryz.func161.trans (congrArg some (by kernel_rfl))
 f337:=Tryz.func171.trans (congrArg some (by kernel_rfl))
 f338:=Tryz.func172.trans (congrArg some (by kernel_rfl))
 t0:=Tryz.underlying0
 a0:=Tryz.isAgg0
 z0:=Tryz.sizeOf0
 v0:=Tryz.zeroValue0
 t2:=Tryz.underlying2
 a2:=Tryz.isAgg2
 z2:=Tryz.sizeOf2
 v2:=Tryz.zeroValue2
 t3:=Tryz.underlying3
 a3:=Tryz.isAgg3
 z3:=Tryz.sizeOf3
 v3:=Tryz.zeroValue3
 t4:=Tryz.underlying4
 a4:=Tryz.isAgg4
 z4:=Tryz.sizeOf4
 v4:=Tryz.zeroValue4
 t5:=Tryz.underlying5
 a5:=Tryz.isAgg5
 z5:=Tryz.sizeOf5
 v5:=Tryz.zeroValue5
 t9:=Tryz.underlying9
 a9:=Tryz.isAgg9
 z9:=Tryz.sizeOf9
 v9:=Tryz.zeroValue9
 t20:=Tryz.underlying20
 a20:=Tryz.isAgg20
 z20:=Tryz.sizeOf20
 v20:=Tryz.zeroValue20
 t37:=Tryz.underlying91
 a37:=Tryz.isAgg91
 z37:=Tryz.sizeOf91
 v37:=Tryz.zeroValue91
 t46:=Tryz.underlying84
 a46:=Tryz.isAgg84
 z46:=Tryz.sizeOf84
 v46:=Tryz.zeroValue84
 t51:=Tryz.underlying137
 a51:=Tryz.isAgg137
 z51:=Tryz.sizeOf137
 v51:=Tryz.zeroValue137
 t53:=Tryz.underlying182
 a53:=Tryz.isAgg182
 z53:=Tryz.sizeOf182
 v53:=Tryz.zeroValue182
 t171:=Tryz.underlying181
 a171:=Tryz.isAgg181
 z171:=Tryz.sizeOf181
 v171:=Tryz.zeroValue181
 t173:=Tryz.underlying185
 a173:=Tryz.isAgg185
 z173:=Tryz.sizeOf185
 v173:=Tryz.zeroValue185
 t212:=Tryz.underlying205
 a212:=Tryz.isAgg205
 z212:=Tryz.sizeOf205
 v212:=Tryz.zeroValue205
 t213:=Tryz.underlying206
 a213:=Tryz.isAgg206
 z213:=Tryz.sizeOf206
 t232:=Tryz.underlying221
 a232:=Tryz.isAgg221
 z232:=Tryz.sizeOf221
 v232:=Tryz.zeroValue221
 t233:=Tryz.underlying222
 a233:=Tryz.isAgg222
 z233:=Tryz.sizeOf222
 v233:=Tryz.zeroValue222
 g17:=by kernel_rfl
 g18:=by kernel_rfl
 g19:=by kernel_rfl
 i0:=by kernel_rfl
 i2:=by kernel_rfl
 i3:=by kernel_rfl
 i4:=by kernel_rfl
 i5:=by kernel_rfl
 i9:=by kernel_rfl
 i20:=by kernel_rfl
 i37:=by kernel_rfl
 i46:=by kernel_rfl
 i51:=by kernel_rfl
 i53:=by kernel_rfl
 i171:=by kernel_rfl
 i173:=by kernel_rfl
 i212:=by kernel_rfl
 i232:=by kernel_rfl
 i233:=by kernel_rfl
 m17:=by kernel_rfl
 m18:=by kernel_rfl
 m19:=by kernel_rfl }
open Go.RowKit Go.Sort Go.Lib in
theorem Tryz.strconv_Itoa (n:Int) (h0 : -9223372036854775808≤n) (h1:n≤9223372036854775807) (w:World) (htab:Lib.TabIs Tryz.prog w "internal/strconv.uint64pow10" .u64 Lib.pow10Tab) :
  Calls Tryz.prog 113 #[.int .i64 n] w fun e w'=>e = .returned (.string ⟨(Lib.itoa n).toArray⟩)∧∃ k os,w'=grow (w.drewN k) os:=Any.strconv_Itoa Tryz.laysM171 n h0 h1 w htab
end Go.Proofs
set_option linter.unusedVariables false
set_option linter.unusedSimpArgs false
set_option linter.unusedSectionVars false
set_option maxRecDepth 20000
namespace Go.Proofs.YtcdkpkkdolmfdaaGreatDoor
open Go.GAM Go.RowKit
def aPI:bT:=fun f args h K=>
 (f=Y113.id∧∃ n:Int,args=[.i .i64 n] ∧ -9223372036854775808≤n∧n≤9223372036854775807∧K (.s (Lib.itoa n)) h) ∨
 (f=Y117.id∧∃ (v:AV) (ls:List (List UInt8)) (sep:List UInt8),args=[v,.s sep]∧Rd 1 h v (ls.map .s) ls.length∧(Lib.join ls sep).length≤1000000000∧ls.length≤1000000000∧K (.s (Lib.join ls sep)) h)
theorem aP8:kK prog Y113.id=true:=by kernel_rfl
theorem aPL:kK prog Y117.id=true:=by kernel_rfl
theorem aLU {w w0:World} {Fz:Nat→Prop} {μ:Mu} {own:Nat→Option Nat} {h:aA} (R:Rel w0 Fz μ own h w) {v:AV} {cv:Value} {ls:List (List UInt8)} (hv:bG μ v cv) (hr:Rd 1 h v (ls.map .s) ls.length) :
  ∃ a c,cv = .slice a ls.length c∧(ls≠[]→∃ B o,a=some ⟨B,o,none⟩∧B<w.heap.size∧ls.length≤c∧∀ (j:Nat) x,(ls.map fun l=>(⟨l.toArray⟩:ByteArray))[j]? = some x→w.cell? ⟨B,o+j,none⟩=some (.string x)):=by
 rcases hr with ⟨rfl,h1,h2⟩ | ⟨id,ver,off,cap,b,rfl,h2,h3,h4,h5,h6,h7⟩
 ·have : ls = [] := by simpa using h1
  subst this
  cases hv
  exact ⟨none,0,rfl,fun h=>absurd rfl h⟩
 ·cases hv with | sl _ _ _ c addr l hl hle hf hc hs ha =>
  refine ⟨some addr,c,rfl,fun hne=>?_⟩
  have hlp:=List.length_pos_iff.2 hne
  have hadr:=ha (by omega)
  have hrd:=R.read (a:=⟨id,ver,off⟩) (n:=ls.length) h2 ⟨h4,h5,by simpa using h6⟩ hl
  obtain ⟨cv0,e0,_⟩:=hrd 0 hlp
  refine ⟨l.B,l.base+off,by rw [hadr],World.block_lt_of_cell? w _ e0,hle,fun j x hj=>?_⟩
  have hjl:j<ls.length:=by have:=bH hj; simpa using this
  obtain ⟨cv,e1,e2⟩:=hrd j hjl
  have hcell:b.cells.getD (off+j) .u = .s ls[j]:=by
   have:(ls.map AV.s)[j]? = some (.s ls[j]):=by simp [hjl]
   rw [← h7,List.getElem?_take_of_lt (by omega),List.getElem?_drop] at this
   rw [List.getD_eq_getElem?_getD,this] <;> rfl
  simp only at e1 e2
  rw [hcell] at e2
  rw [Nat.add_assoc,e1]
  cases e2 with | s _ y hy=>
  have:x=y:=by
   simp [hjl] at hj
   subst hj
   obtain ⟨d⟩:=y
   simp only at hy
   congr 1
   apply Array.ext'
   rw [← hy]
  rw [this]
theorem aD2 {W:World} (ht:Lib.TabIs prog W "internal/strconv.uint64pow10" .u64 Lib.pow10Tab):dJ prog W (fun B=>B<W.heap.size) (fun _ _=>none) aPI:=by
 rintro f args h K (⟨rfl,n,rfl,h0,h1,hk⟩ | ⟨rfl,v,ls,sep,rfl,hr,hl,hn,hk⟩) μ own w cargs hsb R hc
 ·rw [if_pos (by decide)]
  obtain ⟨rfl⟩:cargs=[.int .i64 n]:=by
   cases hc with | cons _ _ _ _ a b=>cases a; cases b; rfl
  have ht':Lib.TabIs prog w "internal/strconv.uint64pow10" .u64 Lib.pow10Tab:=by
   have hB:Below W.heap.size W w:=⟨R.os,R.tape,R.output,R.size0,fun k hk=>(R.fz k hk).2⟩
   exact Lib.tabBelow_of_tabIs ht w hB
  exact zU aP8 R ((Tryz.strconv_Itoa n h0 h1 w ht').mono fun e w' ⟨he,k,os,hw⟩=>⟨he,hw ▸ Lib.below_grow _ w (Nat.le_refl _) k os⟩) (.s _ _ (by simp)) hk
 ·rw [if_pos (by decide)]
  cases hc with | cons _ cv _ _ hv t=>
  cases t with | cons _ _ _ _ hs t=>
  cases t
  cases hs with | s _ sx hsx=>
  obtain ⟨a,c,rfl,hne⟩:=aLU R hv hr
  have e1:((ls.map fun l=>(⟨l.toArray⟩:ByteArray)).map (·.data.toList))=ls:=by
   rw [List.map_map]
   conv=>rhs; rw [← List.map_id ls]
   exact List.map_congr_left fun l _=>by simp
  by_cases h0:ls=[]
  ·subst h0
   refine zU aPL R ((Tryz.strings_Join_none a c sx w).mono fun e w' ⟨he,hw⟩=>⟨he,hw ▸ Below.refl _ _⟩) (.s _ _ rfl) ?_
   simpa [Lib.join] using hk
  ·obtain ⟨B, o, rfl, hB, hlc, hcells⟩ := hne h0
   have hj:=Tryz.strings_Join B o c (ls.map fun l=>(⟨l.toArray⟩:ByteArray)) sx w hcells hB (by simp; omega) (by simpa using hlc) (by rw [e1,hsx]; omega)
   rw [e1,hsx,List.length_map] at hj
   exact zU aPL R hj (.s _ _ (by simp)) hk
theorem aOD {W:World} {l:List (String × DataW Unit)} (hm:("internal/strconv.uint64pow10",Rows.laid_internal_strconv_uint64pow10)∈l) (hL:laidMet Tryz.prog l W):Lib.TabIs prog W "internal/strconv.uint64pow10" .u64 Lib.pow10Tab:=by
 obtain ⟨g,t,cs,fuel,p,hg,ht,hv,hd⟩:=dZ hm hL
 obtain rfl:=Option.some.inj ((show Tryz.prog.globalNamed "internal/strconv.uint64pow10" = some 13 by kernel_rfl).symm.trans hg)
 obtain rfl:=Option.some.inj ((show (Tryz.prog.globals[13]?).map (·.type)=some 205 by kernel_rfl).symm.trans ht)
 have e:(Rows.laid_internal_strconv_uint64pow10:DataW Unit)=Lib.tabData .u64 Lib.pow10Tab:=by rfl
 rw [e] at hd
 have:=Lib.cells_of_tab (n:=20) Tryz.underlying205 (show Tryz.prog.underlying 182=some (.int .u64) from Tryz.underlying182) (by kernel_rfl) (by kernel_rfl) hd
 show W.var? Tryz.prog _=_
 rw [hv, ← this]
noncomputable instance xr1:XR:=⟨orR (orR (aKY fY) (aFD prog (@C xr0))) aPI⟩
theorem aOF {W:World} (ht:Lib.TabIs prog W "internal/strconv.uint64pow10" .u64 Lib.pow10Tab):dJ prog W (fun B=>B<W.heap.size) (fun _ _=>none) (@X xr1):=fun f args h K hk=>
 hk.elim (aGO vD (aH8 mixedOK sizeOK (aA5 mixedOK sizeOK vD)) _ _ _ f args h K) (aD2 ht f args h K)
theorem aP9 {f:FuncId} {args:List AV} {h:aA} {K:AV→aA→Prop} (hk : @C xr0 f args h K):C f args h K:=aKK (fun _ _ _ _ h=>.inl (.inl h)) hk
theorem aKX {f:FuncId} {Y:mQ} {args:List AV} {h:aA} {K:AV→aA→Prop} (hm:(f,Y)∈fY) (hk:Y args h K):C f args h K:=rG (.inl (.inl (aJY hm hk)))
theorem aOU {f:FuncId} {args:List AV} {h:aA} {K:AV→aA→Prop} (hk:aFD prog (@C xr0) f args h K):C f args h K:=rG (.inl (.inr hk))
theorem aEP {n:Nat} {h:aA} {K:AV→aA→Prop} (hn:n<9223372036854775808) (hk:K (.s (Lib.decDigits n)) h):C Y113.id [.i .i64 (n:Int)] h K:=
 rG (.inr (.inl ⟨rfl,(n:Int),rfl,by omega,by omega,by rw [Lib.itoa_nonneg]; exact hk⟩))
theorem aOO {v:AV} {ls:List (List UInt8)} {sep:List UInt8} {h:aA} {K:AV→aA→Prop} (hr:Rd 1 h v (ls.map .s) ls.length) (hl:(Lib.join ls sep).length≤1000000000) (hn:ls.length≤1000000000) (hk:K (.s (Lib.join ls sep)) h):C Y117.id [v,.s sep] h K:=
 rG (.inr (.inr ⟨rfl,v,ls,sep,rfl,hr,hl,hn,hk⟩))
theorem aPC {l:List UInt8} {c:UInt8} {h:aA} {K:AV→aA→Prop} (hk:K (.i .i64 (Lib.indexByte l c)) h):C Y107.id [.s l,.i .u8 (c.toNat:Int)] h K:=aKX Y107.row ⟨l,c,rfl,hk⟩
theorem aPO {l:List UInt8} {c:UInt8} {h:aA} {K:AV→aA→Prop} (hk:K (.i .i64 (Lib.countByte l c:Nat)) h):C Y108.id [.s l,.i .u8 (c.toNat:Int)] h K:=aKX Y108.row ⟨l,c,rfl,hk⟩
section
variable {h:aA} {Q:AV→aA→Prop}
theorem aO9 {l:List UInt8} {c:UInt8} (hk:Q (.i .i64 (Lib.countByte l c:Nat)) h):C Y73.id [.s l,.s [c]] h Q:=by
 refine Y73.call ?_
 simp only [Y73.t, ← Y73.p0.eq_1]
 refine aN rfl ?_
 refine aO rfl (cS (i:=0) rfl (aPO (aQ (.inl hk))))
def bW (sp:List UInt8) (s:List UInt8):List UInt8:=s.flatMap fun c=>if c∈sp then [92,c] else [c]
theorem rC {sp:List UInt8}:bW sp []=[]:=rfl
theorem wL {sp a b:List UInt8}:bW sp (a++b)=bW sp a++bW sp b:=by simp [bW]
theorem aCT {sp:List UInt8} {c:UInt8}:bW sp [c]=if c∈sp then [92,c] else [c]:=by simp [bW]
theorem aFZ {sp:List UInt8}:∀ {s:List UInt8},(s.any fun c=>decide (c∈sp))=false→bW sp s=s
 | [],_=>rfl
 | c :: r, h => by
  simp only [List.any_cons,Bool.or_eq_false_iff,decide_eq_false_iff_not] at h
  show (if c∈sp then [92,c] else [c])++bW sp r=_
  rw [if_neg h.1,aFZ h.2] <;> rfl
def g9 (l s:List UInt8):Nat:=(l.map fun d=>Lib.countByte s d).sum
theorem wZ:∀ l:List UInt8,g9 l []=0
 | []=>rfl
 | d :: l => by
  have:g9 (d :: l) []=Lib.countByte [] d+g9 l []:=rfl
  rw [this,wZ l] <;> rfl
theorem sN (c:UInt8) (r:List UInt8):∀ {l:List UInt8},l.Nodup→g9 l (c :: r)=g9 l r+if c∈l then 1 else 0
 | [],_=>rfl
 | d :: l, hn => by
  obtain ⟨h1,h2⟩:=List.nodup_cons.1 hn
  have ih:=sN c r h2
  have e1:g9 (d :: l) (c :: r)=Lib.countByte (c :: r) d+g9 l (c :: r):=rfl
  have e2:g9 (d :: l) r=Lib.countByte r d+g9 l r:=rfl
  have e3:Lib.countByte (c :: r) d=Lib.countByte r d+if c=d then 1 else 0:=by
   unfold Lib.countByte
   rw [List.count_cons]
   simp
  rw [e1,e2,e3,ih]
  by_cases e:c=d
  ·subst e
   rw [if_pos rfl,if_neg h1,if_pos (List.mem_cons_self ..)]; omega
  ·rw [if_neg e]
   have:(c∈d :: l)↔c∈l:=by simp [e]
   simp only [this]; omega
theorem iK {sp:List UInt8} (hn:sp.Nodup):∀ s:List UInt8,(bW sp s).length=s.length+g9 sp s
 | []=>by rw [wZ] <;> rfl
 | c :: r => by
  rw [sN c r hn]
  show ((if c∈sp then [92,c] else [c])++bW sp r).length=_
  rw [List.length_append,iK hn r,List.length_cons]
  split <;> simp <;> omega
theorem aCB {s : List UInt8} : ∀ {l : List UInt8}, decide (g9 l s ≠ 0) = (s.any fun c => decide (c ∈ l))
 | []=>by simp [g9]
 | d :: l => by
  have ih:=aCB (s:=s) (l:=l)
  rw [Bool.eq_iff_iff] at ih ⊢
  simp only [decide_eq_true_eq,List.any_eq_true,List.mem_cons] at ih ⊢
  have e:g9 (d :: l) s=Lib.countByte s d+g9 l s:=rfl
  have e2:Lib.countByte s d≠0↔d∈s:=by
   unfold Lib.countByte
   rw [Nat.ne_zero_iff_zero_lt,List.count_pos_iff]
  constructor
  ·intro h
   by_cases h0:Lib.countByte s d=0
   ·obtain ⟨c, h1, h2⟩ := ih.1 (by omega)
    exact ⟨c,h1,.inr h2⟩
   ·exact ⟨d,e2.1 h0,.inl rfl⟩
  ·rintro ⟨c, h1, rfl | h2⟩
   ·have:=e2.2 h1; omega
   ·have:=ih.2 ⟨c,h1,h2⟩; omega
theorem aAS (l s:List UInt8):g9 l.reverse s=g9 l s:=by
 unfold g9; rw [List.map_reverse,List.sum_reverse]
theorem oD {l:List UInt8} (hn:l.Nodup):∀ s:List UInt8,g9 l s≤s.length
 | []=>by rw [wZ]; exact Nat.le_refl _
 | c :: r => by
  rw [sN c r hn]
  have:=oD hn r
  rw [List.length_cons]
  split <;> omega
theorem Tx.cutCopy {h0:aA} {v:AV} {l:List UInt8} {j:Nat} {x y:UInt8} (A:Tx h0 h v l) (hj:j+2≤l.length):∃ z,(∀ K:AV→Prop,K z→cV 1 v (some (.i .i64 (j:Int))) none none h K) ∧
  ∀ (w:AV) (K:AV→aA→Prop),Byt h w [x,y]→(∀ h',Tx h0 h' v ((l.set j x).set (j+1) y)→K (.i .i64 2) h')→yQ 1 z w h K:=by
 rcases A.arr with ⟨rfl,_,h0⟩ | ⟨id,b,rfl,hb,hbc,h4,h5,h6,h7,h8⟩
 ·omega
 have hbl:b.cells.length=l.length:=by rw [hbc]; simp
 have hidl:=bH hb
 refine ⟨.sl (some ⟨id,(l.map byteAV).length,0+j * 1⟩) (l.length - j) none,fun K hk=>?_,fun w K B hk=>?_⟩
 ·refine ⟨by decide, by simp, ?_⟩
  refine ⟨by omega, ?_⟩
  simp only [Int.toNat_natCast]
  refine ⟨by omega,b,hb,by rw [hbc]; exact h6,h6,.inl h5,.inl (Nat.le_refl _), ?_⟩
  exact hk
 ·refine ⟨by decide, Rd.news B ?_⟩
  have hm:min [x,y].length (l.length - j)=2:=by simp; omega
  refine ⟨b,hb,h5,⟨h6,by show (l.map byteAV).length≤_; rw [hbc]; exact Nat.le_refl _,by show 0+j * 1+(l.length - j) * 1≤(l.map byteAV).length; rw [List.length_map]; omega⟩,h7,by show (l.map byteAV).length=_; rw [hbc],by rw [hm] <;> rfl, ?_⟩
  rw [hm]
  have ew:wr b.cells (0+j * 1) (([x,y].map byteAV).take (2 * 1))=((l.set j x).set (j+1) y).map byteAV:=by
   rw [hbc]
   show ((l.map byteAV).set (0+j * 1) (byteAV x)).set (0+j * 1+1) (byteAV y)=_
   rw [Nat.zero_add,Nat.mul_one, ← List.map_set, ← List.map_set]
  refine hk _ ⟨A.upd.trans (Upd.set _ _ _) fun i hi e=>?_,.inr ⟨id,{ b with cells:=wr b.cells (0+j * 1) (([x,y].map byteAV).take (2 * 1)),floor:=b.cells.length }, ?_,List.getElem?_set_self hidl,ew, ?_,h5, ?_,h7,h8⟩,A.new⟩
  ·have h9 := A.new id rfl
   have e:i=id:=e
   omega
  ·simp
  ·simp
  ·show b.cells.length ≤ _
   rw [hbl]; simp
variable {sp s:List UInt8} {idR lo:Nat}
theorem gS.look {c:UInt8} {k:Int} (R:gS lo h idR sp) (hk':k=(c.toNat:Int)) {K:AV→Prop} (hno:c ∉ sp→K (.sl none 0 none)) (hyes:∀ a,c∈sp→Byt h (.sl (some a) 2 none) [92,c]→K (.sl (some a) 2 none)) :
  cC (.p (some ⟨idR,257,0⟩)) fun v=>aC 0 v fun v=>dI 256 1 v (.i .u8 k) fun v=>aE v h K:=by
 subst hk'
 obtain ⟨cs,tr,h1,h2,h3,h4,h5,h6,h7⟩:=R.cells
 have hc:=c.toNat_lt
 refine bI (aK ⟨by omega,by omega, ?_⟩)
 simp only [Int.toNat_natCast,Nat.zero_add,Nat.mul_one]
 by_cases hcs:c∈sp
 ·obtain ⟨a, g1, g2, _⟩ := h7 c hcs
  exact aM h1 h2.symm g1 (hyes a hcs g2)
 ·exact aM h1 h2.symm (h6 c hcs) (hno hcs)
theorem aM5 {K:AV→Prop} {t:TypeId} (ht:isSl prog t=true) (hk:K (.b false)):gD prog .neq t (.sl none 0 none) (.sl none 0 none) K:=by
 simp only [gD,ht,cond_true]; exact hk
theorem aIE {K:AV→Prop} {t:TypeId} {a:AA} {n:Nat} {c:Option Nat} (ht:isSl prog t=true) (hk:K (.b true)):gD prog .neq t (.sl (some a) n c) (.sl none 0 none) K:=by
 simp only [gD,ht,cond_true]; exact hk
theorem aOQ {h0 : aA} (R0 : gS lo h0 idR sp) (hs : s.length ≤ 100000000) (hn : sp.Nodup) (hq : Q (.s (bW sp s)) h) (U0 : Upd (fun _ => False) h h0) :
  ∀ (k i:Nat) (v:AV) (hx:aA),s.length=i+k→Tx h0 hx v (bW sp (s.take i)++List.replicate ((bW sp s).length - (bW sp (s.take i)).length) 0) →
  Y5.p5 (aL h Q) (.p (some ⟨idR,257,0⟩)) s v ((bW sp (s.take i)).length:Int) (i:Int) hx:=by
 have hel:∀ t:List UInt8,t.length≤100000000→(bW sp t).length≤200000000:=fun t ht=>by
  have:=iK hn t
  have:=oD hn t
  omega
 intro k
 induction k with
 | zero =>
  intro i v hx hi T
  refine Y5.i5 ?_
  simp only [Y5.t5]
  refine aN (decide_eq_false (by omega)) ?_
  rw [List.take_of_length_le (by omega)] at T
  simp only [Nat.sub_self,List.replicate_zero,List.append_nil] at T
  refine Tx.str T ?_
  exact aU rfl (U0.trans T.upd fun _ _ h=>h).ext hq
 | succ k ih =>
  intro i v hx hi T
  obtain ⟨c,hc⟩:∃ c,s[i]? = some c:=⟨s[i],List.getElem?_eq_getElem (by omega)⟩
  have htk:=dH hc
  have hle:(bW sp (s.take (i+1))).length≤(bW sp s).length:=by
   conv=>rhs; rw [← List.take_append_drop (i+1) s,wL,List.length_append]
   omega
  have hbig:=hel s hs
  have he1:bW sp (s.take (i+1))=bW sp (s.take i)++(if c∈sp then [92,c] else [c]):=by rw [htk,wL,aCT]
  refine Y5.i5 ?_
  simp only [Y5.t5, ← Y5.p6.eq_1]
  refine aO (decide_eq_true (by omega)) ?_
  refine cS (eR hc) ?_
  have Rx:gS lo hx idR sp:=R0.upd T.upd fun _ _ h=>h
  have nxt:∀ (v:AV) (hy:aA),Tx h0 hy v (bW sp (s.take (i+1))++List.replicate ((bW sp s).length - (bW sp (s.take (i+1))).length) 0) →
    Y5.p6 (aL h Q) (.p (some ⟨idR,257,0⟩)) s v ((bW sp (s.take (i+1))).length:Int) (i:Int) hy:=by
   intro v hy Ty
   refine Y5.i6 ?_
   simp only [Y5.t6, ← Y5.p5.eq_1]
   exact inc (by omega) (ih (i+1) v hy (by omega) Ty)
  refine Rx.look rfl (fun hcs=>?_) fun a hcs B=>?_
  ·rw [if_neg hcs] at he1
   refine aM5 (by kernel_rfl) (aS (aN rfl ?_))
   have hl1:(bW sp (s.take (i+1))).length=(bW sp (s.take i)).length+1:=by rw [he1]; simp
   refine Tx.store T (by simp; omega) fun hy Ty=>?_
   refine inc (by omega) ?_
   rw [← hl1]
   refine nxt v hy ?_
   have e:(bW sp (s.take i)++List.replicate ((bW sp s).length - (bW sp (s.take i)).length) 0).set (bW sp (s.take i)).length c=bW sp (s.take (i+1))++List.replicate ((bW sp s).length - (bW sp (s.take (i+1))).length) 0:=by
    obtain ⟨m,hm⟩:∃ m,(bW sp s).length - (bW sp (s.take i)).length=m+1:=⟨(bW sp s).length - (bW sp (s.take i)).length - 1,by omega⟩
    have hm2:(bW sp s).length - (bW sp (s.take (i+1))).length=m:=by omega
    rw [hm,hm2,he1,List.replicate_succ,List.set_append_right _ _ (Nat.le_refl _),Nat.sub_self]
    simp
   rw [e] at Ty
   exact Ty
  ·rw [if_pos hcs] at he1
   refine aIE (by kernel_rfl) (aS (aO rfl ?_))
   have hl1:(bW sp (s.take (i+1))).length=(bW sp (s.take i)).length+2:=by rw [he1]; simp
   obtain ⟨z,hz1,hz2⟩:=Tx.cutCopy (x:=92) (y:=c) (j:=(bW sp (s.take i)).length) T (by simp; omega)
   refine hz1 _ ?_
   refine Rx.look rfl (fun hcs'=>absurd hcs hcs') fun a' _ B'=>?_
   refine hz2 _ _ B' fun hy Ty=>aQ ?_
   refine aPH (by omega) ?_
   rw [← hl1]
   refine nxt v hy ?_
   have e:((bW sp (s.take i)++List.replicate ((bW sp s).length - (bW sp (s.take i)).length) 0).set (bW sp (s.take i)).length 92).set ((bW sp (s.take i)).length+1) c=bW sp (s.take (i+1))++List.replicate ((bW sp s).length - (bW sp (s.take (i+1))).length) 0:=by
    obtain ⟨m,hm⟩:∃ m,(bW sp s).length - (bW sp (s.take i)).length=m+2:=⟨(bW sp s).length - (bW sp (s.take i)).length - 2,by omega⟩
    have hm2:(bW sp s).length - (bW sp (s.take (i+1))).length=m:=by omega
    rw [hm,hm2,he1,List.replicate_succ,List.replicate_succ,List.set_append_right _ _ (Nat.le_refl _),Nat.sub_self,List.set_append_right _ _ (by omega)]
    simp
   rw [e] at Ty
   exact Ty
theorem aI1 (R0:gS lo h idR sp) (hs:s.length≤100000000) (hn:sp.Nodup) (hq:Q (.s (bW sp s)) h) {x5:Int} {x6:Bool} (h5:x5=((bW sp s).length:Nat)) (h6:x6=(s.any fun c=>decide (c∈sp))) :
  Y5.p4 (aL h Q) (.p (some ⟨idR,257,0⟩)) s x5 x6 h:=by
 have hel:(bW sp s).length≤200000000:=by
  have:=iK hn s
  have:=oD hn s
  omega
 refine Y5.i4 ?_
 simp only [Y5.t4, ← Y5.p5.eq_1]
 subst h5; subst h6
 cases ha:s.any fun c=>decide (c∈sp) with
 | false =>
  refine aO rfl (.inl ?_)
  rw [aFZ ha] at hq; exact hq
 | true =>
  refine aN rfl ?_
  refine aE1 (by omega) (by omega) fun v h1 A=>?_
  have e:(List.replicate (bW sp s).length (AV.i .u8 0))=(List.replicate (bW sp s).length (0:UInt8)).map byteAV:=by simp [byteAV]
  have T:Tx h h1 v (bW sp (s.take 0)++List.replicate ((bW sp s).length - (bW sp (s.take 0)).length) 0):=by
   rw [List.take_zero,rC]
   simp only [List.length_nil,Nat.sub_zero,List.nil_append]
   rw [e] at A
   unfold Tx
   rw [List.length_replicate]; exact A
  have:=aOQ (h0:=h) R0 hs hn hq (Upd.refl _ _) s.length 0 v h1 (by omega) T
  simpa [rC] using this
theorem aON (R0 : gS lo h idR sp) (hs : s.length ≤ 100000000) (hn : sp.Nodup) (hq : Q (.s (bW sp s)) h) :
  ∀ (k i:Nat) (x5:Int),s.length=i+k→x5=(s.length:Int)+((bW sp (s.take i)).length:Nat) - i →
  Y5.p2 (aL h Q) (.p (some ⟨idR,257,0⟩)) s x5 ((s.take i).any fun c=>decide (c∈sp)) (i:Int) h:=by
 intro k
 induction k with
 | zero =>
  intro i x5 hi hx
  refine Y5.i2 ?_
  simp only [Y5.t2, ← Y5.p4.eq_1]
  refine aN (decide_eq_false (by omega)) ?_
  have e:s.take i=s:=List.take_of_length_le (by omega)
  refine aI1 R0 hs hn hq ?_ (by rw [e])
  rw [hx,e]; omega
 | succ k ih =>
  intro i x5 hi hx
  obtain ⟨c,hc⟩:∃ c,s[i]? = some c:=⟨s[i],List.getElem?_eq_getElem (by omega)⟩
  have htk:=dH hc
  have hel:(bW sp (s.take i)).length≤200000000:=by
   have:=iK hn (s.take i)
   have:=oD hn (s.take i)
   have:(s.take i).length≤s.length:=by simp; omega
   omega
  have he1:bW sp (s.take (i+1))=bW sp (s.take i)++(if c∈sp then [92,c] else [c]):=by rw [htk,wL,aCT]
  refine Y5.i2 ?_
  simp only [Y5.t2, ← Y5.p3.eq_1]
  refine aO (decide_eq_true (by omega)) ?_
  refine cS (eR hc) ?_
  have hany:((s.take (i+1)).any fun c=>decide (c∈sp))=(((s.take i).any fun c=>decide (c∈sp))||decide (c∈sp)):=by rw [htk]; simp
  have nxt:∀ (x5:Int) (x6:Bool),x5=(s.length:Int)+((bW sp (s.take (i+1))).length:Nat) - (i+1:Nat)→x6=((s.take (i+1)).any fun c=>decide (c∈sp)) →
    Y5.p3 (aL h Q) (.p (some ⟨idR,257,0⟩)) s x5 x6 (i:Int) h:=by
   intro x5 x6 h1 h2
   refine Y5.i3 ?_
   simp only [Y5.t3, ← Y5.p2.eq_1]
   subst h2
   exact inc (by omega) (ih (i+1) x5 (by omega) h1)
  refine R0.look rfl (fun hcs=>?_) fun a hcs B=>?_
  ·rw [if_neg hcs] at he1
   refine aM5 (by kernel_rfl) (aS (aN rfl (nxt _ _ ?_ ?_)))
   ·rw [hx,he1]; simp; omega
   ·rw [hany,decide_eq_false hcs,Bool.or_false]
  ·rw [if_pos hcs] at he1
   refine aIE (by kernel_rfl) (aS (aO rfl ?_))
   refine R0.look rfl (fun hcs'=>absurd hcs hcs') fun a' _ B'=>?_
   refine aK6 (aI (show IntKind.wrap .i64 (((2:Nat):Int) - 1)=1 by decide) ?_)
   refine aI (show IntKind.wrap .i64 (x5+1)=x5+1 by rw [aJ] <;> omega) (nxt _ _ ?_ ?_)
   ·rw [hx,he1]; simp; omega
   ·rw [hany,decide_eq_true hcs,Bool.or_true]
theorem aNQ (R0 : gS lo h idR sp) (hs : s.length ≤ 100000000) (hn : sp.Nodup) (hl : sp.length ≤ 100) (hq : Q (.s (bW sp s)) h) {tr : AV} (hT : Rd 1 h tr (sp.reverse.map fun c => .s [c]) sp.length) :
  ∀ (k i:Nat) (x5:Int),sp.length=i+k→x5=(s.length:Int)+(g9 (sp.reverse.take i) s:Nat) →
  Y5.p0 (aL h Q) (.p (some ⟨idR,257,0⟩)) s x5 (decide (g9 (sp.reverse.take i) s≠0)) tr (sp.length:Int) (i:Int) h:=by
 intro k
 induction k with
 | zero =>
  intro i x5 hi hx
  refine Y5.i0 ?_
  simp only [Y5.t0, ← Y5.p4.eq_1]
  refine aN (decide_eq_false (by omega)) ?_
  have e:sp.reverse.take i=sp.reverse:=List.take_of_length_le (by simp; omega)
  refine aI1 R0 hs hn hq ?_ ?_
  ·rw [hx,e,aAS,iK hn]; omega
  ·rw [e,aAS,aCB]
 | succ k ih =>
  intro i x5 hi hx
  obtain ⟨c,hc⟩:∃ c,sp.reverse[i]? = some c:=⟨sp.reverse[i]'(by simp; omega),List.getElem?_eq_getElem _⟩
  have htk:=dH hc
  have hcm:c∈sp:=by have:=List.mem_of_getElem? hc; simpa using this
  have hsum:g9 (sp.reverse.take (i+1)) s=g9 (sp.reverse.take i) s+Lib.countByte s c:=by
   rw [htk]; unfold g9; simp
  have hb1:g9 (sp.reverse.take (i+1)) s≤s.length:=oD ((List.take_sublist _ _).nodup (by unfold List.Nodup at *; rw [List.pairwise_reverse]; exact hn.imp fun h e=>h e.symm)) s
  refine Y5.i0 ?_
  simp only [Y5.t0, ← Y5.p1.eq_1]
  refine aO (decide_eq_true (by omega)) ?_
  refine hT.cell (by decide) (by omega) (c:=.s [c]) (by rw [Nat.mul_one,List.getElem?_map,hc] <;> rfl) (bA ?_)
  refine aO9 (aQ ?_)
  have nxt:∀ (x5:Int) (x6:Bool),x5=(s.length:Int)+(g9 (sp.reverse.take (i+1)) s:Nat)→x6=decide (g9 (sp.reverse.take (i+1)) s≠0) →
    Y5.p1 (aL h Q) (.p (some ⟨idR,257,0⟩)) s x5 x6 tr (sp.length:Int) (i:Int) h:=by
   intro x5 x6 h1 h2
   refine Y5.i1 ?_
   simp only [Y5.t1, ← Y5.p0.eq_1]
   subst h2
   exact inc (by omega) (ih (i+1) x5 (by omega) h1)
  refine aG (fun e=>?_) fun e=>?_
  ·have e : Lib.countByte s c ≠ 0 := by simpa using e
   refine cS (i:=0) (c:=c) (r:=[]) rfl ?_
   refine R0.look rfl (fun hcs=>absurd hcm hcs) fun a _ B=>?_
   refine aK6 (aI (show IntKind.wrap .i64 (((2:Nat):Int) - 1)=1 by decide) ?_)
   refine aI (show IntKind.wrap .i64 ((Lib.countByte s c:Int) * 1)=Lib.countByte s c by rw [Int.mul_one,aJ] <;> omega) ?_
   refine aI (show IntKind.wrap .i64 (x5+(Lib.countByte s c:Int))=x5+Lib.countByte s c by rw [aJ] <;> omega) (nxt _ _ ?_ ?_)
   ·omega
   ·rw [eq_comm,decide_eq_true]; omega
  ·have e : Lib.countByte s c = 0 := by simpa using e
   refine nxt _ _ ?_ ?_
   ·omega
   ·rw [hsum,e,Nat.add_zero]
theorem aEU (R0:gS lo h idR sp) (hs:s.length≤100000000) (hn:sp.Nodup) (hl:sp.length≤100) (hq:Q (.s (bW sp s)) h):C Y5.id [.p (some ⟨idR,257,0⟩),.s s] h Q:=by
 refine Y5.call ?_
 simp only [Y5.t, ← Y5.p0.eq_1, ← Y5.p2.eq_1]
 obtain ⟨cs,tr,h1,h2,h3,h4,_⟩:=R0.cells
 refine bI (aK (aM h1 h2.symm h3 (h4.len ?_)))
 refine aI (show IntKind.wrap .i64 ((sp.length:Int) * 8)=(sp.length:Int) * 8 by rw [aJ] <;> omega) ?_
 refine aG (fun e=>?_) fun e=>?_
 ·refine bI (aK (aM h1 h2.symm h3 (h4.len ?_)))
  have:=aNQ R0 hs hn hl hq h4 sp.length 0 (s.length:Int) (by omega) (by simp [g9])
  simpa [g9] using this
 ·have := aON R0 hs hn hq s.length 0 (s.length : Int) (by omega) (by simp [bW])
  simpa using this
theorem aI3 {v:AV} (hl:sp.length≤100) (hv:Rd 1 h v ((fQ sp).map .s) (2 * sp.length)) (hp:0<sp.length) (hq:∀ id h',Upd (fun _=>False) h h'→h.length≤id→aET h' id sp→Q (.p (some ⟨id,5,0⟩)) h'):C Y87.id [v] h Q:=by
 refine Y87.call ?_
 simp only [Y87.t]
 refine hv.len (wP (n:=0) (by decide) (by rw [show ((2 * sp.length:Nat):Int)=(sp.length:Int) * 2 by omega]; exact Int.mul_tmod_left _ _) (aN rfl ?_))
 have hok:((fQ sp).map AV.s).all AV.cellOK=true:=by
  rw [List.all_eq_true]; intro x hx
  obtain ⟨c,_,rfl⟩:=List.mem_map.1 hx
  rfl
 refine (Arr.nil 1 h).append (by decide) (ns:=(fQ sp).map .s) (k:=2 * sp.length) (fun K hK=>hv.news hK) (by simp [wH]) hok (by omega) (by omega) fun v' h1 U1 A1 F1=>?_
 have U1':Upd (fun _=>False) h h1:=U1.mono fun _ _ h=>h
 have A1:Arr 1 h1 v' ((fQ sp).map .s) (2 * sp.length):=by simpa using A1
 have hv':v'.parts=[v']∧v'.sizeOK=true∧v'.cellOK=true:=by
  rcases A1 with ⟨_,h0,_⟩ | ⟨id,b,rfl,_⟩
  ·omega
  ·exact ⟨rfl,rfl,rfl⟩
 refine zY (cs:=[.i .u32 0,.i .i32 0,.i .u32 0,.ni,v']) ?_ ?_
 ·rcases A1 with ⟨_, h0, _⟩ | ⟨id, b, rfl, _⟩
  ·omega
  ·rfl
 refine dP rfl fun h2 hl2 U2 R2=>?_
 refine .inl (hq h1.length h2 (U1'.trans U2 fun _ _ h=>h) U1'.1 ⟨v',R2,(A1.rd).upd U2 fun _ _ h=>h,fun hi=>?_⟩)
 have:=A1.rd.lt hi
 omega
theorem aHB {id:Nat} (hs:s.length≤100000000) (hn:sp.Nodup) (hl:sp.length≤100) (hp:2≤sp.length) (N:aET h id sp) (hq:∀ h',Upd (· = id) h h'→aFP h' id sp→Q (.s (bW sp s)) h'):C Y86.id [.p (some ⟨id,5,0⟩),.s s] h Q:=by
 refine Y86.call ?_
 simp only [Y86.t]
 refine bI (aK ?_)
 refine Y103.call ?_
 simp only [Y103.t]
 obtain ⟨v,R,hv,hvn⟩:=N.is
 refine bI (aK ?_)
 refine aP9 (aE7 R rfl rfl (aS (aO rfl ?_)))
 refine aOU (aKL hn hl hp N fun h1 U1 G1=>?_)
 refine .inl ?_
 have G2:=G1
 obtain ⟨idR,R1,P1⟩:=G2
 refine bI (aK (aM R1 rfl rfl ?_))
 refine aP1 (f:=Y5.id) (by kernel_rfl) (by decide) ?_
 exact aEU P1 hs hn hl (bA (.inl (hq h1 U1 G1)))
end
end Go.Proofs.YtcdkpkkdolmfdaaGreatDoor
namespace Go.Proofs.YtcdkpkkdolmfdaaGreatDoor
open Go.GAM Go.RowKit
section
variable {h:aA} {Q:AV→aA→Prop}
theorem qN {l:List UInt8} {c:UInt8} (hk:Q (.i .i64 (Lib.indexByte l c)) h):C Y81.id [.s l,.i .u8 (c.toNat:Int)] h Q:=by
 refine Y81.call ?_
 simp only [Y81.t]
 exact aPC (aQ (.inl hk))
theorem aAW {l:List UInt8} {c:UInt8} (hk:Q (.i .i64 (Lib.indexByte l c)) h):C Y65.id [.s l,.s [c]] h Q:=by
 refine Y65.call ?_
 simp only [Y65.t, ← Y65.p0.eq_1]
 refine aN rfl ?_
 refine Y65.i0 ?_
 simp only [Y65.t0]
 refine aG (fun e=>?_) fun e=>?_
 ·have e := of_decide_eq_true e
  subst e
  have:Lib.indexByte [c] c=0:=by simp [Lib.indexByte]
  rw [this] at hk
  exact .inl hk
 ·exact aO rfl (cS (i:=0) rfl (qN (aQ (.inl hk))))
theorem aQE {l:List UInt8} {c:UInt8} (hk:Q (.i .i64 (Lib.indexByte l c)) h):C Y97.id [.s l,.s [c]] h Q:=by
 refine Y97.call ?_
 simp only [Y97.t]
 exact aAW (aQ (.inl hk))
def nZ (l:List UInt8) (c:UInt8):List UInt8 × List UInt8 × Bool:=if 0≤Lib.indexByte l c then (l.take (Lib.indexByte l c).toNat,l.drop ((Lib.indexByte l c).toNat+1),true) else (l,[],false)
theorem aA6:∀ (l:List UInt8) (c:UInt8), -1≤Lib.indexByte l c∧Lib.indexByte l c<l.length
 | [],c=>by simp [Lib.indexByte]
 | b :: l, c => by
  have:=aA6 l c
  unfold Lib.indexByte
  split
  ·simp
  ·split
   ·simp; omega
   ·simp; omega
theorem aOZ {l:List UInt8} {c:UInt8} (hl:l.length≤9223372036854775807) (hk:Q (.tu [.s (nZ l c).1,.s (nZ l c).2.1,.b (nZ l c).2.2]) h):C Y99.id [.s l,.s [c]] h Q:=by
 have hb:=aA6 l c
 refine Y99.call ?_
 simp only [Y99.t]
 refine Y104.call ?_
 simp only [Y104.t]
 refine aAW (aQ ?_)
 unfold nZ at hk
 by_cases h0:0≤Lib.indexByte l c
 ·rw [if_pos h0] at hk
  obtain ⟨n,hn⟩:∃ n:Nat,Lib.indexByte l c=n:=⟨(Lib.indexByte l c).toNat,by omega⟩
  rw [hn] at hk hb ⊢
  simp only [Int.toNat_natCast] at hk
  refine aO (by simp) (kW (by omega) (aI (n:=((n+1:Nat):Int)) (by rw [aJ (by simp only [List.length_singleton]; omega) (by simp only [List.length_singleton]; omega)] <;> rfl) (gY (by omega) ?_)))
  exact .inl (aY (bA (aZ (bA (gW (aS (.inl hk)))))))
 ·rw [if_neg h0] at hk
  exact aN (by simp; omega) (.inl (aY (bA (aZ (bA (gW (aS (.inl hk))))))))
def kR (l p:List UInt8):Bool:=decide (l.take p.length=p)
theorem sT {l p:List UInt8} (hk:Q (.b (kR l p)) h):C Y54.id [.s l,.s p] h Q:=by
 refine Y54.call ?_
 simp only [Y54.t, ← Y54.p0.eq_1]
 unfold kR at hk
 by_cases hl:p.length≤l.length
 ·refine aO (by simp; omega) (kW hl ?_)
  refine Y54.i0 ?_
  simp only [Y54.t0]
  exact .inl hk
 ·refine aN (by simp; omega) ?_
  refine Y54.i0 ?_
  simp only [Y54.t0]
  rw [decide_eq_false (fun e=>hl (by rw [← e]; simp; omega))] at hk
  exact .inl hk
theorem aBB {l p:List UInt8} (hl:l.length≤9223372036854775807) (hk:Q (.tu [.s (if kR l p=true then l.drop p.length else l),.b (kR l p)]) h):C Y94.id [.s l,.s p] h Q:=by
 refine Y94.call ?_
 simp only [Y94.t]
 refine Y100.call ?_
 simp only [Y100.t]
 refine sT (aS ?_)
 cases hp:kR l p with
 | false =>
  rw [hp,if_neg (by simp)] at hk
  exact aO rfl (.inl (aY (bA (aZ (aS (.inl hk))))))
 | true =>
  rw [hp,if_pos rfl] at hk
  have:p.length≤l.length:=by
   have:=of_decide_eq_true hp
   rw [← this]; simp; omega
  exact aN rfl (gY this (.inl (aY (bA (aZ (aS (.inl hk)))))))
end
def vR (c:UInt8):UInt8:=if 65≤c.toNat∧c.toNat≤90 then c+32 else c
def iE (l:List UInt8):List UInt8:=l.map vR
theorem aFQ {c:UInt8} (h:65≤c.toNat∧c.toNat≤90):((vR c).toNat:Int)=(c.toNat:Int)+32:=by
 unfold vR; rw [if_pos h,UInt8.toNat_add]
 show (((c.toNat+32) % 256:Nat):Int)=_
 omega
theorem aE8 {c:UInt8} (h:¬ (65≤c.toNat∧c.toNat≤90)):vR c=c:=by unfold vR; rw [if_neg h]
section
variable {s:List UInt8} {h0:aA} {Q:AV→aA→Prop}
theorem aC5 {v:AV} {i:Nat} {h:aA} (hi:i<9223372036854775807) (hk:Y22.p0 (aL h0 Q) v v s.length (i+1:Nat) h):Y22.p2 (aL h0 Q) v v s.length i h:=by
 refine Y22.i2 ?_
 simp only [Y22.t2, ← Y22.p0.eq_1]
 exact inc (by omega) hk
theorem aIC (hs : s.length ≤ 9223372036854775807) : ∀ (r : List UInt8) (i : Nat) (v : AV) (h : aA), s.drop i = r → Tx h0 h v (iE (s.take i) ++ r) → Q (.s (iE s)) h0 → Y22.p0 (aL h0 Q) v v s.length i h := by
 intro r
 induction r with
 | nil =>
  intro i v h hr T hq
  have hl:=cA hr
  refine Y22.i0 ?_
  simp only [Y22.t0, ← Y22.p1.eq_1]
  rw [List.append_nil,List.take_of_length_le hl] at T
  exact aN (by simp; omega) (T.ret hq)
 | cons c r ih =>
  intro i v h hr T hq
  have hlt:=cG hr
  have hn:=b3 hr
  have hc:=c.toNat_lt
  have hti:(iE (s.take i)).length=i:=by simp [iE]; omega
  have hat:(iE (s.take i)++c :: r)[i]? = some c:=by rw [List.getElem?_append_right (by omega),hti]; simp
  have hci:=b4 hr
  have htk:iE (s.take (i+1))=iE (s.take i)++[vR c]:=by
   rw [List.take_add_one,hci]; simp [iE]
  have key:∀ b,b=decide (65≤c.toNat∧c.toNat≤90)→Y22.p1 (aL h0 Q) v i (c.toNat:Int) v s.length i b h:=by
   intro b hb
   refine Y22.i1 ?_
   simp only [Y22.t1, ← Y22.p2.eq_1]
   refine aG (fun e=>?_) fun e=>?_
   ·subst e
    have hu:65≤c.toNat∧c.toNat≤90:=by simpa using hb.symm
    refine aI (iJ (by omega) (by omega)) ?_
    refine aI (n:=((vR c).toNat:Int)) (by rw [aFQ hu,iJ (by omega) (by omega)]; omega) ?_
    refine T.store (by rw [List.length_append]; simp [hti]) fun h' T'=>aC5 (by omega) (ih (i+1) v h' hn ?_ hq)
    rw [htk,List.append_assoc]
    rw [List.set_append_right _ _ (by omega),hti,Nat.sub_self] at T'
    exact T'
   ·subst e
    have hu:¬ (65≤c.toNat∧c.toNat≤90):=by simpa using hb.symm
    refine aC5 (by omega) (ih (i+1) v h hn ?_ hq)
    rw [htk,aE8 hu,List.append_assoc]; exact T
  refine Y22.i0 ?_
  simp only [Y22.t0, ← Y22.p1.eq_1]
  refine aO (by simp; omega) (T.load hat (aQ ?_))
  refine aG (fun e=>key _ ?_) fun e=>key _ ?_
  ·simp only [decide_eq_true_eq] at e
   rw [decide_eq_decide]; omega
  ·simp only [decide_eq_false_iff_not] at e
   symm; simp; omega
theorem aFB {h:aA} (hs:s.length≤9223372036854775807) (hk:Q (.s (iE s)) h):C Y22.id [.s s] h Q:=by
 refine Y22.call ?_
 simp only [Y22.t, ← Y22.p0.eq_1]
 exact Tx.ofStr fun v h' T=>T.arr.rd.len (aIC hs s 0 v h' rfl (by simpa [iE] using T) hk)
end
section
variable {h:aA} {Q:AV→aA→Prop}
end
end Go.Proofs.YtcdkpkkdolmfdaaGreatDoor
namespace Go.GAM
open Go.RowKit Go.ChangeShapes
section
variable {H:Type} {enc:TypeId × Value→H} {P:Program} {w:World} {szOf:Nat→Nat}
theorem aAB {x : Addr} {len cap sz : Nat} {vs : List Value} (hl : len ≤ cap) (hc0 : cap ≠ 0) (hz : 0 < sz) (hs : szOf x.block ≤ sz) (hlen : vs.length = cap * sz) (hv : ∀ i, i < vs.length → w.cell? (x.add i) = some (vs.getD i undef)) :
  ∃ ver b,iY w szOf (.slice (some x) len cap) = .sl (some ⟨x.block,ver,x.off⟩) len (some cap)∧(kD w szOf)[x.block]? = some b∧b.floor≤ver∧ver≤b.cells.length∧x.off+len * sz≤ver∧(b.cells.drop x.off).take (len * sz)=(vs.take (len * sz)).map (iY w szOf):=by
 obtain ⟨B,off,spot⟩:=x
 simp only at hs ⊢
 have hpos:0<vs.length:=by rw [hlen]; exact Nat.mul_pos (by omega) hz
 have cellAdd:∀ i v,spot=none→w.cell? ((⟨B,off,spot⟩:Addr).add i)=some v→∃ c el fr,w.heap[B]? = some (.cells c el fr)∧c[off+i]? = some v:=by
  intro i v hs h
  subst hs
  have e:(⟨B,off,none⟩:Addr).add i=⟨B,off+i,none⟩:=by
   unfold Addr.add
   by_cases hi:i=0
   ·subst hi; simp
   ·simp [hi]
  rw [e] at h
  unfold World.cell? at h
  split at h
  ·rename_i c el fr hh
   exact ⟨c,el,fr,hh,by simpa using h⟩
  ·cases h
 have hsp:spot=none:=by
  have h0:=hv 0 hpos
  unfold World.cell? at h0
  split at h0
  ·cases spot with
   | none=>rfl
   | some s=>simp [Addr.add] at h0
  ·cases h0
 subst hsp
 obtain ⟨c,el,fr,hh,_⟩:=cellAdd 0 _ rfl (hv 0 hpos)
 ·have hcell : ∀ i, i < vs.length → c[off + i]? = some (vs.getD i undef) := fun i hi => by
   obtain ⟨c',el',fr',h1,h2⟩:=cellAdd i _ rfl (hv i hi)
   rw [hh] at h1; cases h1; exact h2
  have hsize:off+cap * sz≤c.size:=by
   have:=hcell (vs.length - 1) (by omega)
   have:=(Array.getElem?_eq_some_iff.1 this).1
   omega
  have hshape:w.shape? B=some (el,c.size):=by unfold World.shape?; rw [hh]
  have hlc:len * sz≤cap * sz:=Nat.mul_le_mul_right _ hl
  have hsz2:cap * szOf B≤cap * sz:=Nat.mul_le_mul_left _ hs
  refine ⟨c.size,lJ w szOf B, ?_,pM (nA hshape), ?_, ?_,by omega, ?_⟩
  ·simp only [iY, oY]
   rw [if_neg hc0,hshape]
   simp only
   rw [if_pos ⟨hl,by omega⟩]
  ·unfold lJ; rw [hh]; exact Nat.le_refl _
  ·unfold lJ; rw [hh]; simp
  ·unfold lJ; rw [hh]
   simp only
   apply List.ext_getElem?
   intro i
   by_cases hi:i<len * sz
   ·rw [List.getElem?_take_of_lt hi, List.getElem?_drop, List.getElem?_map, Array.getElem?_toList, hcell i (by omega), List.getElem?_map, List.getElem?_take_of_lt hi]
    rw [List.getD_eq_getElem?_getD,List.getElem?_eq_getElem (by omega:i<vs.length)]
    first | done | rfl
   ·rw [List.getElem?_eq_none (by simp; omega),List.getElem?_eq_none (by simp; omega)]
theorem aHU {held : Bool} {t e : TypeId} {fuel : Nat} {cs : List Value} {x : DataW H × List MemPlace} (ht : P.underlying t = some (.slice e)) (h : DataW.trod enc P w 0 (fun _ => true) held fuel t cs = some x) :
  cs=[.slice none 0 0]∧x.1 = .nil∨∃ (a:Addr) (len cap n:Nat) (rows:List (List Value)) (ds rs:List (DataW H)),fuel=n+1∧cs=[.slice (some a) len cap]∧x.1 = .slice ds rs∧ds.length=len∧len≤cap∧cap≤maxLen∧rows.length=cap ∧
   (∀ r∈rows,r.length=P.cellsOf e∧∃ y,DataW.trod enc P w 0 (fun _=>true) held n e r=some y)∧(∀ (i:Nat) (r:List Value) (d:DataW H),rows[i]? = some r→ds[i]? = some d→∃ p,DataW.trod enc P w 0 (fun _=>true) held n e r=some (d,p))∧∀ i,i<rows.flatten.length→w.cell? (a.add i)=some (rows.flatten.getD i undef):=by
 rcases DataW.trod_slice ht h with ⟨h0,h1⟩ | ⟨a,len,cap,elems,rest,n,hf,rfl,hx,hb,hl,hm,hlen,hel,hsp,hns⟩
 ·exact .inl ⟨h0,by rw [h1]⟩
 right
 have each:∀ i,i<cap→∃ r,w.cells? 0 (a.add (i * P.cellsOf e)) (P.cellsOf e)=some r∧∃ y,DataW.trod enc P w 0 (fun _=>true) held n e r=some y∧(i<len→elems[i]? = some y):=by
  intro i hi
  have hb':∃ y,(w.cells? 0 (a.add (i * P.cellsOf e)) (P.cellsOf e)).bind (DataW.trod enc P w 0 (fun _=>true) held n e)=some y∧(i<len→elems[i]? = some y):=by
   by_cases h1:i<len
   ·rw [hel i h1]
    exact ⟨_,List.getElem?_eq_getElem (by omega),fun _=>List.getElem?_eq_getElem (by omega)⟩
   ·obtain ⟨h2, h3⟩ := hsp rfl
    have:=h3 (i - len) (by omega)
    rw [show len+(i - len)=i by omega] at this
    rw [this]
    exact ⟨_,List.getElem?_eq_getElem (by omega),fun h=>absurd h h1⟩
  obtain ⟨y,hy,hy2⟩:=hb'
  obtain ⟨r,h1,h2⟩:=Option.bind_eq_some_iff.1 hy
  exact ⟨r,h1,y,h2,hy2⟩
 refine ⟨a,len,cap,n,(List.range cap).map fun i=>(w.cells? 0 (a.add (i * P.cellsOf e)) (P.cellsOf e)).getD [],elems.map (·.1),rest.map (·.1),hf,rfl,by rw [hx],by simp [hlen],hl,hm,by simp, ?_, ?_, ?_⟩
 ·intro r hr
  obtain ⟨i,hi,rfl⟩:=List.mem_map.1 hr
  obtain ⟨r,h1,y,h2,_⟩:=each i (by simpa using hi)
  rw [h1]
  exact ⟨(World.cells?_some h1).2.1,y,h2⟩
 ·intro i r d hr hd
  simp only [List.getElem?_map,Option.map_eq_some_iff] at hr hd
  obtain ⟨i',hi',rfl⟩:=hr
  obtain ⟨hlt,rfl⟩:=List.getElem?_eq_some_iff.1 hi'
  rw [List.getElem_range]
  obtain ⟨y,hy,rfl⟩:=hd
  obtain ⟨r,h1,y',h2,h3⟩:=each i (by simpa using hlt)
  have hil:i<elems.length:=(List.getElem?_eq_some_iff.1 hy).1
  have:=h3 (by omega)
  rw [hy] at this
  cases this
  rw [h1]
  exact ⟨y.2,h2⟩
 ·have := pE (w := w) (a := a) (sz := P.cellsOf e) ((List.range cap).map fun i => (w.cells? 0 (a.add (i * P.cellsOf e)) (P.cellsOf e)).getD []) 0 (fun i r hi => by
   simp only [List.getElem?_map,Option.map_eq_some_iff] at hi
   obtain ⟨i',hi',rfl⟩:=hi
   obtain ⟨hlt,rfl⟩:=List.getElem?_eq_some_iff.1 hi'
   rw [List.getElem_range]
   obtain ⟨r,h1,_⟩:=each i (by simpa using hlt)
   rw [h1]
   have hs:=World.cells?_some h1
   refine ⟨hs.2.1,fun j hj=>?_⟩
   have:=hs.2.2 j hj
   rw [Addr.add_add] at this
   rw [Nat.zero_add,this]
   simp [hs.2.1,hj])
  simpa using this
end
end Go.GAM
namespace Go.GAM
open Go.RowKit Go.ChangeShapes
theorem Upd.own {h h1 h2:aA} {id:Nat} (a:Upd (fun _=>False) h h1) (b:Upd (· = id) h1 h2) (hid:h.length≤id):Upd (fun _=>False) h h2:=a.trans b fun i hi e=>by omega
theorem Upd.then {h h1 h2:aA} (a:Upd (fun _=>False) h h1) (b:Upd (fun _=>False) h1 h2):Upd (fun _=>False) h h2:=a.trans b fun _ _ h=>h
theorem aP2 {zeros cs:List AV} {parts:List (Nat × Nat × AV)} {K:AV→Prop} (hf:fJ zeros parts=some cs) (hk:K (.ag cs)):iC zeros parts K:=by
 unfold iC; rw [hf]; exact hk
def RdI (sz:Nat) (h:aA) (v:AV) (cs:List AV) (len:Nat):Prop:=
 (v = .sl none 0 none∧len=0∧cs=[])∨(len=0∧cs=[]∧∃ a c,v = .sl (some a) 0 c)∨∃ id ver off cap b,v = .sl (some ⟨id,ver,off⟩) len cap∧h[id]? = some b∧b.floor≤ver∧ver≤b.cells.length∧off+len * sz≤ver∧(b.cells.drop off).take (len * sz)=cs
theorem Rd.i {sz:Nat} {h:aA} {v:AV} {cs:List AV} {len:Nat} (R:Rd sz h v cs len):RdI sz h v cs len:=by
 rcases R with h1 | ⟨id,ver,off,cap,b,h1,h2,h3,h4⟩
 ·exact .inl h1
 ·exact .inr (.inr ⟨id,ver,off,cap,b,h1,h2,h4⟩)
theorem kL.i {sz:Nat} {h:aA} {v:AV} {cs:List AV} {len:Nat} (R:kL sz h v cs len):RdI sz h v cs len:=by
 rcases R with R | h1
 ·exact R.i
 ·exact .inr (.inl h1)
theorem RdI.ext {sz:Nat} {h h':aA} {v:AV} {cs:List AV} {len:Nat} (R:RdI sz h v cs len) (U:Upd (fun _=>False) h h'):RdI sz h' v cs len:=by
 rcases R with h1 | h1 | ⟨id,ver,off,cap,b,rfl,h2,h3⟩
 ·exact .inl h1
 ·exact .inr (.inl h1)
 ·exact .inr (.inr ⟨id,ver,off,cap,b,rfl,(U.2 id (bH h2) fun h=>h).trans h2,h3⟩)
theorem RdI.len {sz:Nat} {h:aA} {v:AV} {cs:List AV} {len:Nat} (R:RdI sz h v cs len) {K:Int→Prop} (hk:K len):bJ v K:=by
 rcases R with ⟨rfl,rfl,rfl⟩ | ⟨rfl,_,a,c,rfl⟩ | ⟨id,ver,off,cap,b,rfl,h2⟩ <;> exact hk
theorem RdI.isSl {sz:Nat} {h:aA} {v:AV} {cs:List AV} {len:Nat} (R:RdI sz h v cs len):∃ a n c,v = .sl a n c:=by
 rcases R with ⟨rfl,rfl,rfl⟩ | ⟨rfl,_,a,c,rfl⟩ | ⟨id,ver,off,cap,b,rfl,h2⟩ <;> exact ⟨_,_,_,rfl⟩
def aC9 (sz:Nat) (h:aA) (p:AV) (cs:List AV):Prop:=∃ id ver off,p = .p (some ⟨id,ver,off⟩)∧∃ b:ABlk,h[id]? = some b∧b.floor≤ver∧ver≤b.cells.length∧off+sz≤ver∧(b.cells.drop off).take sz=cs
theorem RdI.at {sz:Nat} {h:aA} {v:AV} {cs:List AV} {len:Nat} (R:RdI sz h v cs len) {i:Nat} (h1:i<len):∃ p,aC9 sz h p ((cs.drop (i * sz)).take sz)∧∀ (k:IntKind) (h':aA) (K:AV→Prop),Upd (fun _=>False) h h'→K p→aB sz v (.i k (i:Int)) h' K:=by
 rcases R with ⟨rfl,rfl,rfl⟩ | ⟨rfl,_⟩ | ⟨id,ver,off,cap,b,rfl,h2,h4,h5,h6,rfl⟩
 ·omega
 ·omega
 ·have e1 : (i + 1) * sz ≤ len * sz := Nat.mul_le_mul_right _ (by omega)
  rw [Nat.add_mul] at e1
  refine ⟨.p (some ⟨id,ver,off+i * sz⟩),⟨id,ver,off+i * sz,rfl,b,h2,h4,h5,by omega, ?_⟩,fun k h' K U hk=>?_⟩
  ·rw [List.drop_take,List.drop_drop,List.take_take,Nat.min_eq_left (by omega)]
  ·refine ⟨by omega, by omega, ⟨b, (U.2 id (bH h2) fun h => h).trans h2, h4, by omega⟩, ?_⟩
   simpa using hk
theorem aC9.ext {sz:Nat} {h h':aA} {p:AV} {cs:List AV} (A:aC9 sz h p cs) (U:Upd (fun _=>False) h h'):aC9 sz h' p cs:=by
 obtain ⟨id,ver,off,rfl,b,h1,h2⟩:=A
 exact ⟨id,ver,off,rfl,b,(U.2 id (bH h1) fun h=>h).trans h1,h2⟩
theorem aC9.loadN {sz:Nat} {h:aA} {p:AV} {cs:List AV} (A:aC9 sz h p cs) {K:AV→Prop} (hk:K (.ag cs)):aD sz p h K:=by
 obtain ⟨id,ver,off,rfl,b,h1,h2,h3,h4,rfl⟩:=A
 exact ⟨b,h1,⟨h2,h3,h4⟩,hk⟩
theorem aC9.load1 {h:aA} {p:AV} {c:AV} (A:aC9 1 h p [c]) {K:AV→Prop} (hk:K c):aE p h K:=by
 obtain ⟨id,ver,off,rfl,b,h1,h2,h3,h4,h5⟩:=A
 refine ⟨b,h1,⟨h2,h3,h4⟩, ?_⟩
 have:b.cells[off]? = some c:=by
  have:((b.cells.drop off).take 1)[0]? = some c:=by rw [h5] <;> rfl
  rw [List.getElem?_take_of_lt (by omega),List.getElem?_drop] at this
  simpa using this
 show K (b.cells.getD off .u)
 rw [getD_some this]; exact hk
theorem RdI.str {h h':aA} {v:AV} {l:List (List UInt8)} (R:RdI 1 h v (l.map .s) l.length) (U:Upd (fun _=>False) h h') {k:IntKind} {i:Nat} {x:List UInt8} (hx:l[i]? = some x) {K:List UInt8→Prop} (hk:K x):aB 1 v (.i k (i:Int)) h' fun a=>aE a h' fun y=>asS y K:=by
 obtain ⟨p,A,hp⟩:=R.at (bH hx)
 have e:((l.map AV.s).drop (i * 1)).take 1=[.s x]:=by
  rw [Nat.mul_one, ← List.map_drop,eR hx] <;> rfl
 rw [e] at A
 exact hp k h' _ U ((A.ext U).load1 (bA hk))
section
variable {H:Type} {enc:TypeId × Value→H} {P:Program} {w:World} {t:TypeId} {cs:List Value}
end
end Go.GAM
namespace Go.GAM
open Go.RowKit
end Go.GAM
namespace Go.Proofs.YtcdkpkkdolmfdaaGreatDoor
open Go.GAM Go.RowKit
structure eH where
 serial:List UInt8
 issuer:List UInt8
 subject:List UInt8
 frm:Int
 til:Int
 names:List (List UInt8)
 auth:Bool
 key:List UInt8
def jU (c:eH) (v:AV):List AV:=[.s c.serial,.s c.issuer,.s c.subject,.i .i64 c.frm,.i .i64 c.til,v,.b c.auth,.s c.key]
def CV (h:aA) (c:eH) (cs:List AV):Prop:=∃ v,cs=jU c v∧RdI 1 h v (c.names.map .s) c.names.length
theorem CV.ext {h h':aA} {c:eH} {cs:List AV} (A:CV h c cs) (U:Upd (fun _=>False) h h'):CV h' c cs:=by
 obtain ⟨v,h1,h2⟩:=A; exact ⟨v,h1,h2.ext U⟩
theorem CV.len {h:aA} {c:eH} {cs:List AV} (A:CV h c cs):cs.length=8:=by obtain ⟨v,rfl,_⟩:=A; rfl
theorem CV.ok {h:aA} {c:eH} {cs:List AV} (A:CV h c cs):cs.all AV.cellOK=true:=by
 obtain ⟨v,rfl,R⟩:=A
 obtain ⟨a,n,k,rfl⟩:=R.isSl
 rfl
theorem aK4:aBH prog 9 (fun l:List UInt8=>AV.s l):=aHY Tryz.underlying9
end Go.Proofs.YtcdkpkkdolmfdaaGreatDoor
namespace Go.GAM
def num (n:Nat):AV:=.i .i64 (n:Int)
end Go.GAM
namespace Go.Proofs.YtcdkpkkdolmfdaaGreatDoor
open Go.GAM Go.RowKit
def aOI (a:List UInt8):List (List UInt8)→List (List UInt8)
 | []=>[a]
 | b :: l=>(a++b) :: l
def eF (sp:UInt8):List UInt8→List (List UInt8)
 | []=>[[]]
 | c :: r=>if c=sp then [] :: eF sp r else aOI [c] (eF sp r)
section
variable {sp:UInt8}
theorem yF (sp:UInt8) (s:List UInt8):eF sp s≠[]:=by
 cases s with
 | nil=>simp [eF]
 | cons c r =>
  unfold eF
  split
  ·simp
  ·cases eF sp r <;> simp [aOI]
theorem aAX (a:List UInt8) {l:List (List UInt8)} (h:l≠[]):(aOI a l).length=l.length:=by cases l with
 | nil=>exact absurd rfl h
 | cons b l=>rfl
theorem rP:∀ s:List UInt8,(eF sp s).length=Lib.countByte s sp+1
 | []=>rfl
 | c :: r => by
  have:=rP r
  unfold Lib.countByte at this ⊢
  unfold eF
  split
  ·rename_i h; subst h; simp [this]
  ·rename_i h
   rw [aAX _ (yF sp r),this,List.count_cons_of_ne h]
theorem vJ : ∀ s : List UInt8, Lib.indexByte s sp < 0 → eF sp s = [s]
 | [],_=>rfl
 | c :: r, h => by
  unfold Lib.indexByte at h
  split at h
  ·omega
  ·rename_i h1
   split at h
   ·rename_i h2
    rw [eF,if_neg (by simpa using h1),vJ r (by simp at h2; omega)] <;> rfl
   ·have := Lib.indexByte_ge r sp
    rename_i h2
    simp at h2; omega
theorem uZ : ∀ (s : List UInt8) (m : Nat), Lib.indexByte s sp = (m : Int) → m < s.length ∧ eF sp s = s.take m :: eF sp (s.drop (m + 1))
 | [],m,h=>by simp [Lib.indexByte] at h
 | c :: r, m, h => by
  unfold Lib.indexByte at h
  split at h
  ·rename_i h1
   have:m=0:=by omega
   subst this
   simp at h1
   subst h1
   exact ⟨by simp,by simp [eF]⟩
  ·rename_i h1
   split at h
   ·omega
   ·rename_i h2
    have:=Lib.indexByte_ge r sp
    simp at h1 h2
    obtain ⟨m',hm'⟩:∃ m':Nat,Lib.indexByte r sp=(m':Int):=⟨(Lib.indexByte r sp).toNat,by omega⟩
    have:m=m'+1:=by omega
    subst this
    obtain ⟨h3,h4⟩:=uZ r m' hm'
    exact ⟨by simpa using h3,by rw [eF,if_neg h1,h4] <;> rfl⟩
section
variable {s:List UInt8} {h0:aA} {Q:AV→aA→Prop}
theorem aO8 {rest:List UInt8} {done:List (List UInt8)} {v:AV} {h:aA} (hd:done.length≤1000000) (A:eX 1 h0 h v (done.map AV.s++List.replicate 1 (.s [])) (done.length+1))
  (hq:∀ v h',gB h0 h' v ((done++[rest]).map .s)→Q v h'):Y29.p2 (aL h0 Q) rest v (done.length:Nat) h:=by
 refine Y29.i2 ?_
 simp only [Y29.t2]
 refine A.arr.store (by omega) rfl rfl rfl fun h' U A'=>inc (by omega) ?_
 have e:(done.map AV.s++List.replicate 1 (AV.s [])).set done.length (AV.s rest)=(done++[rest]).map AV.s:=by
  rw [List.set_append_right _ _ (by simp)]; simp
 rw [e] at A'
 have S:=A'.stk.2
 have S':gB h0 h' v ((done++[rest]).map .s):=⟨A.upd.trans U fun i hi hs=>absurd (A.new i hs) (by omega),S,A.new⟩
 refine S'.cut (n:=done.length+1) (by simp) fun v' S2 F=>.inl (hq v' h' ?_)
 rw [List.take_of_length_le (by simp)] at S2
 exact S2
theorem aP0 : ∀ (k : Nat) (rest : List UInt8) (done : List (List UInt8)) (v : AV) (h : aA), (eF sp rest).length = k + 1 → done.length + k ≤ 1000000 → rest.length ≤ 100000 → eX 1 h0 h v (done.map AV.s ++ List.replicate (k + 1) (.s [])) (done.length + (k + 1)) →
  (∀ v h',gB h0 h' v ((done++eF sp rest).map .s)→Q v h')→Y29.p1 (aL h0 Q) rest [sp] 0 (done.length+k:Nat) v (done.length:Nat) h:=by
 intro k
 induction k with
 | zero =>
  intro rest done v h hk hd hr A hq
  refine Y29.i1 ?_
  simp only [Y29.t1, ← Y29.p1.eq_1, ← Y29.p2.eq_1]
  have e:eF sp rest=[rest]:=by
   rcases Int.lt_or_le (Lib.indexByte rest sp) 0 with h1 | h1
   ·exact vJ rest h1
   ·obtain ⟨m, hm⟩ : ∃ m : Nat, Lib.indexByte rest sp = (m : Int) := ⟨(Lib.indexByte rest sp).toNat, by omega⟩
    obtain ⟨_,h2⟩:=uZ rest m hm
    rw [h2] at hk
    have:=yF sp (rest.drop (m+1))
    have:0<(eF sp (rest.drop (m+1))).length:=List.length_pos_iff.2 this
    simp only [List.length_cons] at hk; omega
  rw [e] at hq
  exact aN (by simp) (aO8 (by omega) A hq)
 | succ k ih =>
  intro rest done v h hk hd hr A hq
  refine Y29.i1 ?_
  simp only [Y29.t1, ← Y29.p1.eq_1, ← Y29.p2.eq_1]
  refine aO (by simp; omega) (aQE (aCU ?_))
  have h1:0≤Lib.indexByte rest sp:=by
   rcases Int.lt_or_le (Lib.indexByte rest sp) 0 with h1 | h1
   ·rw [vJ rest h1] at hk; simp at hk
   ·exact h1
  obtain ⟨m,hm⟩:∃ m:Nat,Lib.indexByte rest sp=(m:Int):=⟨(Lib.indexByte rest sp).toNat,by omega⟩
  obtain ⟨h2,h3⟩:=uZ rest m hm
  rw [hm]
  refine aN (by simp) (aI (n:=(m:Int)) (by rw [aJ (by omega) (by omega)]; omega) (kW (by omega) ?_))
  refine A.arr.store (by omega) rfl rfl rfl fun h' U A'=>?_
  refine aI (n:=((m+1:Nat):Int)) (by rw [aJ (by simp only [List.length_singleton]; omega) (by simp only [List.length_singleton]; omega)] <;> rfl) (gY (by omega) (inc (by omega) ?_))
  have e:(done.map AV.s++List.replicate (k+1+1) (AV.s [])).set done.length (AV.s (rest.take m))=(done++[rest.take m]).map AV.s++List.replicate (k+1) (AV.s []):=by
   rw [List.set_append_right _ _ (by simp)]; simp [List.replicate_succ]
  rw [e] at A'
  have hl:(done++[rest.take m]).length=done.length+1:=by simp
  have:=ih (rest.drop (m+1)) (done++[rest.take m]) v h' (by rw [h3] at hk; simpa using hk) (by rw [hl]; omega) (by simp; omega)
   ⟨A.upd.trans U fun i hi hs=>absurd (A.new i hs) (by omega),by rw [hl]; rw [show done.length+1+(k+1)=done.length+(k+1+1) by omega]; exact A',A.new⟩
   (by rw [h3] at hq; simpa using hq)
  rw [hl,show done.length+1+k=done.length+(k+1) by omega] at this
  exact this
theorem aM2 {h:aA} (hs:s.length≤100000) (hq:∀ v h',gB h h' v ((eF sp s).map .s)→Q v h'):C Y89.id [.s s,.s [sp]] h Q:=by
 refine Y89.call ?_
 simp only [Y89.t]
 have hc:Lib.countByte s sp≤s.length:=List.count_le_length
 have hsl:=rP (sp:=sp) s
 refine Y29.call ?_
 simp only [Y29.t, ← Y29.p0.eq_1]
 refine aN rfl (aN rfl (aO rfl (aO9 (aCU (inc (by omega) ?_)))))
 refine Y29.i0 ?_
 simp only [Y29.t0, ← Y29.p1.eq_1]
 refine inc (by omega) ?_
 have hm:mmI false ((Lib.countByte s sp+1:Nat):Int) ((s.length+1:Nat):Int)=((Lib.countByte s sp+1:Nat):Int):=by
  unfold mmI
  simp only [cond_false]
  rw [if_neg (by omega)]
 rw [hm]
 refine aE1 (by omega) (by omega) fun v h' A=>?_
 refine aI (n:=((Lib.countByte s sp:Nat):Int)) (by rw [aJ (by omega) (by omega)]; omega) ?_
 have:=aP0 (h0:=h) (Q:=fun v1 h2=>aL h Q v1 h2) (Lib.countByte s sp) s [] v h' hsl (by simp; omega) hs (by simpa using A) fun v h' S=>.inl (hq v h' (by simpa using S))
 simpa using this
end
end
end Go.Proofs.YtcdkpkkdolmfdaaGreatDoor
namespace Go.GAM
theorem kL.upd {sz:Nat} {M:Nat→Prop} {h h':aA} {v:AV} {cs:List AV} {len:Nat} (R:kL sz h v cs len) (U:Upd M h h') (hM:∀ id,bU v id→id<h.length→¬ M id):kL sz h' v cs len:=by
 rcases R with R | R
 ·exact .inl (R.upd U fun id hs=>hM id hs (R.lt hs))
 ·exact .inr R
theorem kL.at {sz:Nat} {h:aA} {v:AV} {cs:List AV} {len:Nat} (R:kL sz h v cs len) (hl:len≠0):∃ id ver off cap b,v = .sl (some ⟨id,ver,off⟩) len cap∧lP sz h id ver off b cs len:=by
 rcases R.rd hl with ⟨_,h0,_⟩ | ⟨id,ver,off,cap,b,h1,h2,h3,h4,h5,h6,h7⟩
 ·exact absurd h0 hl
 ·exact ⟨id,ver,off,cap,b,h1,h2,h3,h4,h5,h6,h7⟩
theorem m8 {sz:Nat} {h:aA} {id ver off:Nat} {b:ABlk} {cs:List AV} {len i:Nat} {r:List AV} {K:AV→Prop} (R:lP sz h id ver off b cs len) (hi:i<len) (hr:(cs.drop (i * sz)).take sz=r) (hk:K (.ag r)):aD sz (.p (some ⟨id,ver,off+i * sz⟩)) h K:=by
 have h1:(i+1) * sz≤len * sz:=Nat.mul_le_mul_right _ hi
 rw [Nat.add_mul] at h1
 have h2:=R.end_
 refine ⟨b,R.1,⟨R.3,R.4,by simp only; omega⟩, ?_⟩
 have e:(b.cells.drop (off+i * sz)).take sz=r:=by
  rw [← hr, ← R.cel,List.drop_take,List.drop_drop,List.take_take,Nat.min_eq_left (by omega)]
 simp only [e]
 exact hk
theorem jI {sz:Nat}:∀ (rows:List (List AV)) (i:Nat) (r:List AV),(∀ r∈rows,r.length=sz)→rows[i]? = some r→(rows.flatten.drop (i * sz)).take sz=r
 | [],i,r,_,h=>by simp at h
 | a :: rows, 0, r, h1, h => by
  simp at h; subst h
  have:=h1 a (by simp)
  rw [List.flatten_cons,Nat.zero_mul,List.drop_zero, ← this,List.take_left']
  first | done | rfl
 | a :: rows, i + 1, r, h1, h => by
  have h2:=h1 a (by simp)
  have:=jI rows i r (fun r hr=>h1 r (by simp [hr])) (by simpa using h)
  rw [List.flatten_cons,Nat.add_mul,Nat.one_mul,List.drop_append,List.drop_eq_nil_of_le (by omega),List.nil_append,show i * sz+sz - a.length=i * sz by omega]
  exact this
end Go.GAM
namespace Go.Proofs.YtcdkpkkdolmfdaaGreatDoor
open Go.GAM Go.RowKit
inductive Der where
 | mk (c t:Int) (m:Bool) (s:List UInt8) (ks:List Der)
mutual
def Der.sz:Der→Nat
 | .mk _ _ _ _ ks=>1+szs ks
def szs:List Der→Nat
 | []=>0
 | k :: r=>k.sz+szs r
end
theorem mB:∀ {ks:List Der} {k:Der},k∈ks→k.sz≤szs ks
 | [],k,h=>by cases h
 | a :: r, k, h => by
  unfold szs
  rcases List.mem_cons.1 h with rfl | h
  ·omega
  ·have:=mB h; omega
theorem lY:∀ ks:List Der,ks.length≤szs ks
 | []=>by simp [szs]
 | k :: r => by
  have:=lY r
  have:0<k.sz:=by cases k; unfold Der.sz; omega
  simp only [szs,List.length_cons]; omega
theorem dU (k:Der):0<k.sz:=by cases k; unfold Der.sz; omega
mutual
inductive DV (h:aA) (F:Nat→Prop):Der→List AV→Prop
 | mk {c t:Int} {m:Bool} {s:List UInt8} {ks:List Der} {v:AV} {rows:List (List AV)} (hks:DVs h F ks rows) (hv:kL 5 h v rows.flatten rows.length) (hF:∀ i,bU v i→F i∧i<h.length) (hc:v.cellOK=true):DV h F (.mk c t m s ks) [.i .i64 c,.i .i64 t,.b m,.s s,v]
inductive DVs (h:aA) (F:Nat→Prop):List Der→List (List AV)→Prop
 | nil:DVs h F [] []
 | cons {k:Der} {ks:List Der} {r:List AV} {rows:List (List AV)} (hk:DV h F k r) (hks:DVs h F ks rows):DVs h F (k :: ks) (r :: rows)
end
theorem DV.len {h:aA} {F:Nat→Prop} {d:Der} {cs:List AV} (D:DV h F d cs):cs.length=5:=by cases D; rfl
theorem DVs.len5 {h:aA} {F:Nat→Prop}:∀ {ks:List Der} {rows:List (List AV)},DVs h F ks rows→∀ r∈rows,r.length=5
 | _,_,.nil,r,hr=>by cases hr
 | _, _, .cons hk hks, r, hr => by
  rcases List.mem_cons.1 hr with rfl | h
  ·exact hk.len
  ·exact hks.len5 r h
theorem DVs.length {h:aA} {F:Nat→Prop}:∀ {ks:List Der} {rows:List (List AV)},DVs h F ks rows→ks.length=rows.length
 | _,_,.nil=>rfl
 | _,_,.cons _ hks=>by simp [hks.length]
theorem DVs.get {h:aA} {F:Nat→Prop}:∀ {ks:List Der} {rows:List (List AV)} {i:Nat} {k:Der},DVs h F ks rows→ks[i]? = some k→∃ r,rows[i]? = some r∧DV h F k r
 | _,_,i,k,.nil,hi=>by simp at hi
 | _,_,0,k,.cons hk _,hi=>by simp at hi; subst hi; exact ⟨_,rfl,hk⟩
 | _, _, i + 1, k, .cons _ hks, hi => by
  obtain ⟨r,h1,h2⟩:=hks.get (i:=i) (by simpa using hi)
  exact ⟨r,by simpa using h1,h2⟩
theorem DVs.app {h:aA} {F:Nat→Prop}:∀ {ks:List Der} {rows:List (List AV)} {k:Der} {r:List AV},DVs h F ks rows→DV h F k r→DVs h F (ks++[k]) (rows++[r])
 | _,_,_,_,.nil,hk=>.cons hk .nil
 | _,_,_,_,.cons h1 hks,hk=>.cons h1 (hks.app hk)
theorem DV.upd_n {M F F' : Nat → Prop} {h h' : aA} (U : Upd M h h') (hM : ∀ i, F i → i < h.length → ¬ M i ∧ F' i) : ∀ n, (∀ d cs, d.sz ≤ n → DV h F d cs → DV h' F' d cs) ∧ ∀ ks rows, szs ks ≤ n → DVs h F ks rows → DVs h' F' ks rows := by
 intro n
 induction n with
 | zero =>
  refine ⟨fun d cs hd=>absurd hd (by have:=dU d; omega),fun ks rows hk D=>?_⟩
  cases D with
  | nil=>exact .nil
  | cons h1 h2=>rename_i k ks r rows; have:=dU k; unfold szs at hk; omega
 | succ n ih =>
  have hV:∀ d cs,d.sz≤n+1→DV h F d cs→DV h' F' d cs:=by
   intro d cs hd D
   cases D with
   | mk hks hv hF hc =>
    unfold Der.sz at hd
    exact .mk (ih.2 _ _ (by omega) hks) (hv.upd U fun i hs hl=>(hM i (hF i hs).1 hl).1) (fun i hs=>⟨(hM i (hF i hs).1 (hF i hs).2).2,Nat.lt_of_lt_of_le (hF i hs).2 U.1⟩) hc
  refine ⟨hV,fun ks rows=>?_⟩
  induction ks generalizing rows with
  | nil=>intro _ D; cases D; exact .nil
  | cons k ks ihk =>
   intro hk D
   unfold szs at hk
   cases D with
   | cons h1 h2=>exact .cons (hV _ _ (by omega) h1) (ihk _ (by omega) h2)
theorem DV.upd {M F F':Nat→Prop} {h h':aA} {d:Der} {cs:List AV} (D:DV h F d cs) (U:Upd M h h') (hM:∀ i,F i→i<h.length→¬ M i∧F' i):DV h' F' d cs:=(DV.upd_n U hM d.sz).1 d cs (Nat.le_refl _) D
theorem DVs.upd {M F F':Nat→Prop} {h h':aA} {ks:List Der} {rows:List (List AV)} (D:DVs h F ks rows) (U:Upd M h h') (hM:∀ i,F i→i<h.length→¬ M i∧F' i):DVs h' F' ks rows:=(DV.upd_n U hM (szs ks)).2 ks rows (Nat.le_refl _) D
theorem DV.ext {F:Nat→Prop} {h h':aA} {d:Der} {cs:List AV} (D:DV h F d cs) (U:Upd (fun _=>False) h h'):DV h' F d cs:=D.upd U fun i hi _=>⟨fun h=>h,hi⟩
def z5:List AV:=[.i .i64 0,.i .i64 0,.b false,.s [],.sl none 0 none]
def Der.zero:Der:=.mk 0 0 false [] []
theorem DV.zero (h:aA) (F:Nat→Prop):DV h F .zero z5:=.mk .nil (.inl (.inl ⟨rfl,rfl,rfl⟩)) (fun i hi=>hi.elim) rfl
theorem DV.leaf (h:aA) (F:Nat→Prop) (c t:Int) (m:Bool) (s:List UInt8):DV h F (.mk c t m s []) [.i .i64 c,.i .i64 t,.b m,.s s,.sl none 0 none]:=.mk .nil (.inl (.inl ⟨rfl,rfl,rfl⟩)) (fun i hi=>hi.elim) rfl
section
variable {h0:aA} {Q:AV→aA→Prop}
end
end Go.Proofs.YtcdkpkkdolmfdaaGreatDoor
namespace Go.GAM
theorem Rd.dropAt {sz:Nat} {h:aA} {v:AV} {cs:List AV} {len:Nat} (R:Rd sz h v cs len) (hz:0<sz) {lo:Nat} (h1:lo≤len) {K:AV→Prop} (hk:∀ v',Rd sz h v' (cs.drop (lo * sz)) (len - lo)→K v') (z1:sz=1:=by rfl):cV sz v (some (.i .i64 (lo:Int))) none none h K:=by
 rcases R with ⟨rfl,h0,rfl⟩ | ⟨id,ver,off,cap,b,rfl,g2,g3,g4,g5,g6,g7⟩
 ·have : lo = 0 := by omega
  subst this
  exact ⟨by simp,rfl,rfl,rfl,fun h=>by simp at h,hk _ (.inl ⟨rfl,by omega,by simp⟩)⟩
 ·have e1 : lo * sz ≤ len * sz := Nat.mul_le_mul_right _ h1
  have e3:(len - lo) * sz=len * sz - lo * sz:=Nat.sub_mul _ _ _
  refine ⟨hz,fun h=>by simp at h,by omega,by simpa using h1,b,g2,by omega,g4,.inl (g3.elim (fun x=>x) fun x=>x.trans z1.symm),.inl (Nat.le_refl _), ?_⟩
  refine hk _ (.inr ⟨id,ver,off+lo * sz,cap.map (· - lo),b,by simp,g2,g3,g4,g5,by omega, ?_⟩)
  rw [← g7,List.drop_take,List.drop_drop,e3]
theorem Rd.at {sz:Nat} {h:aA} {v:AV} {cs:List AV} {len:Nat} (R:Rd sz h v cs len) (hl:len≠0):∃ id ver off cap b,v = .sl (some ⟨id,ver,off⟩) len cap∧lP sz h id ver off b cs len:=by
 rcases R with ⟨_,h0,_⟩ | ⟨id,ver,off,cap,b,h1,h2,h3,h4,h5,h6,h7⟩
 ·exact absurd h0 hl
 ·exact ⟨id,ver,off,cap,b,h1,h2,h3,h4,h5,h6,h7⟩
theorem eX.store {h0 h:aA} {v x:AV} {cs:List AV} {len:Nat} (A:eX 1 h0 h v cs len) {k:IntKind} {i:Nat} (hi:i<len) (hx:x.parts=[x]) (hs:x.sizeOK=true) (hc:x.cellOK=true) {K:aA→Prop} (hk:∀ h',eX 1 h0 h' v (cs.set i x) len→K h') :
  aB 1 v (.i k (i:Int)) h fun p=>aP 1 p x h K:=
 A.arr.store hi hx hs hc fun h' U A'=>hk h' ⟨A.upd.trans U fun j hj hs=>absurd (A.new j hs) (by omega),A',A.new⟩
theorem cO {h:aA} {id ver off:Nat} {b:ABlk} {l:List Nat} {len i n:Nat} {K:Int→Prop} (R:lP 1 h id ver off b (l.map num) len) (hi:i<len) (hn:l[i]? = some n) (hk:K (n:Int)):aE (.p (some ⟨id,ver,off+i * 1⟩)) h fun y=>asI .i64 y K:=
 aFS (o:=0) R hi Nat.one_pos (c:=num n) (by rw [Nat.mul_one,Nat.add_zero,List.getElem?_map,hn] <;> rfl) (aQ hk)
theorem Rd.nat {h:aA} {v:AV} {l:List Nat} {len i n:Nat} {k:IntKind} {K:Int→Prop} (R:Rd 1 h v (l.map num) len) (hi:i<len) (hn:l[i]? = some n) (hk:K (n:Int)):aB 1 v (.i k (i:Int)) h fun a=>aE a h fun y=>asI .i64 y K:=
 R.cell Nat.one_pos hi (c:=num n) (by rw [Nat.mul_one,List.getElem?_map,hn] <;> rfl) (aQ hk)
end Go.GAM
namespace Go.Proofs.YtcdkpkkdolmfdaaGreatDoor
open Go.GAM Go.RowKit
section
variable {h0:aA} {Q:AV→aA→Prop}
def Der.data:Der→List UInt8 | .mk _ _ _ s _=>s
def bZ (tag:Int):Der→Bool | .mk c t m s ks=>decide (c=0)&&(decide (t=tag)&&(!m&&decide (ks.length=0)))
def cR (c t:Int) (m:Bool) (s:List UInt8):List AV:=[.i .i64 c,.i .i64 t,.b m,.s s,.sl none 0 none]
theorem lQ {d:Der} {cs:List AV} {F:Nat→Prop} {tag:Int} {h:aA} (D:DV h F d cs) (hq:Q (.b (bZ tag d)) h):C Y42.id [.ag cs,.i .i64 tag] h Q:=by
 cases D with
 | @mk c t m s ks v rows Dk sv fv ov=>
 refine Y42.call ?_
 simp only [Y42.t, ← Y42.p0.eq_1]
 refine dP rfl fun h1 hl1 U1 B=>?_
 have S1:=sv.upd U1 fun _ _ _ h=>h
 have p0:∀ b,b=(decide (c=0)&&(decide (t=tag)&&(!m&&decide (ks.length=0))))→Y42.p0 (aL h Q) b h1:=by
  intro b hb
  refine Y42.i0 ?_
  simp only [Y42.t0]
  subst hb
  exact aU rfl U1.ext hq
 refine aK (aM B rfl rfl (aQ ?_))
 refine aG (fun e1=>aK (aM B rfl rfl (aQ ?_))) fun e1=>p0 _ (by rw [e1] <;> rfl)
 refine aG (fun e2=>aK (aM B rfl rfl (aS ?_))) fun e2=>p0 _ (by rw [e1,e2] <;> rfl)
 refine aG (fun e3=>aK (aM B rfl rfl (S1.len (p0 _ ?_)))) fun e3=>p0 _ (by rw [e1,e2,e3] <;> rfl)
 rw [e1,e2,e3, ← Dk.length]
 simp
theorem DV.box {ty:Option TypeId} {d:Der} {cs:List AV} {F:Nat→Prop} {h:aA} (D:DV h F d cs) {K:AV→aA→Prop} (hk:∀ h1,h1.length=h.length+1→Upd (fun _=>False) h h1→bC h1 h.length cs→DV h1 F d cs→K (.p (some ⟨h.length,5,0⟩)) h1):dQ ty (.ag cs) h K:=by
 refine dP rfl fun h1 hl1 U1 B=>?_
 have hp:(AV.ag cs).parts.length=5:=D.len
 rw [hp]
 exact hk h1 hl1 U1 B (D.ext U1)
theorem DV.dat {d:Der} {cs:List AV} {F:Nat→Prop} {h:aA} (D:DV h F d cs):cs[3]? = some (.s d.data):=by cases D; rfl
theorem j3 {a b:Nat} {K:Int→Prop} (hb:b≠0) (ha:a<9223372036854775808) (hk:K ((a / b:Nat):Int)):kS .i64 (a:Int) (b:Int) K:=by
 have h:=Nat.div_le_self a b
 refine zG (by omega) ?_ hk
 rw [Int.tdiv_eq_ediv_of_nonneg (by omega), ← Int.natCast_ediv]
 generalize a / b=y at h
 rw [aJ (by omega) (by omega)]
def digB (c:UInt8):Bool:=decide (48≤c.toNat)&&decide (c.toNat≤57)
theorem dF {c:UInt8} (h:digB c=true):48≤c.toNat∧c.toNat≤57:=by
 unfold digB at h; simpa using h
def gI:List UInt8→Nat→Bool→Option (List Nat)
 | [],_,begun=>if begun=true then none else some []
 | c :: r, n, begun => if begun = false ∧ c.toNat = 128 then none else if 268435456 ≤ n * 128 + c.toNat % 128 then none else
   if 128≤c.toNat then gI r (n * 128+c.toNat % 128) true else match gI r 0 false with
    | none=>none
    | some l=>some ((n * 128+c.toNat % 128) :: l)
def eL:List Nat→List UInt8
 | []=>[]
 | a :: r=>Lib.decDigits (min (a / 40) 2)++[46]++Lib.decDigits (a - 40 * min (a / 40) 2)++r.flatMap fun n=>46 :: Lib.decDigits n
def eB (d:Der):List UInt8 × Bool:=if bZ 6 d=true∧d.data≠[] then (match gI d.data 0 false with
 | none=>([],false)
 | some l=>(eL l,true)) else ([],false)
theorem aHK {l:List Nat} (h:l≠[]):eL l≠[]:=by
 cases l with
 | nil=>exact absurd rfl h
 | cons a r=>unfold eL; simp
theorem aEW {l:List Nat} (h:l≠[]) (n:Nat):eL (l++[n])=eL l++(46 :: Lib.decDigits n):=by
 cases l with
 | nil=>exact absurd rfl h
 | cons a r=>simp [eL]
theorem dA {n : Nat} (h : n < 1000000000) : (Lib.decDigits n).length ≤ 10 := by
 have key:∀ k n,n<10 ^ k→1≤k→(Lib.decDigits n).length≤k:=by
  intro k
  induction k with
  | zero=>intro n _ h; omega
  | succ k ih =>
   intro n hn _
   rw [Lib.decDigits]
   split
   ·simp
   ·rename_i h10
    have hk:1≤k:=by
     rcases Nat.eq_zero_or_pos k with h | h
     ·subst h; simp at hn; omega
     ·exact h
    have:=ih (n / 10) (by rw [Nat.pow_succ] at hn; omega) hk
    simp only [List.length_append,List.length_singleton]; omega
 exact key 10 n (by omega) (by omega)
theorem aE5 (a b:Nat):mmI false (a:Int) (b:Int)=((min a b:Nat):Int):=by
 unfold mmI
 simp only [cond_false]
 split <;> omega
theorem aHH {l : List Nat} (h : ∀ m ∈ l, m < 268435456) : (eL l).length ≤ 22 + 11 * l.length := by
 cases l with
 | nil=>simp [eL]
 | cons a r =>
  have ha:=h a (by simp)
  have h1:=dA (n:=min (a / 40) 2) (by omega)
  have h2:=dA (n:=a - 40 * min (a / 40) 2) (by omega)
  have h3:(r.flatMap fun n=>46 :: Lib.decDigits n).length≤11 * r.length:=by
   have hr:∀ m∈r,m<268435456:=fun m hm=>h m (by simp [hm])
   clear h h1 h2 ha
   induction r with
   | nil=>simp
   | cons b r ih =>
    have:=dA (n:=b) (by have:=hr b (by simp); omega)
    have:=ih fun m hm=>hr m (by simp [hm])
    rw [List.flatMap_cons,List.length_append,List.length_cons,List.length_cons]; omega
  unfold eL
  simp only [List.length_append,List.length_cons,List.length_nil] at *
  omega
def zE (x:List UInt8 × Bool):AV:=.tu [.s x.1,.b x.2]
def nK:Option (List Nat)→List Nat→List UInt8 × Bool
 | none,_=>([],false)
 | some l,done=>(eL (done++l),true)
end
end Go.Proofs.YtcdkpkkdolmfdaaGreatDoor
namespace Go.GAM
theorem lP.drop {sz:Nat} {h:aA} {id ver off:Nat} {b:ABlk} {cs:List AV} {len lo:Nat} {cap:Option Nat} {K:AV→Prop} (A:lP sz h id ver off b cs len) (hz:0<sz) (h1:lo≤len) (hk:K (.sl (some ⟨id,ver,off+lo * sz⟩) (len - lo) (cap.map (· - lo)))) (z1:sz=1:=by rfl):cV sz (.sl (some ⟨id,ver,off⟩) len cap) (some (.i .i64 (lo:Int))) none none h K:=by
 refine ⟨hz,fun h=>by simp at h,by omega,by simpa using h1,b,A.blk,by have:=A.flo; have:=A.vle; omega,A.flo,.inl (A.siz.elim (fun x=>x) fun x=>x.trans z1.symm),.inl (Nat.le_refl _),by simpa using hk⟩
theorem lP.dropRd {sz:Nat} {h:aA} {id ver off:Nat} {b:ABlk} {cs:List AV} {len lo:Nat} (A:lP sz h id ver off b cs len) (h1:lo≤len) (cap:Option Nat):Rd sz h (.sl (some ⟨id,ver,off+lo * sz⟩) (len - lo) cap) (cs.drop (lo * sz)) (len - lo):=by
 have e1:lo * sz≤len * sz:=Nat.mul_le_mul_right _ h1
 have e3:(len - lo) * sz=len * sz - lo * sz:=Nat.sub_mul _ _ _
 have e4:=A.end_
 refine .inr ⟨id,ver,off+lo * sz,cap,b,rfl,A.blk,A.siz,A.flo,A.vle,by omega, ?_⟩
 rw [← A.cel,List.drop_take,List.drop_drop,e3]
theorem eX.one {h0 h:aA} (U:Upd (fun _=>False) h0 h) {x:AV} {zeros:List AV} (hf:fJ zeros [(0,1,x)]=some [x]) {K:AV→aA→Prop} (hk:∀ v h',eX 1 h0 h' v [x] 1→Upd (fun _=>False) h h'→(∀ i,bU v i→h.length≤i)→K v h'):bD 1 1 zeros [(0,1,x)] h K:=by
 unfold bD
 rw [hf]
 refine ⟨rfl,hk _ _ ⟨U.trans (Upd.app _ _) fun _ _ h=>h,.inr ⟨h.length,bP [x] 1 true,rfl,by simp,rfl,rfl,rfl,Nat.le_refl _,rfl,rfl⟩,fun i hi=>?_⟩ (Upd.app _ _) fun i hi=>?_⟩
 ·cases hi; exact U.1
 ·cases hi; exact Nat.le_refl _
end Go.GAM
namespace Go.Proofs.YtcdkpkkdolmfdaaGreatDoor
open Go.GAM Go.RowKit
def nG (l:List UInt8):Nat:=l.foldl (fun n c=>n * 10+(c.toNat - 48)) 0
theorem uM (l:List UInt8) (c:UInt8):nG (l++[c])=nG l * 10+(c.toNat - 48):=by simp [nG]
theorem aBZ:∀ n (l:List UInt8),l.length=n→l.all digB=true→nG l<10 ^ n:=by
 intro n
 induction n with
 | zero=>intro l hl _; rw [List.eq_nil_of_length_eq_zero hl]; decide
 | succ n ih =>
  intro l hl ha
  have hne:l≠[]:=fun h=>by rw [h] at hl; simp at hl
  have e:=List.dropLast_concat_getLast hne
  rw [← e,List.all_append,Bool.and_eq_true] at ha
  have h1:=ih l.dropLast (by rw [List.length_dropLast]; omega) ha.1
  have h2:=ha.2
  simp only [List.all_cons,List.all_nil,Bool.and_true] at h2
  have h2:=dF h2
  rw [← e,uM,Nat.pow_succ]
  omega
def yH (s:List UInt8):Prop:=s.getD 0 0=48∧1<s.length
instance (s:List UInt8):Decidable (yH s):=by unfold yH; infer_instance
def rN (s:List UInt8):Option Nat:=if s≠[]∧s.length≤9∧¬ yH s∧s.all digB=true∧nG s<268435456 then some (nG s) else none
def aL2:Nat→Nat→List UInt8
 | 0,n=>[UInt8.ofNat (n % 128)]
 | k+1,n=>UInt8.ofNat (n / 2 ^ (7 * (k+1)) % 128+128) :: aL2 k n
def z8 (n:Nat):Nat:=if n<128 then 0 else if n<16384 then 1 else if n<2097152 then 2 else 3
def aBI (n:Nat):List UInt8:=aL2 (z8 n) n
def gV : List (List UInt8) → Option (List Nat)
 | []=>some []
 | w :: r => match rN w with
  | none=>none
  | some n => match gV r with
   | none=>none
   | some l=>some (n :: l)
def aAU (l:List Nat):Except Int (List UInt8):=match l with
 | a :: b :: r=>if 2<a∨(a<2∧40≤b)∨268435456≤40 * a+b then .error 2 else .ok (((40 * a+b) :: r).flatMap aBI)
 | _=>.error 2
def mL (s : List UInt8) : Except Int (List UInt8) :=
 if 256<s.length then .error 3 else match gV (eF 46 s) with
  | none=>.error 2
  | some l=>aAU l
theorem aBO (w:List UInt8) (r:List (List UInt8)):gV (w :: r)=match rN w with
  | none=>none
  | some n => match gV r with
   | none=>none
   | some l=>some (n :: l):=by rw [gV]
theorem aDS {l:List Nat} (h:l.length<2):aAU l = .error 2:=by
 match l,h with
 | [],_=>rfl
 | [a],_=>rfl
theorem aNX {l:List Nat} (h:¬ l.length<2):∃ a b r,l=a :: b :: r:=by
 match l,h with
 | [],h=>simp at h
 | [a],h=>simp at h
 | a :: b :: r,_=>exact ⟨a,b,r,rfl⟩
theorem aMF {s:List UInt8} {n:Nat} (h:rN s=some n):n<268435456:=by
 unfold rN at h
 split at h
 ·rename_i hc; cases h; exact hc.2.2.2.2
 ·cases h
theorem yR : ∀ {ws : List (List UInt8)} {l : List Nat}, gV ws = some l → (∀ n ∈ l, n < 268435456) ∧ l.length = ws.length
 | [],l,h=>by cases h; simp
 | w :: r, l, h => by
  unfold gV at h
  split at h
  ·cases h
  ·rename_i n hn
   split at h
   ·cases h
   ·rename_i l' hl
    cases h
    have:=yR hl
    refine ⟨fun m hm=>?_,by simp [this.2]⟩
    rcases List.mem_cons.1 hm with rfl | hm
    ·exact aMF hn
    ·exact this.1 m hm
section
variable {h0:aA} {Q:AV→aA→Prop}
def aOY (h:aA) (Q:AV→aA→Prop):Option Nat→Prop
 | some n=>Q (.tu [.i .i64 (n:Int),.b true]) h
 | none=>∀ x,Q (.tu [.i .i64 x,.b false]) h
theorem aIU {s : List UInt8} {h : aA} (hq : aOY h Q (rN s)) : C Y23.id [.s s] h Q := by
 refine Y23.call ?_
 simp only [Y23.t, ← Y23.p0.eq_1]
 have p0bad:rN s=none→Y23.p0 (aL h Q) s true h:=by
  intro hn
  rw [hn] at hq
  refine Y23.i0 ?_
  simp only [Y23.t0]
  exact aO rfl (.inl (hq 0))
 have p0ok : s ≠ [] → s.length ≤ 9 → ¬ yH s → Y23.p0 (aL h Q) s false h := by
  intro hne hl h48
  have go : ∀ (r : List UInt8) (i : Nat), s.drop i = r → i ≤ s.length → (s.take i).all digB = true → Y23.p1 (aL h Q) s (nG (s.take i) : Nat) s.length i h := by
   intro r
   induction r with
   | nil =>
    intro i hr hi ha
    have hle:=cA hr
    rw [List.take_of_length_le hle] at ha ⊢
    have hb:=aBZ s.length s rfl ha
    have hp:10 ^ s.length≤10 ^ 9:=Nat.pow_le_pow_right (by omega) hl
    refine Y23.i1 ?_
    simp only [Y23.t1]
    refine aN (by simp; omega) (.inl ?_)
    unfold rN at hq
    by_cases h28:nG s<268435456
    ·rw [if_pos ⟨hne, hl, h48, ha, h28⟩] at hq
     rw [decide_eq_true (by omega)]; exact hq
    ·rw [if_neg (fun hh => h28 hh.2.2.2.2)] at hq
     rw [decide_eq_false (by omega)]; exact hq _
   | cons c r ih =>
    intro i hr hi ha
    have hlt:=cG hr
    have hn:=b3 hr
    have hci:=b4 hr
    have hb:=aBZ i (s.take i) (by rw [List.length_take]; omega) ha
    have hp:10 ^ i≤10 ^ 9:=Nat.pow_le_pow_right (by omega) (by omega)
    have p2:∀ b,b = !digB c→Y23.p2 (aL h Q) s (nG (s.take i):Nat) i s.length i b h:=by
     intro b hb2
     refine Y23.i2 ?_
     simp only [Y23.t2, ← Y23.p1.eq_1]
     cases hd:digB c with
     | false =>
      rw [hd] at hb2
      have:rN s=none:=by
       unfold rN
       rw [if_neg (fun hh=>?_)]
       have h3:=hh.2.2.2.1
       rw [← List.take_append_drop i s,List.all_append,hr,List.all_cons,hd] at h3
       simp at h3
      rw [this] at hq
      exact aO hb2 (.inl (hq 0))
     | true =>
      rw [hd] at hb2
      have hdb:=dF hd
      refine aN hb2 ?_
      refine aI (n:=((nG (s.take i) * 10:Nat):Int)) (by rw [aJ (by omega) (by omega)]; omega) (cS hr ?_)
      refine aI (n:=((c.toNat - 48:Nat):Int)) (by rw [iJ (by omega) (by omega)]; omega) ?_
      refine aI (n:=((nG (s.take (i+1)):Nat):Int)) ?_ (inc (by omega) (ih (i+1) hn (by omega) ?_))
      ·rw [dH hci,uM,aJ (n:=((c.toNat - 48:Nat):Int)) (by omega) (by omega),aJ (by omega) (by omega)]; omega
      ·rw [dH hci,List.all_append,ha]; simp [hd]
    unfold digB at p2
    refine Y23.i1 ?_
    simp only [Y23.t1, ← Y23.p2.eq_1]
    refine aO (by simp; omega) (cS hr ?_)
    refine aG (fun e=>p2 _ ?_) fun e=>cS hr (p2 _ ?_)
    ·simp only [decide_eq_true_eq] at e
     rw [decide_eq_false (by omega:¬ 48≤c.toNat)] <;> rfl
    ·simp only [decide_eq_false_iff_not] at e
     rw [decide_eq_true (by omega:48≤c.toNat),Bool.true_and, ← decide_not,decide_eq_decide]; omega
  refine Y23.i0 ?_
  simp only [Y23.t0, ← Y23.p1.eq_1]
  exact aN rfl (go s 0 rfl (by omega) rfl)
 by_cases hne:s=[]
 ·exact aO (by simp [hne]) (p0bad (by unfold rN; rw [if_neg (fun hh=>hh.1 hne)]))
 refine aN (by simp [hne]) ?_
 by_cases hl:9<s.length
 ·exact aO (by simp; omega) (p0bad (by unfold rN; rw [if_neg (fun hh=>by have:=hh.2.1; omega)]))
 refine aN (by simp; omega) ?_
 obtain ⟨c,hc⟩:∃ c,s[0]? = some c:=⟨_,List.getElem?_eq_getElem (List.length_pos_iff.2 hne)⟩
 have hg:s.getD 0 0=c:=getD_some hc
 refine kM (i:=0) hc ?_
 rw [show (48:Int)=(((48:UInt8).toNat:Nat):Int) from rfl,iZ]
 by_cases h48:c=48
 ·refine aO (by simp [h48]) ?_
  by_cases h1:1<s.length
  ·rw [decide_eq_true (by omega)]
   refine p0bad ?_
   unfold rN
   rw [if_neg (fun hh=>hh.2.2.1 ⟨by rw [hg,h48],h1⟩)]
  ·rw [decide_eq_false (by omega)]
   exact p0ok hne (by omega) (fun hh=>h1 hh.2)
 ·refine aN (by simp [h48]) (p0ok hne (by omega) (fun hh=>h48 (by rw [← hg]; exact hh.1)))
def aK7:Except Int (List UInt8)→AV
 | .error e=>.tu [.ag z5,.i .i64 e]
 | .ok l=>.tu [.ag (cR 0 6 false l),.i .i64 0]
theorem aEF {x:Nat} (hx:x<2 ^ 62):cD .and .i64 (x:Int) 127=((x % 128:Nat):Int):=qQ (n:=7) hx (by omega)
theorem aP4 {x:Nat} (hx:x<128):cD .or .i64 (x:Int) 128=((x+128:Nat):Int):=by
 have h:∀ x,x<128→x ||| 128=x+128:=by decide +kernel
 have:=oI (x:=x) (y:=128) (by omega) (by omega)
 rw [h x hx] at this
 exact this
theorem z7 {h h1 hx:aA} {id:Nat} {z:List AV} {c t e:Int} {s:List UInt8} (hz:z.length=5) (R:bC hx id z) (hid:h.length≤id) (U:Upd (fun _=>False) h hx) (hq:∀ h',Upd (fun _=>False) h h'→Q (.tu [.ag (cR c t false s),.i .i64 e]) h') :
  aP 5 (.p (some ⟨id,5,0⟩)) (.ag [.i .i64 c,.i .i64 t,.b false,.s s,.sl none 0 none]) hx fun h5=>aD 5 (.p (some ⟨id,5,0⟩)) h5 fun v7=>aL h Q (.tu [v7,.i .i64 e]) h5:=by
 refine aW R hz.symm rfl rfl fun h5 hl5 U5 R5=>aT R5 rfl (.inl (hq h5 ?_))
 exact (U.trans U5 fun i hi he=>absurd he (by omega))
theorem aN9 {h h1 h2 : aA} {id : Nat} {w : AV} {l : List Nat} (hid : h.length ≤ id) (U1 : Upd (fun _ => False) h h1) (U2 : Upd (fun _ => False) h h2) (R : bC h2 id z5) (W : Rd 1 h2 w (l.map num) l.length) (hll : l.length ≤ 1000) (hb : ∀ n ∈ l, n < 268435456)
  (hq:∀ h',Upd (fun _=>False) h h'→Q (.tu [.ag (cR 0 6 false (l.flatMap aBI)),.i .i64 0]) h') :
  ∀ (r:List Nat) (i:Nat) (v:AV) (o:List UInt8) (hx:aA),l.drop i=r→i≤l.length→o.length≤4 * i→o++r.flatMap aBI=l.flatMap aBI→Tx h2 hx v o→Y7.p2 (aL h Q) (.p (some ⟨id,5,0⟩)) v w l.length i hx:=by
 intro r
 induction r with
 | nil =>
  intro i v o hx hr hi hol ho T
  have hle:=cA hr
  refine Y7.i2 ?_
  simp only [Y7.t2]
  rw [List.flatMap_nil,List.append_nil] at ho
  subst ho
  exact aN (by simp; omega) (T.str (z7 (h1:=h1) rfl (R.upd T.upd fun h=>h) hid (U2.trans T.upd fun _ _ h=>h) hq))
 | cons n r ih =>
  intro i v o hx hr hi hol ho T
  have hlt:=cG hr
  have hn:=b3 hr
  have hni:=b4 hr
  have hnb:=hb n (List.mem_of_getElem? hni)
  have W':=W.upd T.upd fun _ _ h=>h
  rw [List.flatMap_cons] at ho
  have p4:∀ (k:Nat) (v:AV) (o':List UInt8) (hx:aA),k≤3→o'.length+k≤4 * i+3→o'++aL2 k n=o++aBI n→Tx h2 hx v o'→Y7.p4 (aL h Q) (.p (some ⟨id,5,0⟩)) v n k w l.length i hx:=by
   intro k
   induction k with
   | zero =>
    intro v o' hx hk hol' ho' T
    refine Y7.i4 ?_
    simp only [Y7.t4, ← Y7.p2.eq_1]
    refine aN (by simp) (aI (aEF (by omega)) ?_)
    rw [cJ,Nat.mod_eq_of_lt (show n % 128<256 by omega)]
    have e:((n % 128:Nat):Int)=((UInt8.ofNat (n % 128)).toNat:Int):=by rw [UInt8.toNat_ofNat']; omega
    rw [e]
    refine T.push (by omega) fun v' h' T'=>inc (by omega) (ih (i+1) v' _ h' hn (by omega) (by simp; omega) ?_ T')
    rw [show o'++[UInt8.ofNat (n % 128)]=o++aBI n from ho',List.append_assoc]
    exact ho
   | succ k ihk =>
    intro v o' hx hk hol' ho' T
    refine Y7.i4 ?_
    simp only [Y7.t4, ← Y7.p4.eq_1]
    refine aO (by simp) ?_
    refine aI (n:=((7 * (k+1):Nat):Int)) (by rw [aJ (by omega) (by omega)]; omega) (lU (k:=.i64) (by show 7 * (k+1)≤64; omega) ?_)
    have hd:n / 2 ^ (7 * (k+1))≤n:=Nat.div_le_self _ _
    unfold aL2 at ho'
    generalize n / 2 ^ (7 * (k+1))=y at hd ho'
    refine aI (aEF (by omega)) (aI (aP4 (Nat.mod_lt _ (by omega))) ?_)
    have hm:y % 128<128:=Nat.mod_lt _ (by omega)
    rw [cJ,Nat.mod_eq_of_lt (show y % 128+128<256 by omega)]
    have e:((y % 128+128:Nat):Int)=((UInt8.ofNat (y % 128+128)).toNat:Int):=by rw [UInt8.toNat_ofNat']; omega
    rw [e]
    refine T.push (by omega) fun v' h' T'=>aI (n:=(k:Int)) (by rw [aJ (by omega) (by omega)]; omega) (ihk v' _ h' (by omega) (by simp; omega) ?_ T')
    rw [← ho']; simp
  have hk3:z8 n≤3:=by
   unfold z8; repeat' split
   all_goals omega
  have p3 : ∀ m k, k + m = z8 n → Y7.p3 (aL h Q) (.p (some ⟨id, 5, 0⟩)) v n k w l.length i hx := by
   intro m
   induction m with
   | zero =>
    intro k hk
    have hk:k=z8 n:=by omega
    refine Y7.i3 ?_
    simp only [Y7.t3, ← Y7.p4.eq_1]
    refine inc (by omega) (aI (n:=((7 * (k+1):Nat):Int)) (by rw [aJ (by omega) (by omega)]; omega) (lU (k:=.i64) (by show 7 * (k+1)≤64; omega) ?_))
    have:n / 2 ^ (7 * (k+1))=0:=by
     apply Nat.div_eq_of_lt
     rw [hk]
     unfold z8
     repeat' split
     all_goals omega
    rw [this]
    refine aN rfl (p4 k v o hx (by omega) (by omega) ?_ T)
    unfold aBI; rw [hk]
   | succ m ihm =>
    intro k hk
    refine Y7.i3 ?_
    simp only [Y7.t3, ← Y7.p3.eq_1]
    refine inc (by omega) (aI (n:=((7 * (k+1):Nat):Int)) (by rw [aJ (by omega) (by omega)]; omega) (lU (k:=.i64) (by show 7 * (k+1)≤64; omega) ?_))
    have:0<n / 2 ^ (7 * (k+1)):=by
     apply Nat.div_pos _ (Nat.two_pow_pos _)
     have hk':k<z8 n:=by omega
     unfold z8 at hk'
     have:k=0∨k=1∨k=2:=by
      revert hk'
      repeat' split
      all_goals omega
     rcases this with rfl | rfl | rfl
     ·split at hk' <;> omega
     ·split at hk'
      ·omega
      ·split at hk' <;> omega
     ·split at hk'
      ·omega
      ·split at hk'
       ·omega
       ·split at hk' <;> omega
    refine aO (by rw [decide_eq_true_eq]; generalize n / 2 ^ (7 * (k+1))=y at this; omega) (inc (by omega) (ihm (k+1) (by omega)))
  refine Y7.i2 ?_
  simp only [Y7.t2, ← Y7.p3.eq_1]
  exact aO (by simp; omega) (W'.nat hlt hni (p3 (z8 n) 0 (by omega)))
theorem aAL {s : List UInt8} {h : aA} (hq : ∀ h', Upd (fun _ => False) h h' → Q (aK7 (mL s)) h') : C Y7.id [.s s] h Q := by
 refine Y7.call ?_
 simp only [Y7.t, ← Y7.p0.eq_1]
 refine bR fun h1 hl1 U1 R=>?_
 unfold mL at hq
 by_cases hl:256<s.length
 ·rw [if_pos hl] at hq
  exact aO (by simp; omega) (z7 (h1:=h1) rfl R (Nat.le_refl _) U1 hq)
 rw [if_neg hl] at hq
 refine aN (by simp; omega) (aM2 (sp:=46) (by omega) fun w h2 S=>?_)
 have hsl:=rP (sp:=46) s
 have hcb:Lib.countByte s 46≤s.length:=List.count_le_length
 have W:=S.stk.rd
 rw [List.length_map] at W
 have R2:=R.upd S.upd fun h=>h
 have U2:=U1.trans S.upd fun _ _ h=>h
 refine W.len ?_
 generalize eF 46 s=ws at *
 have bad:∀ hx,Upd (fun _=>False) h2 hx→gV ws=none→aP 5 (.p (some ⟨h.length,5,0⟩)) (.ag [.i .i64 0,.i .i64 0,.b false,.s [],.sl none 0 none]) hx fun h5=>aD 5 (.p (some ⟨h.length,5,0⟩)) h5 fun v7=>aL h Q (.tu [v7,.i .i64 2]) h5:=by
  intro hx U hd
  rw [hd] at hq
  exact z7 (h1:=h1) rfl (R2.upd U fun h=>h) (Nat.le_refl _) (U2.trans U fun _ _ h=>h) hq
 have go : ∀ (r : List (List UInt8)) (i : Nat) (done : List Nat) (v : AV) (hx : aA), ws.drop i = r → i ≤ ws.length → done.length = i → (gV ws = match gV r with | none => none | some l => some (done ++ l)) → eX 1 h2 hx v (done.map num) done.length → Y7.p0 (aL h Q) (.p (some ⟨h.length, 5, 0⟩)) v w ws.length i hx := by
  intro r
  induction r with
  | nil =>
   intro i done v hx hr hi hdl hd A
   have hle:=cA hr
   have hd:gV ws=some done:=by rw [hd]; simp [gV]
   rw [hd] at hq
   have hbd:=(yR hd).1
   have R3:=R2.upd A.upd fun h=>h
   have U3:=U2.trans A.upd fun _ _ h=>h
   refine Y7.i0 ?_
   simp only [Y7.t0, ← Y7.p1.eq_1]
   refine aN (by simp; omega) (A.arr.rd.len ?_)
   have p1bad:aAU done = .error 2→Y7.p1 (aL h Q) (.p (some ⟨h.length,5,0⟩)) v true hx:=by
    intro he
    have hq:∀ h',Upd (fun _=>False) h h'→Q (aK7 (aAU done)) h':=hq
    rw [he] at hq
    refine Y7.i1 ?_
    simp only [Y7.t1]
    exact aO rfl (z7 (h1:=h1) rfl R3 (Nat.le_refl _) U3 hq)
   have p1ok:∀ a b l,done=a :: b :: l→¬ (2<a∨(a<2∧40≤b)∨268435456≤40 * a+b)→Y7.p1 (aL h Q) (.p (some ⟨h.length,5,0⟩)) v false hx:=by
    intro a b l hdone hg
    have ha:=hbd a (by rw [hdone]; simp)
    have hb:=hbd b (by rw [hdone]; simp)
    have hq:∀ h',Upd (fun _=>False) h h'→Q (aK7 (aAU done)) h':=hq
    have he:aAU done = .ok (((40 * a+b) :: l).flatMap aBI):=by
     rw [hdone]; unfold aAU; simp only; rw [if_neg hg]
    rw [he] at hq
    obtain ⟨id,ver,off,cap,blk,hv,RA⟩:=A.arr.rd.at (by rw [hdone]; simp)
    have hidv:h2.length≤id:=A.new id (by rw [hv] <;> rfl)
    have h0':done[0]? = some a:=by rw [hdone] <;> rfl
    have h1':done[1]? = some b:=by rw [hdone] <;> rfl
    have hlen2:2≤done.length:=by rw [hdone]; simp
    rw [hv]
    refine Y7.i1 ?_
    simp only [Y7.t1, ← Y7.p2.eq_1]
    refine aN rfl (b9 RA (i:=0) (by omega) (cO RA (by omega) h0' ?_))
    refine aI (n:=((40 * a:Nat):Int)) (by rw [aJ (by omega) (by omega)]; omega) (b9 RA (i:=1) (by omega) (cO RA (by omega) h1' ?_))
    refine aI (n:=((40 * a+b:Nat):Int)) (by rw [aJ (by omega) (by omega)]; omega) ?_
    refine RA.drop Nat.one_pos (lo:=2) hlen2 ?_
    refine eX.one (Upd.refl _ _) (x:=num (40 * a+b)) rfl fun v2 h3 A2 Ux Fx=>?_
    have RA3:=RA.upd Ux fun h=>h
    refine RA3.drop Nat.one_pos (lo:=2) hlen2 ⟨rfl,cO RA3 (by omega) h1' ⟨rfl,b9 RA3 (i:=1) (by omega) ⟨rfl,cO RA3 (by omega) h0' ⟨rfl,b9 RA3 (i:=0) (by omega) ⟨rfl, ?_⟩⟩⟩⟩⟩
    have RD:=RA3.dropRd (lo:=2) hlen2 (cap.map (· - 2))
    have hdr:(done.map num).drop (2 * 1)=l.map num:=by rw [hdone] <;> rfl
    rw [hdr] at RD
    refine A2.append Nat.one_pos (ns:=l.map num) (k:=done.length - 2) (fun K hK=>RD.news hK) (by rw [hdone]; simp) (by simp [num,AV.cellOK]) (by omega) (by omega) fun v3 h4 A3 Uy=>?_
    have RA4:=RA3.upd Uy fun hs=>by have:=Fx id hs; have:=RA.lt; omega
    refine cO RA4 (by omega) h1' ⟨rfl,b9 RA4 (i:=1) (by omega) ⟨rfl,cO RA4 (by omega) h0' ⟨rfl,b9 RA4 (i:=0) (by omega) ⟨rfl,A3.arr.rd.len ?_⟩⟩⟩⟩
    have U4:=A3.upd
    have e:1+(done.length - 2)=((40 * a+b) :: l).length:=by rw [hdone]; simp; omega
    rw [e]
    refine aN9 (l:=(40 * a+b) :: l) (h1:=h1) (Nat.le_refl _) U1 (U3.trans U4 fun _ _ h=>h) (R3.upd U4 fun h=>h) ?_ ?_ ?_ hq _ 0 _ [] h4 rfl (by omega) (by simp) rfl (Tx.start h4)
    ·have := A3.arr.rd
     rw [e] at this
     exact this
    ·rw [← e]; omega
    ·intro n hn
     rcases List.mem_cons.1 hn with rfl | hn
     ·omega
     ·exact hbd n (by rw [hdone]; simp [hn])
   by_cases hl2:done.length<2
   ·exact aO (by simp; omega) (p1bad (aDS hl2))
   refine aN (by simp; omega) ?_
   obtain ⟨a,b,l,hdone⟩:=aNX hl2
   have h0':done[0]? = some a:=by rw [hdone] <;> rfl
   have h1':done[1]? = some b:=by rw [hdone] <;> rfl
   have ha:=hbd a (by rw [hdone]; simp)
   have hb:=hbd b (by rw [hdone]; simp)
   have p1:∀ bb:Bool,(bb=true↔(2<a∨(a<2∧40≤b)∨268435456≤40 * a+b))→Y7.p1 (aL h Q) (.p (some ⟨h.length,5,0⟩)) v bb hx:=by
    intro bb hbb
    cases bb with
    | true =>
     refine p1bad ?_
     rw [hdone]; unfold aAU; simp only
     rw [if_pos (hbb.1 rfl)]
    | false=>exact p1ok a b l hdone (fun hh=>by have:=hbb.2 hh; cases this)
   have RV:=A.arr.rd
   refine RV.nat (i:=0) (by omega) h0' ?_
   refine aG (fun e1=>p1 _ ?_) fun e1=>RV.nat (i:=0) (by omega) h0' ?_
   ·simp only [decide_eq_true_eq] at e1; simp; omega
   simp only [decide_eq_false_iff_not] at e1
   have fin:∀ K:Int→Prop,K ((40 * a+b:Nat):Int)→aB 1 v (.i .i64 0) hx fun v52=>aE v52 hx fun v53=>asI .i64 v53 fun n54=>aR (IntKind.wrap .i64 (40 * n54)) fun n55=>aB 1 v (.i .i64 1) hx fun v56=>aE v56 hx fun v57=>asI .i64 v57 fun n58=>aR (IntKind.wrap .i64 (n55+n58)) K:=by
    intro K hK
    refine RV.nat (i:=0) (by omega) h0' ?_
    refine aI (n:=((40 * a:Nat):Int)) (by rw [aJ (by omega) (by omega)]; omega) (RV.nat (i:=1) (by omega) h1' ?_)
    exact aI (n:=((40 * a+b:Nat):Int)) (by rw [aJ (by omega) (by omega)]; omega) hK
   refine aG (fun e2=>RV.nat (i:=1) (by omega) h1' ?_) fun e2=>fin _ (p1 _ ?_)
   ·simp only [decide_eq_true_eq] at e2
    refine aG (fun e3=>p1 _ ?_) fun e3=>fin _ (p1 _ ?_)
    ·simp only [decide_eq_true_eq] at e3; simp; omega
    ·simp only [decide_eq_false_iff_not] at e3
     rw [decide_eq_true_eq]; omega
   ·simp only [decide_eq_false_iff_not] at e2
    rw [decide_eq_true_eq]; omega
  | cons x r ih =>
   intro i done v hx hr hi hdl hd A
   have hlt:=cG hr
   have hn:=b3 hr
   have hxi:=b4 hr
   have W':=W.upd A.upd fun _ _ h=>h
   refine Y7.i0 ?_
   simp only [Y7.t0, ← Y7.p0.eq_1]
   refine aO (by simp; omega) (W'.str hxi (aIU ?_))
   rw [aBO] at hd
   cases hx2:rN x with
   | none =>
    rw [hx2] at hd
    intro y
    show aH 0 (.tu [.i .i64 y,.b false]) _
    refine aY (aQ (aZ (aS (aO rfl (bad hx A.upd (by rw [hd]))))))
   | some n =>
    rw [hx2] at hd
    simp only at hd
    unfold aOY
    show aH 0 (.tu [.i .i64 (n:Int),.b true]) _
    refine aY (aQ (aZ (aS (aN rfl ?_))))
    refine eX.build A (by decide) (ns:=[num n]) rfl rfl rfl (by omega) (by omega) fun v' h' A'=>inc (by omega) (ih (i+1) (done++[n]) v' h' hn (by omega) (by simp [hdl]) ?_ ?_)
    ·rw [hd]
     cases gV r with
     | none=>rfl
     | some l=>simp
    ·rw [List.map_append,List.length_append]; exact A'
 exact go ws 0 [] _ h2 rfl (by omega) rfl (by cases gV ws <;> simp) (eX.start 1 h2)
end
end Go.Proofs.YtcdkpkkdolmfdaaGreatDoor
namespace Go.Proofs.YtcdkpkkdolmfdaaGreatDoor
open Go.GAM Go.RowKit
section
variable {h0:aA} {Q:AV→aA→Prop}
theorem aNR {l:List Nat} {w:AV} {h hx:aA} (E:Ext h hx) (W:Rd 1 hx w (l.map num) l.length) (hl:l.length≤100000) (hb:∀ n∈l,n<268435456):∀ (r:List Nat) (i:Nat) (x:List UInt8),l.drop i=r→i≤l.length→x.length≤30+11 * i →
  Q (.tu [.s (x++r.flatMap fun n=>46 :: Lib.decDigits n),.b true]) h→Y9.p4 (aL h Q) x w l.length i hx:=by
 intro r
 induction r with
 | nil =>
  intro i x hr hi hxl hq
  have hle:=cA hr
  refine Y9.i4 ?_
  simp only [Y9.t4]
  refine aN (by simp; omega) (aU rfl E ?_)
  simpa using hq
 | cons n r ih =>
  intro i x hr hi hxl hq
  have hlt:=cG hr
  have hn:=b3 hr
  have hni:=b4 hr
  have hnb:=hb n (List.mem_of_getElem? hni)
  have d1:=dA (n:=n) (by omega)
  refine Y9.i4 ?_
  simp only [Y9.t4, ← Y9.p4.eq_1]
  refine aO (by simp; omega) (W.nat hlt hni (aEP (by omega) (bA ⟨by simp; omega,⟨by simp; omega,inc (by omega) ?_⟩⟩)))
  refine ih (i+1) _ hn (by omega) (by simp; omega) ?_
  simpa [List.flatMap_cons] using hq
theorem aN7 {x y:Nat} (hy:y<128) (hx:x<268435456):cD .or .i64 ((x * 128:Nat):Int) (y:Int)=((x * 128+y:Nat):Int):=by
 rw [oI (by omega) (by omega)]
 have:=Nat.two_pow_add_eq_or_of_lt (i:=7) (b:=y) (by omega) x
 rw [Nat.mul_comm x 128,this]
theorem aIO {s : List UInt8} {cs : List AV} {h h1 : aA} {id : Nat} (E : Ext h h1) (B : bC h1 id cs) (hcl : cs.length = 5) (hc3 : cs[3]? = some (.s s)) (hs : s.length ≤ 100000) (hne : s ≠ []) :
  ∀ (r:List UInt8) (i n:Nat) (begun:Bool) (done:List Nat) (v:AV) (hx:aA),s.drop i=r→i≤s.length→n<268435456→(begun=false→i=0∨done≠[])→done.length≤i→(∀ m∈done,m<268435456)→eX 1 h1 hx v (done.map num) done.length →
  Q (zE (nK (gI r n begun) done)) h→Y9.p1 (aL h Q) (.p (some ⟨id,5,0⟩)) v n begun s.length i hx:=by
 intro r
 induction r with
 | nil =>
  intro i n begun done v hx hr hi hn hb hd hbd A hq
  have hle:=cA hr
  have Ex:=E.trans A.upd.ext
  refine Y9.i1 ?_
  simp only [Y9.t1, ← Y9.p4.eq_1]
  refine aN (by simp; omega) ?_
  cases begun with
  | true=>exact aO rfl (aU rfl Ex hq)
  | false =>
   have hlp:=List.length_pos_iff.2 hne
   have hdn:done≠[]:=by
    rcases hb rfl with h | h
    ·omega
    ·exact h
   obtain ⟨z,dn,hdone⟩:∃ z dn,done=z :: dn:=by
    cases done with
    | nil=>exact absurd rfl hdn
    | cons z dn=>exact ⟨z,dn,rfl⟩
   have hzb:=hbd z (by rw [hdone]; simp)
   have hdl:done.length=dn.length+1:=by rw [hdone]; simp
   obtain ⟨id',ver,off,cap,blk,hv,RA⟩:=A.arr.rd.at (by omega)
   have hz0:done[0]? = some z:=by rw [hdone] <;> rfl
   have d1:=dA (n:=min (z / 40) 2) (by omega)
   have d2:=dA (n:=z - 40 * min (z / 40) 2) (by omega)
   rw [hv]
   refine aN rfl (b9 RA (i:=0) (by omega) (cO RA (by omega) hz0 (j3 (b:=40) (by omega) (by omega) ?_)))
   rw [show mmI false 2 ((z / 40:Nat):Int)=((min (z / 40) 2:Nat):Int) by rw [Nat.min_comm]; exact aE5 2 _]
   refine b9 RA (i:=0) (by omega) (cO RA (by omega) hz0 ?_)
   refine aI (n:=((40 * min (z / 40) 2:Nat):Int)) (by rw [aJ (by omega) (by omega)]; omega) ?_
   refine aI (n:=((z - 40 * min (z / 40) 2:Nat):Int)) (by rw [aJ (by omega) (by omega)]; omega) ?_
   refine aEP (by omega) (bA (cO RA (by omega) hz0 ⟨rfl,b9 RA (i:=0) (by omega) ⟨rfl,⟨by simp; omega, ?_⟩⟩⟩))
   refine aEP (by omega) (bA (cO RA (by omega) hz0 ⟨rfl,b9 RA (i:=0) (by omega) ⟨rfl,⟨by simp; omega, ?_⟩⟩⟩))
   have RD:=RA.dropRd (lo:=1) (by omega) (cap.map (· - 1))
   have hdr:(done.map num).drop (1 * 1)=dn.map num:=by rw [hdone] <;> rfl
   rw [hdr,show done.length - 1=dn.length by omega] at RD
   refine RA.drop Nat.one_pos (lo:=1) (by omega) ?_
   rw [show done.length - 1=dn.length by omega]
   refine RD.len (aNR Ex RD (by omega) (fun m hm=>hbd m (by rw [hdone]; simp [hm])) dn 0 _ rfl (by omega) (by simp; omega) ?_)
   have hq:Q (.tu [.s (eL (done++[])),.b true]) h:=hq
   rw [List.append_nil,hdone] at hq
   simpa [eL] using hq
 | cons c r ih =>
  intro i n begun done v hx hr hi hn hb hd hbd A hq
  have hlt:=cG hr
  have hnx:=b3 hr
  have hci:=b4 hr
  have hc:=c.toNat_lt
  have Ex:=E.trans A.upd.ext
  have Bx:=B.upd A.upd fun h=>h
  have hm:=Nat.mod_lt c.toNat (show 0<128 by omega)
  have p3:∀ (o:List Nat) (n':Nat) (b':Bool) (v':AV) (h':aA),n'<268435456→(b'=false→o≠[])→o.length≤i+1→(∀ m∈o,m<268435456)→eX 1 h1 h' v' (o.map num) o.length→Q (zE (nK (gI r n' b') o)) h→Y9.p3 (aL h Q) (.p (some ⟨id,5,0⟩)) v' n' b' s.length i h':=by
   intro o n' b' v' h' hn' hb' ho hob A' hq
   refine Y9.i3 ?_
   simp only [Y9.t3, ← Y9.p1.eq_1]
   exact inc (by omega) (ih (i+1) n' b' o v' h' hnx (by omega) hn' (fun hh=>.inr (hb' hh)) ho hob A' hq)
  have p2 : ∀ b, b = decide (begun = false ∧ c.toNat = 128) → Y9.p2 (aL h Q) (.p (some ⟨id, 5, 0⟩)) v n (c.toNat : Int) s.length i b hx := by
   intro b hbb
   unfold gI at hq
   refine Y9.i2 ?_
   simp only [Y9.t2, ← Y9.p3.eq_1]
   refine aG (fun e=>?_) fun e=>?_
   ·subst e
    rw [if_pos (of_decide_eq_true hbb.symm)] at hq
    exact aU rfl Ex hq
   ·subst e
    rw [if_neg (of_decide_eq_false hbb.symm)] at hq
    refine lV (b:=7) (n:=((n * 128:Nat):Int)) (by omega) (by omega) (by omega) (by omega) ?_
    refine aI (aEF (by omega)) (aI (aN7 hm hn) ?_)
    by_cases h28:268435456≤n * 128+c.toNat % 128
    ·rw [if_pos h28] at hq
     exact aO (by simp; omega) (aU rfl Ex hq)
    rw [if_neg h28] at hq
    refine aN (by simp; omega) ?_
    by_cases h128:128≤c.toNat
    ·rw [if_pos h128] at hq
     have e128:decide ((128:Int)≤(c.toNat:Int))=true:=decide_eq_true (by omega)
     rw [e128]
     exact aN rfl (p3 done _ true v hx (by omega) (fun hh=>by cases hh) (by omega) hbd A hq)
    rw [if_neg h128] at hq
    have e128:decide ((128:Int)≤(c.toNat:Int))=false:=decide_eq_false (by omega)
    rw [e128]
    generalize n * 128+c.toNat % 128=z at *
    have hq:Q (zE (nK (gI r 0 false) (done++[z]))) h:=by
     have:nK (match gI r 0 false with | none=>none | some l=>some (z :: l)) done=nK (gI r 0 false) (done++[z]):=by
      cases gI r 0 false <;> simp [nK]
     rw [← this]; exact hq
    refine aO rfl (eX.build A (by decide) (ns:=[num z]) rfl rfl rfl (by omega) (by omega) fun v' h' A'=>?_)
    refine p3 (done++[z]) 0 false v' h' (by omega) (fun _=>by simp) (by simp; omega) ?_ ?_ hq
    ·intro m hm
     rcases List.mem_append.1 hm with h | h
     ·exact hbd m h
     ·simp at h; omega
    ·rw [List.map_append,List.length_append]; exact A'
  refine Y9.i1 ?_
  simp only [Y9.t1, ← Y9.p2.eq_1]
  refine aO (by simp; omega) (aK (aM Bx hcl.symm hc3 (bA (cS hr ?_))))
  rw [aJ (by omega) (by omega)]
  cases begun with
  | false=>exact aO rfl (p2 _ (by rw [decide_eq_decide]; simp; omega))
  | true=>exact aN rfl (p2 _ (by simp))
theorem aND {d:Der} {cs:List AV} {F:Nat→Prop} {h:aA} (D:DV h F d cs) (hs:d.data.length≤100000) (hq:Q (zE (eB d)) h):C Y9.id [.ag cs] h Q:=by
 refine Y9.call ?_
 simp only [Y9.t, ← Y9.p0.eq_1]
 refine D.box fun h1 hl1 U1 B D1=>aT B D.len.symm ((lQ D1 (aS ?_)))
 unfold eB at hq
 have hc3:=D.dat
 have hcl:=D.len
 generalize d.data=s at *
 refine aG (fun e=>?_) fun e=>aK (aM B hcl.symm hc3 (bA ?_))
 ·refine Y9.i0 ?_
  simp only [Y9.t0]
  rw [if_neg (fun hh=>by rw [hh.1] at e; cases e)] at hq
  exact aO rfl (aU rfl U1.ext hq)
 have hp:bZ 6 d=true:=by simpa using e
 refine Y9.i0 ?_
 simp only [Y9.t0, ← Y9.p1.eq_1]
 by_cases hne:s=[]
 ·rw [if_neg (fun hh => hh.2 hne)] at hq
  exact aO (by simp [hne]) (aU rfl U1.ext hq)
 rw [if_pos ⟨hp,hne⟩] at hq
 refine aN (by simp [hne]) (aK (aM B hcl.symm hc3 (bA ?_)))
 refine aIO U1.ext B hcl hc3 hs hne s 0 0 false [] _ h1 rfl (by omega) (by omega) (fun _=>.inl rfl) (by simp) (by simp) (eX.start 1 h1) ?_
 have:nK (gI s 0 false) []=(match gI s 0 false with | none=>([],false) | some l=>(eL l,true)):=by
  cases gI s 0 false <;> rfl
 rw [this]; exact hq
end
end Go.Proofs.YtcdkpkkdolmfdaaGreatDoor
namespace Go.Proofs.YtcdkpkkdolmfdaaGreatDoor
open Go.GAM Go.RowKit
section
variable {h0:aA} {Q:AV→aA→Prop}
theorem wE {f : Nat} {p : UInt8 → Bool} {v : AV} {l : List UInt8} {h : aA} (hf : Nat.blt f yid0 = true) (hc : ∀ (c : UInt8) (h : aA) (K : AV → aA → Prop), K (.b (p c)) h → C f [.i .u8 (c.toNat : Int)] h K) (B : Byt h v l) (hl : l.length ≤ 100000) (hq : Q (.b (l.all p)) h) :
  C Y49.id [v,.fn (.func f) [] []] h Q:=by
 refine Y49.call ?_
 simp only [Y49.t, ← Y49.p0.eq_1]
 refine Rd.len B ?_
 have go:∀ (r:List UInt8) (i:Nat),l.drop i=r→i≤l.length→(l.all p=r.all p)→Y49.p0 (aL h Q) (.fn (.func f) [] []) v l.length i h:=by
  intro r
  induction r with
  | nil =>
   intro i hr hi he
   have:=cA hr
   refine Y49.i0 ?_
   simp only [Y49.t0]
   rw [he] at hq
   exact aN (by simp; omega) (.inl hq)
  | cons c r ih =>
   intro i hr hi he
   have hlt:=cG hr
   have hn:=b3 hr
   refine Y49.i0 ?_
   simp only [Y49.t0, ← Y49.p0.eq_1]
   refine aO (by simp; omega) (Rd.byte B (b4 hr) (f6 hf (hc c h _ (aS ?_))))
   rw [List.all_cons] at he
   cases hp:p c with
   | false =>
    rw [hp] at he
    rw [he] at hq
    exact aO rfl (.inl hq)
   | true =>
    rw [hp,Bool.true_and] at he
    exact aN rfl (inc (by omega) (ih (i+1) hn (by omega) he))
 exact go l 0 rfl (by omega) rfl
def fP (c:UInt8):Bool:=decide (32≤c.toNat)&&decide (c.toNat≤126)
def eY (d:Der):List UInt8 × Bool:=if (bZ 12 d||(bZ 19 d||bZ 22 d))=true∧d.data.all fP=true then (d.data,true) else ([],false)
def aM7 (x:List UInt8 × Bool):AV:=.tu [.s x.1,.b x.2]
theorem aL5 (c:UInt8) (h:aA) (K:AV→aA→Prop) (hk:K (.b (fP c)) h):C Y62.id [.i .u8 (c.toNat:Int)] h K:=by
 refine Y62.call ?_
 simp only [Y62.t, ← Y62.p0.eq_1]
 have p0:∀ b,b=fP c→Y62.p0 (aL h K) b h:=by
  intro b hb
  refine Y62.i0 ?_
  simp only [Y62.t0]
  subst hb
  exact .inl hk
 unfold fP at p0
 refine aG (fun e=>p0 _ ?_) fun e=>p0 _ ?_
 ·simp only [decide_eq_true_eq] at e
  rw [decide_eq_true (by omega:32≤c.toNat),Bool.true_and,decide_eq_decide]; omega
 ·simp only [decide_eq_false_iff_not] at e
  rw [decide_eq_false (by omega:¬ 32≤c.toNat)] <;> rfl
theorem aOL {d : Der} {cs : List AV} {F : Nat → Prop} {h : aA} (D : DV h F d cs) (hs : d.data.length ≤ 100000) (hq : Q (aM7 (eY d)) h) : C Y66.id [.ag cs] h Q := by
 refine Y66.call ?_
 simp only [Y66.t, ← Y66.p0.eq_1]
 refine D.box fun h1 hl1 U1 B D1=>?_
 unfold eY at hq
 have p0:∀ b,b = !(bZ 12 d||(bZ 19 d||bZ 22 d))→Y66.p0 (aL h Q) (.p (some ⟨h.length,5,0⟩)) b h1:=by
  intro b hb
  refine Y66.i0 ?_
  simp only [Y66.t0]
  refine aG (fun e=>?_) fun e=>?_
  ·subst e
   rw [if_neg (fun hh=>by rw [hh.1] at hb; cases hb)] at hq
   exact aU rfl U1.ext hq
  ·subst e
   have hp:(bZ 12 d||(bZ 19 d||bZ 22 d))=true:=by
    revert hb
    generalize (bZ 12 d||(bZ 19 d||bZ 22 d))=x
    cases x <;> simp
   refine aK (aM B D.len.symm D.dat (bA (Tx.ofStr fun v h2 T=>?_)))
   refine wE (p:=fP) rfl aL5 T.byt hs (aS ?_)
   have E:=(U1.trans T.upd fun _ _ h=>h).ext
   have B2:=B.upd T.upd fun h=>h
   cases ha:d.data.all fP with
   | false =>
    rw [if_neg (fun hh=>by rw [ha] at hh; cases hh.2)] at hq
    exact aO rfl (aU rfl E hq)
   | true =>
    rw [if_pos ⟨hp,ha⟩] at hq
    exact aN rfl (aK (aM B2 D.len.symm D.dat (bA (aU rfl E hq))))
 refine aT B D.len.symm (lQ D1 (aS ?_))
 refine aG (fun e=>aT B D.len.symm (lQ D1 (aS ?_))) fun e=>p0 _ ?_
 ·have e : bZ 12 d = false := by simpa using e
  rw [e,Bool.false_or] at p0
  refine aG (fun e=>aT B D.len.symm (lQ D1 (aS (p0 _ ?_)))) fun e=>p0 _ ?_
  ·have e : bZ 19 d = false := by simpa using e
   rw [e] <;> rfl
  ·have e : bZ 19 d = true := by simpa using e
   rw [e] <;> rfl
 ·have e : bZ 12 d = true := by simpa using e
  rw [e] <;> rfl
end
end Go.Proofs.YtcdkpkkdolmfdaaGreatDoor
namespace Go.GAM
end Go.GAM
namespace Go.Proofs.YtcdkpkkdolmfdaaGreatDoor
open Go.GAM Go.RowKit
section
variable {h0:aA} {Q:AV→aA→Prop}
end
end Go.Proofs.YtcdkpkkdolmfdaaGreatDoor
namespace Go.Proofs.YtcdkpkkdolmfdaaGreatDoor
open Go.GAM Go.RowKit
def eW (l:List UInt8):Nat:=l.foldl (fun n c=>n * 256+c.toNat) 0
theorem sM (l:List UInt8) (c:UInt8):eW (l++[c])=eW l * 256+c.toNat:=by simp [eW]
theorem aAF (l:List UInt8):eW l<256 ^ l.length:=by
 have:∀ n (l:List UInt8),l.length=n→eW l<256 ^ n:=by
  intro n
  induction n with
  | zero=>intro l hl; rw [List.eq_nil_of_length_eq_zero hl]; decide
  | succ n ih =>
   intro l hl
   have hne:l≠[]:=fun h=>by rw [h] at hl; simp at hl
   rw [← List.dropLast_concat_getLast hne,sM]
   have h1:=ih l.dropLast (by rw [List.length_dropLast]; omega)
   have h2:=(l.getLast hne).toNat_lt
   rw [Nat.pow_succ]
   omega
 exact this _ l rfl
theorem wO {l:List UInt8} (h:l.length≤3):eW l<16777216:=by
 have h1:=aAF l
 have h2:256 ^ l.length≤256 ^ 3:=Nat.pow_le_pow_right (by omega) h
 omega
def kQ : List UInt8 → Except Int (Nat × List UInt8)
 | []=>.error 1
 | c :: r => if c.toNat < 128 then .ok (c.toNat, r) else
  if c.toNat - 128<1∨3<c.toNat - 128 then .error 2 else
  if r.length<c.toNat - 128 then .error 1 else
  if eW (r.take (c.toNat - 128))<128∨eW (r.take (c.toNat - 128))<2 ^ (8 * (c.toNat - 128 - 1)) then .error 2 else .ok (eW (r.take (c.toNat - 128)),r.drop (c.toNat - 128))
theorem iF {s r : List UInt8} {n : Nat} (h : kQ s = .ok (n, r)) : r.length < s.length ∧ n < 16777216 := by
 cases s with
 | nil=>cases h
 | cons c s =>
  have hc:=c.toNat_lt
  rw [kQ] at h
  split at h
  ·cases h; exact ⟨by simp,by omega⟩
  ·split at h
   ·cases h
   ·split at h
    ·cases h
    ·split at h
     ·cases h
     ·cases h
      exact ⟨by simp only [List.length_drop,List.length_cons]; omega,wO (by rw [List.length_take]; omega)⟩
def aPG:Except Int (Nat × List UInt8)→AV
 | .error e=>.tu [.i .i64 0,.s [],.i .i64 e]
 | .ok (n,r)=>.tu [.i .i64 (n:Int),.s r,.i .i64 0]
section
variable {s:List UInt8} {h0:aA} {Q:AV→aA→Prop}
theorem aHL {k : Nat} {h : aA} (hk1 : 1 ≤ k) (hk3 : k ≤ 3) (hkl : k ≤ s.length) (hs : s.length ≤ 100000)
  (hq:Q (aPG (if eW (s.take k)<128∨eW (s.take k)<2 ^ (8 * (k - 1)) then .error 2 else .ok (eW (s.take k),s.drop k))) h) :
  ∀ m i,i+m=k→Y30.p1 (aL h Q) s (eW (s.take i):Nat) k k i h:=by
 intro m
 induction m with
 | zero =>
  intro i hi
  have:i=k:=by omega
  subst this
  have hb:=wO (l:=s.take i) (by simp; omega)
  refine Y30.i1 ?_
  simp only [Y30.t1, ← Y30.p2.eq_1]
  refine aN (by simp) ?_
  have fin:∀ b,b=decide (eW (s.take i)<128∨eW (s.take i)<2 ^ (8 * (i - 1)))→Y30.p2 (aL h Q) s (eW (s.take i):Nat) i b h:=by
   intro b hb2
   refine Y30.i2 ?_
   simp only [Y30.t2]
   refine aG (fun e=>?_) fun e=>gY (by omega) ?_
   ·subst e
    rw [if_pos (by simpa using hb2.symm)] at hq
    exact .inl hq
   ·subst e
    rw [if_neg (by simpa using hb2.symm)] at hq
    exact .inl hq
  refine aG (fun e=>fin _ ?_) fun e=>?_
  ·have : eW (s.take i) < 128 := by simp only [decide_eq_true_eq] at e; omega
   simp [this]
  ·have h128 : ¬ eW (s.take i) < 128 := by simp only [decide_eq_false_iff_not] at e; omega
   refine aI (n:=((i - 1:Nat):Int)) (by rw [aJ (by omega) (by omega)]; omega) ?_
   refine aI (n:=((8 * (i - 1):Nat):Int)) (by rw [aJ (by omega) (by omega)]; omega) ?_
   refine lU (k:=.i64) (by show 8 * (i - 1)≤64; omega) (fin _ ?_)
   rw [decide_eq_decide]
   have hp:0<2 ^ (8 * (i - 1)):=Nat.two_pow_pos _
   constructor
   ·intro h
    have h':eW (s.take i) / 2 ^ (8 * (i - 1))=0:=by
     generalize eW (s.take i) / 2 ^ (8 * (i - 1))=y at h
     omega
    rcases Nat.div_eq_zero_iff.1 h' with h | h
    ·omega
    ·exact .inr h
   ·intro h
    rw [Nat.div_eq_of_lt (h.resolve_left h128)] <;> rfl
 | succ m ih =>
  intro i hi
  obtain ⟨c,hc⟩:∃ c,s[i]? = some c:=⟨_,List.getElem?_eq_getElem (by omega)⟩
  have hcl:=c.toNat_lt
  have hb:=aAF (s.take i)
  rw [List.length_take,Nat.min_eq_left (by omega)] at hb
  have hb2:256 ^ i≤256 ^ 2:=Nat.pow_le_pow_right (by omega) (by omega)
  refine Y30.i1 ?_
  simp only [Y30.t1, ← Y30.p1.eq_1]
  refine aO (by simp; omega) ?_
  refine zQ (b:=8) (by omega) (by omega) (kM hc ?_)
  refine aI (n:=((eW (s.take (i+1)):Nat):Int)) ?_ (inc (by omega) (ih (i+1) (by omega)))
  rw [dH hc,sM,aJ (by omega) (by omega),oI (by omega) (by omega),Nat.mul_comm (eW _) (2 ^ 8), ← Nat.two_pow_add_eq_or_of_lt (show c.toNat<2 ^ 8 by omega),Nat.mul_comm]
theorem aJ4 {h : aA} (hs : s.length ≤ 100000) (hq : Q (aPG (kQ s)) h) : C Y30.id [.s s] h Q := by
 refine Y30.call ?_
 simp only [Y30.t, ← Y30.p0.eq_1]
 cases s with
 | nil=>exact aO rfl (.inl hq)
 | cons c r =>
  have hc:=c.toNat_lt
  rw [kQ] at hq
  refine aN (by simp) (cS (i:=0) rfl (gY (lo:=1) (by simp) ?_))
  rw [aJ (by omega) (by omega)]
  refine aG (fun e=>?_) fun e=>?_
  ·rw [if_pos (by simp only [decide_eq_true_eq] at e; omega)] at hq
   exact .inl hq
  ·have h128 : ¬ c.toNat < 128 := by simp only [decide_eq_false_iff_not] at e; omega
   rw [if_neg h128] at hq
   refine aI (n:=((c.toNat - 128:Nat):Int)) (by rw [aJ (by omega) (by omega)]; omega) ?_
   generalize hk:c.toNat - 128=k at hq
   have p0:∀ b,b=decide (k<1∨3<k)→Y30.p0 (aL h Q) r k b h:=by
    intro b hb
    refine Y30.i0 ?_
    simp only [Y30.t0, ← Y30.p1.eq_1]
    refine aG (fun e=>?_) fun e=>?_
    ·subst e
     rw [if_pos (by simpa using hb.symm)] at hq
     exact .inl hq
    ·subst e
     have hk13:¬ (k<1∨3<k):=by simpa using hb.symm
     rw [if_neg hk13] at hq
     refine aG (fun e=>?_) fun e=>?_
     ·rw [if_pos (by simp only [decide_eq_true_eq] at e; omega)] at hq
      exact .inl hq
     ·have hkr : ¬ r.length < k := by simp only [decide_eq_false_iff_not] at e; omega
      rw [if_neg hkr] at hq
      exact aHL (by omega) (by omega) (by omega) (by simp at hs; omega) hq k 0 (by omega)
   refine aG (fun e=>p0 _ ?_) fun e=>p0 _ ?_
   ·have : k < 1 := by simp only [decide_eq_true_eq] at e; omega
    simp [this]
   ·have : ¬ k < 1 := by simp only [decide_eq_false_iff_not] at e; omega
    rw [decide_eq_decide]; omega
theorem aDR {S:List UInt8} {e a:Nat} {c:UInt8} {r:List UInt8} (h:(S.take e).drop a=c :: r):S[a]? = some c∧a<e∧(S.take e).drop (a+1)=r:=by
 have h1:=cG h
 rw [List.length_take] at h1
 have h2:=b4 h
 rw [List.getElem?_take_of_lt (by omega)] at h2
 exact ⟨h2,by omega,b3 h⟩
theorem aME {S : List UInt8} {id at' N k : Nat} {h : aA} {K : AV → aA → Prop} (hS : S.length ≤ 100000) (hk1 : 1 ≤ k) (hk3 : k ≤ 3) (hkl : at' + k ≤ S.length) (R : bC h id [.s S, .i .i64 (at' : Int), .i .i64 (N : Int)])
  (hq:∀ h',Upd (· = id) h h'→h'.length=h.length→bC h' id [.s S,.i .i64 ((at'+k:Nat):Int),.i .i64 (N:Int)] →
   K (if eW ((S.drop at').take k)<128∨eW ((S.drop at').take k)<2 ^ (8 * (k - 1)) then .tu [.i .i64 0,.i .i64 2] else .tu [.i .i64 (eW ((S.drop at').take k):Nat),.i .i64 0]) h') :
  ∀ m i,i+m=k→Y31.p1 (aL h0 K) (.p (some ⟨id,3,0⟩)) k (eW ((S.drop at').take i):Nat) i h:=by
 intro m
 induction m with
 | zero =>
  intro i hi
  have:i=k:=by omega
  subst this
  have hb:=wO (l:=(S.drop at').take i) (by simp; omega)
  refine Y31.i1 ?_
  simp only [Y31.t1, ← Y31.p2.eq_1]
  refine aN (by simp) (bI (aK (aM R rfl rfl (aQ ?_))))
  refine aI (n:=((at'+i:Nat):Int)) (by rw [aJ (by omega) (by omega)]; omega) (bI (aK (b7 R rfl (by simp) rfl rfl rfl fun h' hl U R'=>?_)))
  have hq:=hq h' U hl R'
  have fin:∀ b,b=decide (eW ((S.drop at').take i)<128∨eW ((S.drop at').take i)<2 ^ (8 * (i - 1)))→Y31.p2 (aL h0 K) (eW ((S.drop at').take i):Nat) b h':=by
   intro b hb2
   refine Y31.i2 ?_
   simp only [Y31.t2]
   refine aG (fun e=>?_) fun e=>?_
   ·subst e
    rw [if_pos (by simpa using hb2.symm)] at hq
    exact .inl hq
   ·subst e
    rw [if_neg (by simpa using hb2.symm)] at hq
    exact .inl hq
  refine aG (fun e=>fin _ ?_) fun e=>?_
  ·have : eW ((S.drop at').take i) < 128 := by simp only [decide_eq_true_eq] at e; omega
   simp [this]
  ·have h128 : ¬ eW ((S.drop at').take i) < 128 := by simp only [decide_eq_false_iff_not] at e; omega
   refine aG (fun e=>?_) fun e=>fin _ ?_
   ·refine aI (n := ((i - 1 : Nat) : Int)) (by rw [aJ (by omega) (by omega)]; omega) ?_
    refine aI (n:=((8 * (i - 1):Nat):Int)) (by rw [aJ (by omega) (by omega)]; omega) ?_
    rw [show IntKind.wrap .u64 ((8 * (i - 1):Nat):Int)=((8 * (i - 1):Nat):Int) from aJG (by omega) (by omega)]
    have hp:2 ^ (8 * (i - 1))≤2 ^ 16:=Nat.pow_le_pow_right (by omega) (by omega)
    refine zQ (a:=1) (b:=8 * (i - 1)) (by omega) (by omega) (fin _ ?_)
    rw [decide_eq_decide,Nat.one_mul]
    generalize 2 ^ (8 * (i - 1))=y
    omega
   ·have : i = 1 := by simp only [decide_eq_false_iff_not] at e; omega
    subst this
    simp; omega
 | succ m ih =>
  intro i hi
  obtain ⟨c,hc⟩:∃ c,S[at'+i]? = some c:=⟨_,List.getElem?_eq_getElem (by omega)⟩
  have hc':(S.drop at')[i]? = some c:=by rw [List.getElem?_drop]; exact hc
  have hcl:=c.toNat_lt
  have hb:=aAF ((S.drop at').take i)
  rw [List.length_take,List.length_drop,Nat.min_eq_left (by omega)] at hb
  have hb2:256 ^ i≤256 ^ 2:=Nat.pow_le_pow_right (by omega) (by omega)
  refine Y31.i1 ?_
  simp only [Y31.t1, ← Y31.p1.eq_1]
  refine aO (by simp; omega) ?_
  refine zQ (b:=8) (by omega) (by omega) (bI (aK (aM R rfl rfl (bA (bI (aK (aM R rfl rfl (aQ ?_))))))))
  refine aI (n:=((at'+i:Nat):Int)) (by rw [aJ (by omega) (by omega)]; omega) (kM hc ?_)
  refine aI (n:=((eW ((S.drop at').take (i+1)):Nat):Int)) ?_ (inc (by omega) (ih (i+1) (by omega)))
  rw [dH hc',sM,aJ (by omega) (by omega),oI (by omega) (by omega),Nat.mul_comm (eW _) (2 ^ 8), ← Nat.two_pow_add_eq_or_of_lt (show c.toNat<2 ^ 8 by omega),Nat.mul_comm]
theorem aNS {S : List UInt8} {id a N e : Nat} {h : aA} {K : AV → aA → Prop} (hS : S.length ≤ 100000) (he : e ≤ S.length) (hae : a ≤ e) (R : bC h id [.s S, .i .i64 (a : Int), .i .i64 (N : Int)])
  (hq:match kQ ((S.take e).drop a) with
   | .error x=>∀ h',Upd (· = id) h h'→h'.length=h.length→K (.tu [.i .i64 0,.i .i64 x]) h'
   | .ok (n,r)=>∀ h',Upd (· = id) h h'→h'.length=h.length→bC h' id [.s S,.i .i64 ((e - r.length:Nat):Int),.i .i64 (N:Int)]→K (.tu [.i .i64 (n:Int),.i .i64 0]) h') :
  C Y31.id [.p (some ⟨id,3,0⟩),.i .i64 (e:Int)] h K:=by
 refine Y31.call ?_
 simp only [Y31.t, ← Y31.p0.eq_1]
 refine bI (aK (aM R rfl rfl (aQ ?_)))
 have hlen:((S.take e).drop a).length=e - a:=by simp; omega
 cases hs:(S.take e).drop a with
 | nil =>
  rw [hs] at hq hlen
  simp at hlen
  exact aO (by simp; omega) (.inl (hq h (Upd.refl _ _) rfl))
 | cons c r =>
  rw [hs] at hq hlen
  obtain ⟨g1,g2,g3⟩:=aDR hs
  have hc:=c.toNat_lt
  simp only [List.length_cons] at hlen
  rw [kQ] at hq
  refine aN (by simp; omega) (bI (aK (aM R rfl rfl (bA (bI (aK (aM R rfl rfl (aQ (kM g1 ?_)))))))))
  refine bI (aK (aM R rfl rfl (aQ (inc (by omega) (bI (aK (b7 R rfl (by simp) rfl rfl rfl fun h1 hl1 U1 R1=>?_)))))))
  have R1:bC h1 id [.s S,.i .i64 ((a+1:Nat):Int),.i .i64 (N:Int)]:=R1
  rw [aJ (by omega) (by omega)]
  refine aG (fun e1=>?_) fun e1=>?_
  ·rw [if_pos (by simp only [decide_eq_true_eq] at e1; omega)] at hq
   refine .inl (hq h1 U1 hl1 ?_)
   rw [show e - r.length=a+1 by omega]; exact R1
  ·have h128 : ¬ c.toNat < 128 := by simp only [decide_eq_false_iff_not] at e1; omega
   rw [if_neg h128] at hq
   refine aI (n:=((c.toNat - 128:Nat):Int)) (by rw [aJ (by omega) (by omega)]; omega) ?_
   generalize hk:c.toNat - 128=k at hq
   have p0 : ∀ b, b = decide (k < 1 ∨ 3 < k) → Y31.p0 (aL h K) (.p (some ⟨id, 3, 0⟩)) e k b h1 := by
    intro b hb
    refine Y31.i0 ?_
    simp only [Y31.t0, ← Y31.p1.eq_1]
    refine aG (fun e2=>?_) fun e2=>?_
    ·subst e2
     rw [if_pos (by simpa using hb.symm)] at hq
     exact .inl (hq h1 U1 hl1)
    ·subst e2
     have hk13:¬ (k<1∨3<k):=by simpa using hb.symm
     rw [if_neg hk13] at hq
     refine bI (aK (aM R1 rfl rfl (aQ ?_)))
     refine aI (n:=((e - (a+1):Nat):Int)) (by rw [aJ (by omega) (by omega)]; omega) ?_
     refine aG (fun e2=>?_) fun e2=>?_
     ·rw [if_pos (by simp only [decide_eq_true_eq] at e2; omega)] at hq
      exact .inl (hq h1 U1 hl1)
     ·have hkr : ¬ r.length < k := by simp only [decide_eq_false_iff_not] at e2; omega
      rw [if_neg hkr] at hq
      have er:r.take k=(S.drop (a+1)).take k:=by
       rw [← g3,List.drop_take,List.take_take,Nat.min_eq_left (by omega)]
      have:=aME (h0:=h) (K:=K) (id:=id) (at':=a+1) (N:=N) (k:=k) hS (by omega) (by omega) (by omega) R1 (fun h2 U2 hl2 R2=>by
       rw [er] at hq
       split
       ·rename_i hc; rw [if_pos hc] at hq; exact hq h2 (U1.trans U2 fun _ _ h=>h) (by omega)
       ·rename_i hc; rw [if_neg hc] at hq
        refine hq h2 (U1.trans U2 fun _ _ h=>h) (by omega) ?_
        rw [List.length_drop,show e - (r.length - k)=a+1+k by omega]; exact R2) k 0 (by omega)
      exact this
   refine aG (fun e=>p0 _ ?_) fun e=>p0 _ ?_
   ·have : k < 1 := by simp only [decide_eq_true_eq] at e; omega
    simp [this]
   ·have : ¬ k < 1 := by simp only [decide_eq_false_iff_not] at e; omega
    rw [decide_eq_decide]; omega
end
end Go.Proofs.YtcdkpkkdolmfdaaGreatDoor
namespace Go.Proofs.YtcdkpkkdolmfdaaGreatDoor
open Go.GAM Go.RowKit
mutual
def iH : Nat → Nat → Nat → List UInt8 → Except Int (Der × List UInt8 × Nat)
 | 0,_,_,_=>.error 0
 | f + 1, lvl, n, s => match s with
  | []=>.error 1
  | c :: r => if c.toNat % 32 = 31 then .error 2 else if 24 < lvl then .error 9 else if 256 < n + 1 then .error 3 else
   match kQ r with
   | .error e=>.error e
   | .ok (k, t) => if t.length < k then .error 1 else
    if c.toNat / 32 % 2=0 then .ok (.mk (c.toNat / 64:Nat) (c.toNat % 32:Nat) false (t.take k) [],t.drop k,n+1) else
    match iS f lvl (n+1) (t.take k) with
    | .error e=>.error e
    | .ok (ks,n')=>.ok (.mk (c.toNat / 64:Nat) (c.toNat % 32:Nat) true [] ks,t.drop k,n')
def iS : Nat → Nat → Nat → List UInt8 → Except Int (List Der × Nat)
 | 0,_,_,_=>.error 0
 | f + 1, lvl, n, s => match s with
  | []=>.ok ([],n)
  | c :: r => match iH f (lvl + 1) n (c :: r) with
   | .error e=>.error e
   | .ok (d, t, n') => match iS f lvl n' t with
    | .error e=>.error e
    | .ok (ks,n'')=>.ok (d :: ks,n'')
end
def j5 (s : List UInt8) : Except Int Der :=
 if 65535<s.length then .error 3 else match iH (2 * s.length+1) 1 0 s with
  | .error e=>.error e
  | .ok (d,r,_)=>if r=[] then .ok d else .error 2
theorem jE : ∀ f, (∀ lvl n s d r n', iH f lvl n s = .ok (d, r, n') → r.length < s.length ∧ n' ≤ 256 ∧ d.sz + r.length ≤ s.length) ∧ (∀ lvl n s ks n', iS f lvl n s = .ok (ks, n') → (n' ≤ n ∨ n' ≤ 256) ∧ szs ks ≤ s.length) := by
 intro f
 induction f with
 | zero =>
  refine ⟨fun lvl n s d r n' h=>?_,fun lvl n s ks n' h=>?_⟩
  ·unfold iH at h; cases h
  ·unfold iS at h; cases h
 | succ f ih =>
  refine ⟨fun lvl n s d r n' h=>?_,fun lvl n s ks n' h=>?_⟩
  ·unfold iH at h
   cases s with
   | nil=>cases h
   | cons c s =>
    simp only at h
    split at h
    ·cases h
    split at h
    ·cases h
    split at h
    ·cases h
    split at h
    ·cases h
    ·rename_i k t hl
     have hl:=iF hl
     split at h
     ·cases h
     ·split at h
      ·cases h
       refine ⟨by simp only [List.length_drop,List.length_cons]; omega,by omega, ?_⟩
       simp only [Der.sz,szs,List.length_drop,List.length_cons]; omega
      ·split at h
       ·cases h
       ·rename_i ks n2 hk
        cases h
        have:=ih.2 _ _ _ _ _ hk
        have h2:(t.take k).length=k:=by rw [List.length_take]; omega
        refine ⟨by simp only [List.length_drop,List.length_cons]; omega,by omega, ?_⟩
        simp only [Der.sz,List.length_cons,List.length_drop]; omega
  ·unfold iS at h
   cases s with
   | nil=>cases h; simp [szs]
   | cons c s =>
    simp only at h
    split at h
    ·cases h
    ·rename_i d t n2 hv
     have hv:=ih.1 _ _ _ _ _ _ hv
     split at h
     ·cases h
     ·rename_i ks2 n3 hk
      cases h
      have hk:=ih.2 _ _ _ _ _ hk
      refine ⟨by omega, ?_⟩
      simp only [szs]; omega
theorem vK {s : List UInt8} {e : Int} (h : kQ s = .error e) : e ≠ 0 := by
 cases s with
 | nil=>cases h; decide
 | cons c r =>
  rw [kQ] at h
  split at h
  ·cases h
  ·split at h
   ·cases h; decide
   ·split at h
    ·cases h; decide
    ·split at h
     ·cases h; decide
     ·cases h
theorem pS : ∀ f, (∀ lvl n s e, 2 * s.length + 1 ≤ f → iH f lvl n s = .error e → e ≠ 0) ∧ (∀ lvl n s e, 2 * s.length + 2 ≤ f → iS f lvl n s = .error e → e ≠ 0) := by
 intro f
 induction f with
 | zero=>exact ⟨fun lvl n s e h=>by omega,fun lvl n s e h=>by omega⟩
 | succ f ih =>
  refine ⟨fun lvl n s e hf h=>?_,fun lvl n s e hf h=>?_⟩
  ·unfold iH at h
   cases s with
   | nil=>cases h; decide
   | cons c s =>
    simp only at h
    split at h
    ·cases h; decide
    split at h
    ·cases h; decide
    split at h
    ·cases h; decide
    split at h
    ·rename_i hl; cases h; exact vK hl
    ·rename_i k t hl
     have hl:=iF hl
     split at h
     ·cases h; decide
     ·split at h
      ·cases h
      ·split at h
       ·rename_i hk; cases h
        exact ih.2 _ _ _ _ (by rw [List.length_take]; simp only [List.length_cons] at hf; omega) hk
       ·cases h
  ·unfold iS at h
   cases s with
   | nil=>cases h
   | cons c s =>
    simp only at h
    split at h
    ·rename_i hv; cases h
     exact ih.1 _ _ _ _ (by omega) hv
    ·rename_i d t n2 hv
     have hv:=(jE f).1 _ _ _ _ _ _ hv
     split at h
     ·rename_i hk; cases h
      exact ih.2 _ _ _ _ (by omega) hk
     ·cases h
theorem DV.fill {h:aA} {F:Nat→Prop} {d:Der} {cs:List AV} (D:DV h F d cs):fJ z5 [(0,5,.ag cs)]=some cs:=by cases D; rfl
theorem DV.cells {h:aA} {F:Nat→Prop} {d:Der} {cs:List AV} (D:DV h F d cs):cs.all AV.cellOK=true:=by
 cases D with
 | mk _ _ _ hc=>simp [AV.cellOK] at hc ⊢; exact hc
theorem Arr.cellOK {sz:Nat} {h:aA} {v:AV} {cs:List AV} {n:Nat} (A:Arr sz h v cs n):v.cellOK=true:=by
 rcases A with ⟨rfl,_⟩ | ⟨id,b,rfl,_⟩ <;> rfl
theorem aPY (c:UInt8):cD .and .i64 (c.toNat:Int) 31=((c.toNat % 32:Nat):Int):=by
 have hc:=c.toNat_lt
 have:=qQ (x:=c.toNat) (n:=5) (by omega) (by omega)
 exact this
theorem aPT (c:UInt8):decide (cD .and .i64 (c.toNat:Int) 32=0)=decide (c.toNat / 32 % 2=0):=by
 have h:∀ n:Nat,n<256→decide (cD .and .i64 (n:Int) 32=0)=decide (n / 32 % 2=0):=by decide +kernel
 exact h c.toNat c.toNat_lt
section
variable {h0:aA}
def aPR (id0:Nat) (h:aA) (Q:AV→aA→Prop):Except Int (Der × List UInt8 × Nat)→Prop
 | .error e=>∀ h',Upd (· = id0) h h'→Q (.tu [.ag z5,.s [],.i .i64 e]) h'
 | .ok (d,r,n)=>∀ cs h',Upd (· = id0) h h'→bC h' id0 [.i .i64 (n:Int)]→DV h' (fun i=>h.length≤i) d cs→Q (.tu [.ag cs,.s r,.i .i64 0]) h'
def aQB (id0 i6 i10 base:Nat) (h:aA) (c t:Int) (ks:List Der) (rest:List UInt8) (Q:AV→aA→Prop):Except Int (List Der × Nat)→Prop
 | .error e=>∀ h',Upd (fun i=>i=id0∨i=i6∨i=i10∨base≤i) h h'→Q (.tu [.ag z5,.s [],.i .i64 e]) h'
 | .ok (ks',n)=>∀ cs h',Upd (fun i=>i=id0∨i=i6∨i=i10∨base≤i) h h'→bC h' id0 [.i .i64 (n:Int)]→DV h' (fun i=>base≤i) (.mk c t true [] (ks++ks')) cs→Q (.tu [.ag cs,.s rest,.i .i64 0]) h'
theorem aLO : ∀ f,
  (∀ (lvl n:Nat) (s:List UInt8) (id0:Nat) (h:aA) (Q:AV→aA→Prop),2 * s.length+1≤f→s.length≤100000→lvl≤1000→n≤256→bC h id0 [.i .i64 (n:Int)]→aPR id0 h Q (iH f lvl n s) →
   C Y56.id [.p (some ⟨id0,1,0⟩),.s s,.i .i64 (lvl:Int)] h Q) ∧
  (∀ (lvl n:Nat) (s rest:List UInt8) (ks:List Der) (rows:List (List AV)) (v:AV) (base id0 i6 i10:Nat) (c t:Int) (z:List AV) (h0 h:aA) (Q:AV→aA→Prop),2 * s.length+2≤f→rows.length+s.length≤100000→lvl≤24→n≤256→id0<base→i6<base→i10<base→id0≠i6→id0≠i10→i6≠i10→base≤h.length →
   bC h id0 [.i .i64 (n:Int)]→bC h i6 z→z.length=5→bC h i10 [.i .i64 c,.i .i64 t,.b true,.s [],v]→Arr 5 h v rows.flatten rows.length→(∀ i,bU v i→base≤i)→DVs h (fun i=>base≤i∧¬ bU v i) ks rows →
   aQB id0 i6 i10 base h c t ks rest Q (iS f lvl n s) →
   Y56.p0 (aL h0 Q) (.p (some ⟨id0,1,0⟩)) lvl (.p (some ⟨i6,5,0⟩)) (.p (some ⟨i10,5,0⟩)) s rest h):=by
 intro f
 induction f with
 | zero=>exact ⟨fun lvl n s id0 h Q hf=>by omega,fun lvl n s rest ks rows v base id0 i6 i10 c t z h0 h Q hf=>by omega⟩
 | succ f ih =>
  refine ⟨?_, ?_⟩
  ·intro lvl n s id0 h Q hf hs hlv hn R hq
   refine Y56.call ?_
   simp only [Y56.t, ← Y56.p0.eq_1]
   refine bR fun h1 hl1 U1 R6=>?_
   have R0:=R.upd U1 fun h=>h
   have id0l:=R.lt
   have err:∀ (e:Int) (hx:aA),aPR id0 h Q (.error e)→Upd (· = id0) h hx→bC hx h.length z5 →
     aP 5 (.p (some ⟨h.length,5,0⟩)) (.ag z5) hx fun h4=>aD 5 (.p (some ⟨h.length,5,0⟩)) h4 fun v6=>aL h Q (.tu [v6,.s [],.i .i64 e]) h4:=by
    intro e hx hv U Rx
    refine aW Rx rfl rfl rfl fun h4 hl4 U4 R4=>aT R4 rfl (.inl (hv h4 (U.trans U4 fun i hi he=>absurd he (by omega))))
   unfold iH at hq
   cases s with
   | nil=>exact aO rfl (err 1 h1 hq (U1.mono fun _ _ h=>h.elim) R6)
   | cons c s =>
    have hc:=c.toNat_lt
    simp only [List.length_cons] at hf hs
    refine aN (by simp) (cS (i:=0) rfl ?_)
    rw [aJ (by omega) (by omega)]
    refine lU (k:=.i64) (b:=6) (by decide) ?_
    refine aI (aPY c) (aI rfl ?_)
    refine bR fun h2 hl2 U2 R10=>?_
    refine aW R10 rfl rfl rfl fun h3 hl3 U3 R10'=>?_
    have R0:=(R0.upd U2 fun h=>h).upd U3 (by omega)
    have R6:=(R6.upd U2 fun h=>h).upd U3 (by omega)
    refine bI (aK (aM R0 rfl rfl (aQ (inc (by omega) (bI (aK (b7 R0 rfl (by simp) rfl rfl rfl fun h4 hl4 U4 R0=>?_)))))))
    have R0:bC h4 id0 [.i .i64 ((n+1:Nat):Int)]:=R0
    have R6:=R6.upd U4 (by omega)
    have R10:=R10'.upd U4 (by omega)
    have U:Upd (· = id0) h h4:=(((U1.mono fun _ _ h=>h.elim).trans U2 fun _ _ h=>h.elim).trans U3 fun i hi he=>absurd he (by omega)).trans U4 fun _ _ h=>h
    refine aK (aM R10 rfl rfl (aQ ?_))
    simp only at hq
    by_cases e31:c.toNat % 32=31
    ·rw [if_pos e31] at hq
     exact aO (by simp; omega) (err 2 h4 hq U R6)
    rw [if_neg e31] at hq
    refine aN (by simp; omega) ?_
    by_cases e24:24<lvl
    ·rw [if_pos e24] at hq
     exact aO (by simp; omega) (err 9 h4 hq U R6)
    rw [if_neg e24] at hq
    refine aN (by simp; omega) (bI (aK (aM R0 rfl rfl (aQ ?_))))
    by_cases e256:256<n+1
    ·rw [if_pos e256] at hq
     exact aO (by simp; omega) (err 3 h4 hq U R6)
    rw [if_neg e256] at hq
    refine aN (by simp; omega) (gY (lo:=1) (by simp) (aJ4 (by simp; omega) ?_))
    rw [show (c :: s).drop 1=s from rfl]
    cases hl:kQ s with
    | error e =>
     rw [hl] at hq
     refine aY (aQ (aZ (bA (gW (aQ ?_)))))
     exact aO (by simp [vK hl]) (err e h4 hq U R6)
    | ok x =>
     obtain ⟨k,t⟩:=x
     rw [hl] at hq
     simp only at hq
     have hsh:=iF hl
     refine aY (aQ (aZ (bA (gW (aQ (aN (by simp) ?_))))))
     by_cases hk:t.length<k
     ·rw [if_pos hk] at hq
      exact aO (by simp; omega) (err 1 h4 hq U R6)
     rw [if_neg hk] at hq
     refine aN (by simp; omega) (kW (by omega) (gY (by omega) (aK (aM R10 rfl rfl (aS ?_)))))
     have e32:=aPT c
     by_cases hm:c.toNat / 32 % 2=0
     ·rw [if_pos hm] at hq
      rw [decide_eq_true hm] at e32
      refine aO (by rw [e32] <;> rfl) ?_
      refine aK (b7 R10 rfl (by simp) rfl rfl rfl fun h5 hl5 U5 R10=>aT R10 rfl ?_)
      have R6:=R6.upd U5 (by omega)
      have R0:=R0.upd U5 (by omega)
      refine aW R6 rfl rfl (by simp [AV.cellOK]) fun h6 hl6 U6 R6=>aT R6 rfl (.inl ?_)
      have R0:=R0.upd U6 (by omega)
      refine hq _ h6 ((U.trans U5 fun i hi he=>absurd he (by omega)).trans U6 fun i hi he=>absurd he (by omega)) R0 ?_
      rw [e32]
      exact DV.leaf h6 _ _ _ _ _
     ·rw [if_neg hm] at hq
      rw [decide_eq_false hm] at e32
      refine aN (by rw [e32] <;> rfl) ?_
      rw [e32] at R10
      have:=ih.2 lvl (n+1) (t.take k) (t.drop k) [] [] (.sl none 0 none) (h.length+2) id0 h.length (h.length+1) (c.toNat / 64:Nat) (c.toNat % 32:Nat) z5 h h4 Q
       (by rw [List.length_take]; omega) (by rw [List.length_take]; simp; omega) (by omega) (by omega) (by omega) (by omega) (by omega) (by omega) (by omega) (by omega) (by omega) R0 R6 rfl (by rw [← hl1]; exact R10) (Arr.nil 5 h4) (fun i hi=>hi.elim) .nil ?_
      ·rw [← hl1] at this; exact this
      ·cases hd : iS f lvl (n + 1) (t.take k) with
       | error e =>
        rw [hd] at hq
        exact fun h' U'=>hq h' (U.trans U' fun i hi he=>by omega)
       | ok y =>
        obtain ⟨ks,n'⟩:=y
        rw [hd] at hq
        exact fun cs h' U' R' D'=>hq cs h' (U.trans U' fun i hi he=>by omega) R' (D'.upd (Upd.refl (fun _=>False) h') fun i hi _=>⟨fun h=>h,by omega⟩)
  ·intro lvl n s rest ks rows v base id0 i6 i10 c t z h0 h Q hf hs hlv hn b0 b6 b10 n06 n010 n610 hbl R0 R6 hz R10 A hvb D hq
   refine Y56.i0 ?_
   simp only [Y56.t0, ← Y56.p0.eq_1]
   unfold iS at hq
   cases s with
   | nil =>
    refine aN (by simp) (aT R10 rfl (aW R6 hz.symm rfl (by simp [AV.cellOK]; exact Arr.cellOK A) fun h1 hl1 U1 R6=>?_))
    refine aT R6 rfl (.inl (hq _ h1 (U1.mono fun i _ h=>.inr (.inl h)) (R0.upd U1 n06) ?_))
    rw [List.append_nil]
    have A1:=A.upd U1 fun i hi he=>by have:=hvb i hi; omega
    exact .mk (D.upd U1 fun i hi hl=>⟨by omega,hi.1⟩) (.inl A1.rd) (fun i hi=>⟨hvb i hi,A1.rd.lt hi⟩) (Arr.cellOK A)
   | cons x s =>
    simp only [List.length_cons] at hf hs
    simp only at hq
    refine aO (by simp) (bR fun h1 hl1 U1 R84=>?_)
    refine inc (by omega) ?_
    have R0:=R0.upd U1 fun h=>h
    have R6:=R6.upd U1 fun h=>h
    have R10:=R10.upd U1 fun h=>h
    refine ih.1 (lvl+1) n (x :: s) id0 h1 _ (by simp only [List.length_cons]; omega) (by simp only [List.length_cons]; omega) (by omega) hn R0 ?_
    cases hv:iH f (lvl+1) n (x :: s) with
    | error e =>
     rw [hv] at hq
     have he:=(pS f).1 _ _ _ _ (by simp only [List.length_cons]; omega) hv
     intro h2 U2
     refine aY (aZ (bA (gW (aQ ?_))))
     have R84:=R84.upd U2 (by omega)
     have R6:=R6.upd U2 (by omega)
     refine aW R84 rfl rfl rfl fun h3 hl3 U3 _=>?_
     have R6:=R6.upd U3 (by omega)
     refine aO (by simp [he]) (aW R6 hz.symm rfl rfl fun h4 hl4 U4 R6=>aT R6 rfl (.inl (hq h4 ?_)))
     refine (((U1.mono fun _ _ h=>h.elim).trans U2 fun i hi he=>.inl he).trans U3 fun i hi he=>absurd he (by omega)).trans U4 fun i hi he=>.inr (.inl he)
    | ok y =>
     obtain ⟨d,t',n'⟩:=y
     rw [hv] at hq
     simp only at hq
     have hsh:=(jE f).1 _ _ _ _ _ _ hv
     simp only [List.length_cons] at hsh
     intro cs h2 U2 R0 Dd
     refine aY (aZ (bA (gW (aQ ?_))))
     have R84:=R84.upd U2 (by omega)
     have R6:=R6.upd U2 (by omega)
     have R10:=R10.upd U2 (by omega)
     have hvl:∀ i,bU v i→i<h.length:=fun i hi=>A.rd.lt hi
     have A2:=(A.upd U1 fun _ _ h=>h).upd U2 fun i hi he=>by have:=hvb i hi; omega
     have D2:=(D.upd (F':=fun i=>(base≤i∧¬ bU v i)∧i<h.length) U1 fun i hi hl=>⟨fun h=>h,hi,hl⟩).upd (F':=fun i=>(base≤i∧¬ bU v i)∧i<h.length) U2 fun i hi _=>⟨by omega,hi⟩
     refine aW R84 rfl Dd.len Dd.cells fun h3 hl3 U3 R84=>?_
     have R0:=R0.upd U3 (by omega)
     have R6:=R6.upd U3 (by omega)
     have R10:=R10.upd U3 (by omega)
     have A3:=A2.upd U3 fun i hi he=>by have:=hvl i hi; omega
     have D3:=D2.upd (F':=fun i=>base≤i∧¬ bU v i) U3 fun i hi hl=>⟨by omega,hi.1⟩
     ·have Dd3 := Dd.upd (F' := fun i => h1.length ≤ i) U3 fun i hi _ => ⟨by omega, hi⟩
      refine aN (by simp) (aK (aM R10 rfl rfl (aT R84 Dd.len.symm ?_)))
      refine A3.push (x:=.ag cs) (by decide) Dd.fill Dd.len Dd.cells (by omega) (by omega) fun v' h4 U4 A4 F4=>?_
      have R10:=R10.upd U4 fun hs=>by have:=hvb i10 hs; omega
      have R0:=R0.upd U4 fun hs=>by have:=hvb id0 hs; omega
      have R6:=R6.upd U4 fun hs=>by have:=hvb i6 hs; omega
      have D4:=D3.upd (F':=fun i=>base≤i∧¬ bU v' i) U4 fun i hi hl=>⟨hi.2,hi.1,fun hs=>by
       rcases F4 i hs with h | h
       ·exact hi.2 h
       ·omega⟩
      have Dd4:=Dd3.upd (F':=fun i=>base≤i∧¬ bU v' i) U4 fun i hi hl=>⟨fun hs=>by have:=hvl i hs; omega,by omega,fun hs=>by
       rcases F4 i hs with h | h
       ·have:=hvl i h; omega
       ·omega⟩
      refine aK (b7 R10 rfl (by simp) (by rcases A4 with ⟨rfl,_⟩ | ⟨_,_,rfl,_⟩ <;> rfl) (by rcases A4 with ⟨rfl,_⟩ | ⟨_,_,rfl,_⟩ <;> rfl) (Arr.cellOK A4) fun h5 hl5 U5 R10=>?_)
      have hv'b:∀ i,bU v' i→base≤i:=fun i hs=>by
       rcases F4 i hs with h | h
       ·exact hvb i h
       ·have:=U1.1; have:=U2.1; have:=U3.1; omega
      have A5:=A4.upd U5 fun i hi he=>by have:=hv'b i hi; omega
      have D5:=(D4.app Dd4).upd (F':=fun i=>base≤i∧¬ bU v' i) U5 fun i hi hl=>⟨by omega,hi⟩
      have UU:Upd (fun i=>i=id0∨i=i6∨i=i10∨base≤i) h h5:=((((U1.mono fun _ _ h=>h.elim).trans U2 fun i hi he=>.inl he).trans U3 fun i hi he=>absurd he (by omega)).trans U4 fun i hi he=>.inr (.inr (.inr (hvb i he)))).trans U5 fun i hi he=>.inr (.inr (.inl he))
      refine ih.2 lvl n' t' rest (ks++[d]) (rows++[cs]) v' base id0 i6 i10 c t z h0 h5 Q (by omega) (by simp; omega) hlv (by omega) b0 b6 b10 n06 n010 n610 (by have:=UU.1; omega) (R0.upd U5 n010) (R6.upd U5 n610) hz R10 ?_ hv'b D5 ?_
      ·have A5 : Arr 5 h5 v' (rows.flatten ++ cs) (rows.length + 1) := A5
       simpa using A5
      ·cases hk : iS f lvl n' t' with
       | error e =>
        rw [hk] at hq
        exact fun h' U'=>hq h' (UU.trans U' fun _ _ h=>h)
       | ok y =>
        obtain ⟨ks',n''⟩:=y
        rw [hk] at hq
        exact fun cs' h' U' R' D'=>hq cs' h' (UU.trans U' fun _ _ h=>h) R' (by simpa using D')
end
end Go.Proofs.YtcdkpkkdolmfdaaGreatDoor
namespace Go.Proofs.YtcdkpkkdolmfdaaGreatDoor
open Go.GAM Go.RowKit
section
variable {h0:aA}
def aNH (id0 e:Nat) (S:List UInt8) (h:aA) (Q:AV→aA→Prop):Except Int (Der × List UInt8 × Nat)→Prop
 | .error x=>∀ h',Upd (· = id0) h h'→Q (.tu [.ag z5,.i .i64 x]) h'
 | .ok (d,r,n)=>∀ cs h',Upd (· = id0) h h'→bC h' id0 [.s S,.i .i64 ((e - r.length:Nat):Int),.i .i64 (n:Int)]→DV h' (fun i=>h.length≤i) d cs→Q (.tu [.ag cs,.i .i64 0]) h'
def aPQ (id0 i6 i10 base last:Nat) (S:List UInt8) (h:aA) (c t:Int) (ks:List Der) (Q:AV→aA→Prop):Except Int (List Der × Nat)→Prop
 | .error x=>∀ h',Upd (fun i=>i=id0∨i=i6∨i=i10∨base≤i) h h'→Q (.tu [.ag z5,.i .i64 x]) h'
 | .ok (ks',n)=>∀ cs h',Upd (fun i=>i=id0∨i=i6∨i=i10∨base≤i) h h'→bC h' id0 [.s S,.i .i64 (last:Int),.i .i64 (n:Int)]→DV h' (fun i=>base≤i) (.mk c t true [] (ks++ks')) cs→Q (.tu [.ag cs,.i .i64 0]) h'
theorem yY {s r : List UInt8} {n : Nat} (h : kQ s = .ok (n, r)) : r = s.drop (s.length - r.length) := by
 cases s with
 | nil=>cases h
 | cons c s =>
  rw [kQ] at h
  split at h
  ·cases h
   rw [show (c :: r).length - r.length=1 by simp] <;> rfl
  ·split at h
   ·cases h
   ·split at h
    ·cases h
    ·split at h
     ·cases h
     ·rename_i h2 h3
      cases h
      rw [show (c :: s).length - (s.drop (c.toNat - 128)).length=(c.toNat - 128)+1 by simp only [List.length_cons,List.length_drop]; omega]
      first | done | rfl
theorem aHX {f lvl n : Nat} {s r : List UInt8} {d : Der} {n' : Nat} (h : iH f lvl n s = .ok (d, r, n')) : r = s.drop (s.length - r.length) := by
 cases f with
 | zero=>unfold iH at h; cases h
 | succ f =>
  unfold iH at h
  cases s with
  | nil=>cases h
  | cons c s =>
   simp only at h
   split at h
   ·cases h
   split at h
   ·cases h
   split at h
   ·cases h
   split at h
   ·cases h
   ·rename_i k t hl
    have h1:=yY hl
    have h2:=iF hl
    have key:∀ k,k≤t.length→t.drop k=(c :: s).drop ((c :: s).length - (t.drop k).length):=by
     intro k hk
     rw [show (c :: s).length - (t.drop k).length=(s.length - t.length+k)+1 by simp only [List.length_cons,List.length_drop]; omega]
     rw [List.drop_succ_cons, ← List.drop_drop, ← h1]
    split at h
    ·cases h
    ·split at h
     ·cases h; exact key k (by omega)
     ·split at h
      ·cases h
      ·cases h; exact key k (by omega)
theorem aKT : ∀ f,
  (∀ (lvl n a e:Nat) (S:List UInt8) (id0:Nat) (h:aA) (Q:AV→aA→Prop),a≤e→e≤S.length→2 * (e - a)+1≤f→S.length≤100000→lvl≤1000→n≤256→bC h id0 [.s S,.i .i64 (a:Int),.i .i64 (n:Int)]→aNH id0 e S h Q (iH f lvl n ((S.take e).drop a)) →
   C Y57.id [.p (some ⟨id0,3,0⟩),.i .i64 (e:Int),.i .i64 (lvl:Int)] h Q) ∧
  (∀ (lvl n a last:Nat) (S:List UInt8) (ks:List Der) (rows:List (List AV)) (v:AV) (base id0 i6 i10:Nat) (c t:Int) (z:List AV) (h0 h:aA) (Q:AV→aA→Prop),a≤last→last≤S.length→2 * (last - a)+2≤f→S.length≤100000→rows.length+(last - a)≤100000→lvl≤24→n≤256→id0<base→i6<base→i10<base→id0≠i6→id0≠i10→i6≠i10→base≤h.length →
   bC h id0 [.s S,.i .i64 (a:Int),.i .i64 (n:Int)]→bC h i6 z→z.length=5→bC h i10 [.i .i64 c,.i .i64 t,.b true,.s [],v]→Arr 5 h v rows.flatten rows.length→(∀ i,bU v i→base≤i)→DVs h (fun i=>base≤i∧¬ bU v i) ks rows →
   aPQ id0 i6 i10 base last S h c t ks Q (iS f lvl n ((S.take last).drop a)) →
   Y57.p0 (aL h0 Q) (.p (some ⟨id0,3,0⟩)) lvl (.p (some ⟨i6,5,0⟩)) (.p (some ⟨i10,5,0⟩)) last h):=by
 intro f
 induction f with
 | zero=>exact ⟨fun lvl n a e S id0 h Q _ _ hf=>by omega,fun lvl n a last S ks rows v base id0 i6 i10 c t z h0 h Q _ _ hf=>by omega⟩
 | succ f ih =>
  refine ⟨?_, ?_⟩
  ·intro lvl n a e S id0 h Q hae he hf hS hlv hn R hq
   have hlen:((S.take e).drop a).length=e - a:=by rw [List.length_drop,List.length_take]; omega
   refine Y57.call ?_
   simp only [Y57.t, ← Y57.p0.eq_1]
   refine bR fun h1 hl1 U1 R6=>?_
   have R0:=R.upd U1 fun h=>h
   have id0l:=R.lt
   have err:∀ (x:Int) (hx:aA),aNH id0 e S h Q (.error x)→Upd (· = id0) h hx→bC hx h.length z5 →
     aP 5 (.p (some ⟨h.length,5,0⟩)) (.ag z5) hx fun h4=>aD 5 (.p (some ⟨h.length,5,0⟩)) h4 fun v6=>aL h Q (.tu [v6,.i .i64 x]) h4:=by
    intro x hx hv U Rx
    refine aW Rx rfl rfl rfl fun h4 hl4 U4 R4=>aT R4 rfl (.inl (hv h4 (U.trans U4 fun i hi he=>absurd he (by omega))))
   refine bI (aK (aM R0 rfl rfl (aQ ?_)))
   unfold iH at hq
   cases hs:(S.take e).drop a with
   | nil =>
    rw [hs] at hq hlen
    simp at hlen
    exact aO (by simp; omega) (err 1 h1 hq (U1.mono fun _ _ h=>h.elim) R6)
   | cons c s =>
    rw [hs] at hq hlen
    obtain ⟨g1,g2,g3⟩:=aDR hs
    have hc:=c.toNat_lt
    simp only [List.length_cons] at hlen
    refine aN (by simp; omega) (bI (aK (aM R0 rfl rfl (bA (bI (aK (aM R0 rfl rfl (aQ (kM g1 ?_)))))))))
    refine bI (aK (aM R0 rfl rfl (aQ (inc (by omega) (bI (aK (b7 R0 rfl (by simp) rfl rfl rfl fun h2 hl2 U2 R0=>?_)))))))
    have R0:bC h2 id0 [.s S,.i .i64 ((a+1:Nat):Int),.i .i64 (n:Int)]:=R0
    refine bI (aK (aM R0 rfl rfl (aQ (inc (by omega) (bI (aK (b7 R0 rfl (by simp) rfl rfl rfl fun h3 hl3 U3 R0=>?_)))))))
    have R0:bC h3 id0 [.s S,.i .i64 ((a+1:Nat):Int),.i .i64 ((n+1:Nat):Int)]:=R0
    have R6:=(R6.upd U2 (by omega)).upd U3 (by omega)
    have U:Upd (· = id0) h h3:=((U1.mono fun _ _ h=>h.elim).trans U2 fun _ _ h=>h).trans U3 fun _ _ h=>h
    rw [aJ (by omega) (by omega)]
    refine wP (n:=((c.toNat % 32:Nat):Int)) (by omega) (by rw [Int.tmod_eq_emod_of_nonneg (by omega)] <;> rfl) ?_
    simp only at hq
    by_cases e31:c.toNat % 32=31
    ·rw [if_pos e31] at hq
     exact aO (by simp; omega) (err 2 h3 hq U R6)
    rw [if_neg e31] at hq
    refine aN (by simp; omega) ?_
    by_cases e24:24<lvl
    ·rw [if_pos e24] at hq
     exact aO (by simp; omega) (err 9 h3 hq U R6)
    rw [if_neg e24] at hq
    refine aN (by simp; omega) (bI (aK (aM R0 rfl rfl (aQ ?_))))
    by_cases e256:256<n+1
    ·rw [if_pos e256] at hq
     exact aO (by simp; omega) (err 3 h3 hq U R6)
    rw [if_neg e256] at hq
    refine aN (by simp; omega) (aNS hS he (by omega) R0 ?_)
    rw [g3]
    cases hl:kQ s with
    | error x =>
     rw [hl] at hq
     intro h4 U4 hl4
     have R6:=R6.upd U4 (by omega)
     refine aY (aQ (aZ (aQ ?_)))
     exact aO (by simp [vK hl]) (err x h4 hq (U.trans U4 fun _ _ h=>h) R6)
    | ok x =>
     obtain ⟨k,t⟩:=x
     rw [hl] at hq
     simp only at hq
     have hsh:=iF hl
     have hrest:=yY hl
     intro h4 U4 hl4 R0
     have R6:=R6.upd U4 (by omega)
     have U:=U.trans U4 fun _ _ h=>h
     have ht:(S.take e).drop (e - t.length)=t:=by
      conv=>rhs; rw [hrest, ← g3,List.drop_drop,show a+1+(((S.take e).drop (a+1)).length - t.length)=e - t.length by rw [List.length_drop,List.length_take]; omega]
     refine aY (aQ (aZ (aQ (aN (by simp) (bI (aK (aM R0 rfl rfl (aQ ?_))))))))
     refine aI (n:=(t.length:Int)) (by rw [aJ (by omega) (by omega)]; omega) ?_
     by_cases hk:t.length<k
     ·rw [if_pos hk] at hq
      exact aO (by simp; omega) (err 1 h4 hq U R6)
     rw [if_neg hk] at hq
     refine aN (by simp; omega) ?_
     refine zG (n:=((c.toNat / 64:Nat):Int)) (by omega) (by rw [Int.tdiv_eq_ediv_of_nonneg (by omega),aJ (by omega) (by omega)]; omega) ?_
     refine wP (n:=((c.toNat % 32:Nat):Int)) (by omega) (by rw [Int.tmod_eq_emod_of_nonneg (by omega)] <;> rfl) ?_
     refine zG (n:=((c.toNat / 32:Nat):Int)) (by omega) (by rw [Int.tdiv_eq_ediv_of_nonneg (by omega),aJ (by omega) (by omega)]; omega) ?_
     refine wP (n:=((c.toNat / 32 % 2:Nat):Int)) (by omega) (by rw [Int.tmod_eq_emod_of_nonneg (by omega)] <;> rfl) ?_
     refine bR fun h5 hl5 U5 R10=>aW R10 rfl rfl rfl fun h6 hl6 U6 R10=>?_
     have R0:=(R0.upd U5 fun h=>h).upd U6 (by omega)
     have R6:=(R6.upd U5 fun h=>h).upd U6 (by omega)
     have U:=(U.trans U5 fun _ _ h=>h.elim).trans U6 fun i hi he=>absurd he (by omega)
     refine bI (aK (aM R0 rfl rfl (aQ ?_)))
     refine aI (n:=((e - t.length+k:Nat):Int)) (by rw [aJ (by omega) (by omega)]; omega) (aK (aM R10 rfl rfl (aS ?_)))
     have hd1:(S.take (e - t.length+k)).drop (e - t.length)=t.take k:=by
      conv=>rhs; rw [← ht,List.drop_take,List.take_take,Nat.min_eq_left (by omega)]
      rw [List.drop_take,show e - t.length+k - (e - t.length)=k by omega]
     have hd2:e - (t.drop k).length=e - t.length+k:=by rw [List.length_drop]; omega
     by_cases hm:c.toNat / 32 % 2=0
     ·rw [if_pos hm] at hq
      have e32:decide (((c.toNat / 32 % 2:Nat):Int)=1)=false:=by rw [hm] <;> rfl
      refine aO (by rw [e32] <;> rfl) ?_
      refine bI (aK (aM R0 rfl rfl (bA (bI (aK (aM R0 rfl rfl (aQ ?_)))))))
      refine wT (by omega) (by omega) ?_
      rw [hd1]
      refine aK (b7 R10 rfl (by simp) rfl rfl rfl fun h7 hl7 U7 R10=>?_)
      have R0:=R0.upd U7 (by omega)
      have R6:=R6.upd U7 (by omega)
      refine bI (aK (b7 R0 rfl (by simp) rfl rfl rfl fun h8 hl8 U8 R0=>?_))
      have R10:=R10.upd U8 (by omega)
      have R6:=R6.upd U8 (by omega)
      refine aT R10 rfl (aW R6 rfl rfl (by simp [AV.cellOK]) fun h9 hl9 U9 R6=>aT R6 rfl (.inl ?_))
      have R0:=R0.upd U9 (by omega)
      refine hq _ h9 (((U.trans U7 fun i hi he=>absurd he (by omega)).trans U8 fun _ _ h=>h).trans U9 fun i hi he=>absurd he (by omega)) ?_ ?_
      ·rw [hd2]; exact R0
      ·rw [e32]; exact DV.leaf h9 _ _ _ _ _
     ·rw [if_neg hm] at hq
      have e32:decide (((c.toNat / 32 % 2:Nat):Int)=1)=true:=by
       rw [decide_eq_true_eq]; omega
      refine aN (by rw [e32] <;> rfl) ?_
      rw [e32] at R10
      have:=ih.2 lvl (n+1) (e - t.length) (e - t.length+k) S [] [] (.sl none 0 none) (h4.length+1) id0 h.length h4.length (c.toNat / 64:Nat) (c.toNat % 32:Nat) z5 h h6 Q
       (by omega) (by omega) (by omega) hS (by simp; omega) (by omega) (by omega) (by omega) (by omega) (by omega) (by omega) (by omega) (by omega) (by omega) R0 R6 rfl R10 (Arr.nil 5 h6) (fun i hi=>hi.elim) .nil ?_
      ·exact this
      ·rw [hd1]
       cases hd:iS f lvl (n+1) (t.take k) with
       | error x =>
        rw [hd] at hq
        exact fun h' U'=>hq h' (U.trans U' fun i hi he=>by omega)
       | ok y =>
        obtain ⟨ks,n'⟩:=y
        rw [hd] at hq
        exact fun cs h' U' R' D'=>hq cs h' (U.trans U' fun i hi he=>by omega) (by rw [hd2]; exact R') (D'.upd (Upd.refl (fun _=>False) h') fun i hi _=>⟨fun h=>h,by omega⟩)
  ·intro lvl n a last S ks rows v base id0 i6 i10 c t z h0 h Q hal hls hf hS hrl hlv hn b0 b6 b10 n06 n010 n610 hbl R0 R6 hz R10 A hvb D hq
   have hlen:((S.take last).drop a).length=last - a:=by rw [List.length_drop,List.length_take]; omega
   refine Y57.i0 ?_
   simp only [Y57.t0, ← Y57.p0.eq_1]
   refine bI (aK (aM R0 rfl rfl (aQ ?_)))
   unfold iS at hq
   cases hs:(S.take last).drop a with
   | nil =>
    rw [hs] at hq hlen
    simp at hlen
    have:a=last:=by omega
    subst this
    refine aN (by simp) (aT R10 rfl (aW R6 hz.symm rfl (by simp [AV.cellOK]; exact Arr.cellOK A) fun h1 hl1 U1 R6=>?_))
    refine aT R6 rfl (.inl (hq _ h1 (U1.mono fun i _ h=>.inr (.inl h)) (R0.upd U1 n06) ?_))
    rw [List.append_nil]
    have A1:=A.upd U1 fun i hi he=>by have:=hvb i hi; omega
    exact .mk (D.upd U1 fun i hi hl=>⟨by omega,hi.1⟩) (.inl A1.rd) (fun i hi=>⟨hvb i hi,A1.rd.lt hi⟩) (Arr.cellOK A)
   | cons x s =>
    rw [hs] at hq hlen
    simp only [List.length_cons] at hlen
    simp only at hq
    refine aO (by simp; omega) (inc (by omega) ?_)
    refine ih.1 (lvl+1) n a last S id0 h _ hal hls (by omega) hS (by omega) hn R0 ?_
    rw [hs]
    cases hv:iH f (lvl+1) n (x :: s) with
    | error e =>
     rw [hv] at hq
     have he:=(pS f).1 _ _ _ _ (by simp only [List.length_cons]; omega) hv
     intro h1 U1
     refine aY (aZ (aQ (bR fun h2 hl2 U2 R84=>aW R84 rfl rfl rfl fun h3 hl3 U3 _=>?_)))
     have:=U1.1
     have R6:=((R6.upd U1 (by omega)).upd U2 fun h=>h).upd U3 (by omega)
     refine aO (by simp [he]) (aW R6 hz.symm rfl rfl fun h4 hl4 U4 R6=>aT R6 rfl (.inl (hq h4 ?_)))
     refine (((U1.mono fun i hi he=>.inl he).trans U2 fun i hi he=>he.elim).trans U3 fun i hi he=>absurd he (by omega)).trans U4 fun i hi he=>.inr (.inl he)
    | ok y =>
     obtain ⟨d,t',n'⟩:=y
     rw [hv] at hq
     simp only at hq
     have hsh:=(jE f).1 _ _ _ _ _ _ hv
     have hrest:=aHX hv
     simp only [List.length_cons] at hsh
     have ht':(S.take last).drop (last - t'.length)=t':=by
      conv=>rhs; rw [hrest, ← hs,List.drop_drop,show a+(((S.take last).drop a).length - t'.length)=last - t'.length by rw [List.length_drop,List.length_take]; omega]
     intro cs h1 U1 R0 Dd
     have hl1:=U1.1
     refine aY (aZ (aQ (bR fun h2 hl2 U2 R84=>aW R84 rfl Dd.len Dd.cells fun h3 hl3 U3 R84=>?_)))
     have R0:=(R0.upd U2 fun h=>h).upd U3 (by omega)
     have R6:=((R6.upd U1 (by omega)).upd U2 fun h=>h).upd U3 (by omega)
     have R10:=((R10.upd U1 (by omega)).upd U2 fun h=>h).upd U3 (by omega)
     have hvl:∀ i,bU v i→i<h.length:=fun i hi=>A.rd.lt hi
     have A3:=((A.upd U1 fun i hi he=>by have:=hvb i hi; omega).upd U2 fun _ _ h=>h).upd U3 fun i hi he=>by have:=hvl i hi; omega
     have D3:=((D.upd (F':=fun i=>(base≤i∧¬ bU v i)∧i<h.length) U1 fun i hi hl=>⟨by omega,hi,hl⟩).upd (F':=fun i=>(base≤i∧¬ bU v i)∧i<h.length) U2 fun i hi _=>⟨fun h=>h,hi⟩).upd (F':=fun i=>base≤i∧¬ bU v i) U3 fun i hi hl=>⟨by omega,hi.1⟩
     have Dd3:=(Dd.upd (F':=fun i=>h.length≤i∧i<h1.length) U2 fun i hi hl=>⟨fun h=>h,hi,hl⟩).upd (F':=fun i=>h.length≤i) U3 fun i hi _=>⟨by omega,hi.1⟩
     refine aN (by simp) (aK (aM R10 rfl rfl (aT R84 Dd.len.symm ?_)))
     refine A3.push (x:=.ag cs) (by decide) Dd.fill Dd.len Dd.cells (by omega) (by omega) fun v' h4 U4 A4 F4=>?_
     have R10:=R10.upd U4 fun hs=>by have:=hvb i10 hs; omega
     have R0:=R0.upd U4 fun hs=>by have:=hvb id0 hs; omega
     have R6:=R6.upd U4 fun hs=>by have:=hvb i6 hs; omega
     have D4:=D3.upd (F':=fun i=>base≤i∧¬ bU v' i) U4 fun i hi hl=>⟨hi.2,hi.1,fun hs=>by
      rcases F4 i hs with h | h
      ·exact hi.2 h
      ·omega⟩
     have Dd4:=Dd3.upd (F':=fun i=>base≤i∧¬ bU v' i) U4 fun i hi hl=>⟨fun hs=>by have:=hvl i hs; omega,by omega,fun hs=>by
      rcases F4 i hs with h | h
      ·have:=hvl i h; omega
      ·omega⟩
     refine aK (b7 R10 rfl (by simp) (by rcases A4 with ⟨rfl,_⟩ | ⟨_,_,rfl,_⟩ <;> rfl) (by rcases A4 with ⟨rfl,_⟩ | ⟨_,_,rfl,_⟩ <;> rfl) (Arr.cellOK A4) fun h5 hl5 U5 R10=>?_)
     have hv'b:∀ i,bU v' i→base≤i:=fun i hs=>by
      rcases F4 i hs with h | h
      ·exact hvb i h
      ·omega
     have A5:=A4.upd U5 fun i hi he=>by have:=hv'b i hi; omega
     have D5:=(D4.app Dd4).upd (F':=fun i=>base≤i∧¬ bU v' i) U5 fun i hi hl=>⟨by omega,hi⟩
     have UU:Upd (fun i=>i=id0∨i=i6∨i=i10∨base≤i) h h5:=((((U1.mono fun i hi he=>.inl he).trans U2 fun i hi he=>he.elim).trans U3 fun i hi he=>absurd he (by omega)).trans U4 fun i hi he=>.inr (.inr (.inr (hvb i he)))).trans U5 fun i hi he=>.inr (.inr (.inl he))
     refine ih.2 lvl n' (last - t'.length) last S (ks++[d]) (rows++[cs]) v' base id0 i6 i10 c t z h0 h5 Q (by omega) hls (by omega) hS (by simp; omega) hlv (by omega) b0 b6 b10 n06 n010 n610 (by have:=UU.1; omega) (R0.upd U5 n010) (R6.upd U5 n610) hz R10 ?_ hv'b D5 ?_
     ·have A5 : Arr 5 h5 v' (rows.flatten ++ cs) (rows.length + 1) := A5
      simpa using A5
     ·rw [ht']
      cases hk:iS f lvl n' t' with
      | error e =>
       rw [hk] at hq
       exact fun h' U'=>hq h' (UU.trans U' fun _ _ h=>h)
      | ok y =>
       obtain ⟨ks',n''⟩:=y
       rw [hk] at hq
       exact fun cs' h' U' R' D'=>hq cs' h' (UU.trans U' fun _ _ h=>h) R' (by simpa using D')
def aO2 (h:aA) (Q:AV→aA→Prop):Except Int Der→Prop
 | .error e=>∀ h',Upd (fun _=>False) h h'→Q (.tu [.ag z5,.i .i64 e]) h'
 | .ok d=>∀ cs h',Upd (fun _=>False) h h'→DV h' (fun i=>h.length≤i) d cs→Q (.tu [.ag cs,.i .i64 0]) h'
theorem aCR {s:List UInt8} {h:aA} {Q:AV→aA→Prop} (hq:aO2 h Q (j5 s)):C Y35.id [.s s] h Q:=by
 refine Y35.call ?_
 simp only [Y35.t, ← Y35.p0.eq_1]
 refine bR fun h1 hl1 U1 R0=>?_
 have err:∀ (e:Int) (hx:aA) (K:AV→aA→Prop),(∀ h4,Upd (fun _=>False) h h4→K (.ag z5) h4)→Upd (fun i=>h.length≤i) h1 hx→bC hx h.length z5 →
   aP 5 (.p (some ⟨h.length,5,0⟩)) (.ag z5) hx fun h4=>aD 5 (.p (some ⟨h.length,5,0⟩)) h4 fun v6=>K v6 h4:=by
  intro e hx K hk U Rx
  refine aW Rx rfl rfl rfl fun h4 hl4 U4 R4=>aT R4 rfl (hk h4 ?_)
  exact ((U1.mono (M':=fun i=>h.length≤i) fun _ _ h=>h.elim).trans U fun _ _ h=>h).trans U4 (fun i hi he=>by subst he; exact Nat.le_refl _) |>.mono fun i hi he=>by omega
 unfold j5 at hq
 by_cases hl:65535<s.length
 ·rw [if_pos hl] at hq
  exact aO (by simp; omega) (err 3 h1 _ (fun h4 U=>.inl (hq h4 U)) (Upd.refl _ _) R0)
 rw [if_neg hl] at hq
 refine aN (by simp; omega) (dP rfl fun h2 hl2 U2 R2=>?_)
 have R0:=R0.upd U2 fun h=>h
 refine (aLO (2 * s.length+1)).1 1 0 s h1.length h2 _ (Nat.le_refl _) (by omega) (by omega) (by omega) R2 ?_
 cases hv:iH (2 * s.length+1) 1 0 s with
 | error e =>
  rw [hv] at hq
  have he:=(pS _).1 _ _ _ _ (Nat.le_refl _) hv
  intro h3 U3
  refine aY (aZ (bA (gW (aQ (bR fun h4 hl4 U4 R4=>aW R4 rfl rfl rfl fun h5 hl5 U5 R5=>?_)))))
  have:=U3.1
  have R0:=((R0.upd U3 (by omega)).upd U4 fun h=>h).upd U5 (by omega)
  refine aN (by simp [he]) ?_
  refine Y35.i0 ?_
  simp only [Y35.t0, ← Y35.p1.eq_1]
  refine aN rfl ?_
  refine Y35.i1 ?_
  simp only [Y35.t1]
  refine aO (by simp [he]) (err e h5 _ (fun h6 U=>.inl (hq h6 U)) ?_ R0)
  exact (((U2.mono fun _ _ h=>h.elim).trans U3 fun i hi he=>by omega).trans U4 fun _ _ h=>h.elim).trans U5 fun i hi he=>by omega
 | ok y =>
  obtain ⟨d,r,n'⟩:=y
  rw [hv] at hq
  intro cs h3 U3 _ D
  refine aY (aZ (bA (gW (aQ (bR fun h4 hl4 U4 R4=>aW R4 rfl D.len D.cells fun h5 hl5 U5 R5=>?_)))))
  have:=U3.1
  have R0:=((R0.upd U3 (by omega)).upd U4 fun h=>h).upd U5 (by omega)
  have UU:Upd (fun i=>h.length≤i) h1 h5:=(((U2.mono fun _ _ h=>h.elim).trans U3 fun i hi he=>by omega).trans U4 fun _ _ h=>h.elim).trans U5 fun i hi he=>by omega
  have D5:=(D.upd (F':=fun i=>h2.length≤i∧i<h3.length) U4 fun i hi hl=>⟨fun h=>h,hi,hl⟩).upd (F':=fun i=>h2.length≤i∧i<h3.length) U5 fun i hi _=>⟨by omega,hi⟩
  refine aO (by simp) ?_
  refine Y35.i0 ?_
  simp only [Y35.t0, ← Y35.p1.eq_1]
  refine aG (fun e=>?_) fun e=>?_
  ·have hr : r ≠ [] := by simpa using e
   simp only [if_neg hr] at hq
   refine Y35.i1 ?_
   simp only [Y35.t1]
   exact aO (by simp) (err 2 h5 _ (fun h6 U=>.inl (hq h6 U)) UU R0)
  ·have hr : r = [] := by simpa using e
   simp only [if_pos hr] at hq
   refine Y35.i1 ?_
   simp only [Y35.t1]
   refine aN (by simp) (aT R5 D.len.symm (aW R0 rfl D.len D.cells fun h6 hl6 U6 R6=>aT R6 D.len.symm (.inl (hq cs h6 ?_ ?_))))
   ·exact ((U1.mono (M':=fun i=>h.length≤i) fun _ _ h=>h.elim).trans UU fun _ _ h=>h).trans U6 (fun i hi he=>by omega) |>.mono fun i hi he=>by omega
   ·exact D5.upd U6 fun i hi _=>⟨by omega,by omega⟩
theorem rL {s:List UInt8} {h:aA} {Q:AV→aA→Prop} (hq:aO2 h Q (j5 s)):C Y75.id [.s s] h Q:=by
 refine Y75.call ?_
 simp only [Y75.t]
 refine bR fun h1 hl1 U1 R0=>?_
 have err:∀ (hx:aA) (K:AV→aA→Prop),(∀ h4,Upd (fun _=>False) h h4→K (.ag z5) h4)→Upd (fun i=>h.length≤i) h1 hx→bC hx h.length z5 →
   aP 5 (.p (some ⟨h.length,5,0⟩)) (.ag z5) hx fun h4=>aD 5 (.p (some ⟨h.length,5,0⟩)) h4 fun v6=>K v6 h4:=by
  intro hx K hk U Rx
  refine aW Rx rfl rfl rfl fun h4 hl4 U4 R4=>aT R4 rfl (hk h4 ?_)
  exact ((U1.mono (M':=fun i=>h.length≤i) fun _ _ h=>h.elim).trans U fun _ _ h=>h).trans U4 (fun i hi he=>by subst he; exact Nat.le_refl _) |>.mono fun i hi he=>by omega
 unfold j5 at hq
 by_cases hl:65535<s.length
 ·rw [if_pos hl] at hq
  exact aO (by simp; omega) (err h1 _ (fun h4 U=>.inl (hq h4 U)) (Upd.refl _ _) R0)
 rw [if_neg hl] at hq
 refine aN (by simp; omega) (dP rfl fun h2 hl2 U2 R2=>?_)
 have R0:=R0.upd U2 fun h=>h
 have es:(s.take s.length).drop 0=s:=by simp
 refine (aKT (2 * s.length+1)).1 1 0 0 s.length s h1.length h2 _ (by omega) (by omega) (by omega) (by omega) (by omega) (by omega) R2 ?_
 rw [es]
 cases hv:iH (2 * s.length+1) 1 0 s with
 | error e =>
  rw [hv] at hq
  have he:=(pS _).1 _ _ _ _ (Nat.le_refl _) hv
  intro h3 U3
  refine aY (aZ (aQ (bR fun h4 hl4 U4 R4=>aW R4 rfl rfl rfl fun h5 hl5 U5 R5=>?_)))
  have:=U3.1
  have R0:=((R0.upd U3 (by omega)).upd U4 fun h=>h).upd U5 (by omega)
  refine aO (by simp [he]) (err h5 _ (fun h6 U=>.inl (hq h6 U)) ?_ R0)
  exact (((U2.mono fun _ _ h=>h.elim).trans U3 fun i hi he=>by omega).trans U4 fun _ _ h=>h.elim).trans U5 fun i hi he=>by omega
 | ok y =>
  obtain ⟨d,r,n'⟩:=y
  rw [hv] at hq
  have hsh:=(jE _).1 _ _ _ _ _ _ hv
  intro cs h3 U3 R2 D
  refine aY (aZ (aQ (bR fun h4 hl4 U4 R4=>aW R4 rfl D.len D.cells fun h5 hl5 U5 R5=>?_)))
  have:=U3.1
  have R0:=((R0.upd U3 (by omega)).upd U4 fun h=>h).upd U5 (by omega)
  have R2:=(R2.upd U4 fun h=>h).upd U5 (by omega)
  have UU:Upd (fun i=>h.length≤i) h1 h5:=(((U2.mono fun _ _ h=>h.elim).trans U3 fun i hi he=>by omega).trans U4 fun _ _ h=>h.elim).trans U5 fun i hi he=>by omega
  have D5:=(D.upd (F':=fun i=>h2.length≤i∧i<h3.length) U4 fun i hi hl=>⟨fun h=>h,hi,hl⟩).upd (F':=fun i=>h2.length≤i∧i<h3.length) U5 fun i hi _=>⟨by omega,hi⟩
  refine aN (by simp) (bI (aK (aM R2 rfl rfl (aQ ?_))))
  by_cases hr:r=[]
  ·simp only [if_pos hr] at hq
   subst hr
   refine aN (by simp) (aT R5 D.len.symm (aW R0 rfl D.len D.cells fun h6 hl6 U6 R6=>aT R6 D.len.symm (.inl (hq cs h6 ?_ ?_))))
   ·exact ((U1.mono (M':=fun i=>h.length≤i) fun _ _ h=>h.elim).trans UU fun _ _ h=>h).trans U6 (fun i hi he=>by omega) |>.mono fun i hi he=>by omega
   ·exact D5.upd U6 fun i hi _=>⟨by omega,by omega⟩
  ·simp only [if_neg hr] at hq
   have:=List.length_pos_iff.2 hr
   exact aO (by simp; omega) (err h5 _ (fun h6 U=>.inl (hq h6 U)) UU R0)
end
end Go.Proofs.YtcdkpkkdolmfdaaGreatDoor
namespace Go.Proofs.YtcdkpkkdolmfdaaGreatDoor
open Go.GAM Go.RowKit
mutual
def eG : Nat → Nat → Der → Int × Nat
 | lvl, n, .mk c t m s ks => if c < 0 ∨ 3 < c ∨ t < 0 ∨ 30 < t then (4, n + 1) else
  if (m=true∧s≠[])∨(m=false∧ks≠[]) then (13,n+1) else
  if 24<lvl then (9,n+1) else if 256<n+1 then (3,n+1) else g8 (lvl+1) (n+1) ks
def g8:Nat→Nat→List Der→Int × Nat
 | _,n,[]=>(0,n)
 | lvl,n,k :: r=>if (eG lvl n k).1≠0 then eG lvl n k else g8 lvl (eG lvl n k).2 r
end
theorem aNB : ∀ m, (∀ (d : Der) (lvl n : Nat), d.sz ≤ m → (eG lvl n d).1 = 0 → (eG lvl n d).2 ≤ 256) ∧ (∀ (ks : List Der) (lvl n : Nat), szs ks ≤ m → (g8 lvl n ks).1 = 0 → (g8 lvl n ks).2 ≤ n ∨ (g8 lvl n ks).2 ≤ 256) := by
 intro m
 induction m with
 | zero =>
  refine ⟨fun d lvl n hd=>absurd hd (by have:=dU d; omega),fun ks lvl n hk _=>?_⟩
  cases ks with
  | nil=>unfold g8; exact .inl (Nat.le_refl _)
  | cons k r=>have:=dU k; unfold szs at hk; omega
 | succ m ih =>
  have hV:∀ (d:Der) (lvl n:Nat),d.sz≤m+1→(eG lvl n d).1=0→(eG lvl n d).2≤256:=by
   intro d lvl n hd h
   obtain ⟨c,t,mm,s,ks⟩:=d
   unfold Der.sz at hd
   unfold eG at h ⊢
   split at h
   ·cases h
   rename_i c1
   split at h
   ·cases h
   rename_i c2
   split at h
   ·cases h
   rename_i c3
   split at h
   ·cases h
   rename_i c4
   rw [if_neg c1,if_neg c2,if_neg c3,if_neg c4]
   have:=ih.2 ks (lvl+1) (n+1) (by omega) h
   omega
  refine ⟨hV,fun ks=>?_⟩
  induction ks with
  | nil=>intro lvl n _ _; unfold g8; exact .inl (Nat.le_refl _)
  | cons k r ihr =>
   intro lvl n hk h
   unfold szs at hk
   unfold g8 at h ⊢
   split at h
   ·rename_i h1; exact absurd h h1
   ·rename_i h1
    rw [if_neg h1]
    have h1:(eG lvl n k).1=0:=by simpa using h1
    have:=hV k lvl n (by omega) h1
    have:=ihr lvl _ (by omega) h
    omega
section
variable {h0:aA}
theorem rI {k:Der} {r:List Der} {lvl n:Nat}:g8 lvl n (k :: r)=if (eG lvl n k).1≠0 then eG lvl n k else g8 lvl (eG lvl n k).2 r:=by
 rw [g8]
theorem aI6 : ∀ m, m ≤ 1000000 → ∀ (d : Der) (cs : List AV) (F : Nat → Prop) (lvl n id0 : Nat) (h : aA) (Q : AV → aA → Prop), d.sz ≤ m → lvl ≤ 1000 → n ≤ 256 → bC h id0 [.i .i64 (n : Int)] → DV h F d cs → (∀ i, F i → i ≠ id0) →
  (∀ h',Upd (· = id0) h h'→bC h' id0 [.i .i64 ((eG lvl n d).2:Int)]→Q (.i .i64 (eG lvl n d).1) h')→C Y26.id [.p (some ⟨id0,1,0⟩),.ag cs,.i .i64 (lvl:Int)] h Q:=by
 intro m
 induction m with
 | zero=>intro _ d cs F lvl n id0 h Q hd; have:=dU d; omega
 | succ m ih =>
  intro hm d cs F lvl n id0 h Q hd hlv hn R D hF hq
  cases D with
  | @mk c t mm s ks v rows Dk sv fv ov=>
  refine Y26.call ?_
  simp only [Y26.t, ← Y26.p0.eq_1]
  unfold Der.sz at hd
  have hkl:=lY ks
  have hln:=Dk.length
  have id0l:=R.lt
  refine dP rfl fun h1 hl1 U1 B=>?_
  have R1:=R.upd U1 fun h=>h
  refine bI (aK (aM R1 rfl rfl (aQ (inc (by omega) (bI (aK (b7 R1 rfl (by simp) rfl rfl rfl fun h2 hl2 U2 R2=>?_)))))))
  have R2:bC h2 id0 [.i .i64 ((n+1:Nat):Int)]:=R2
  have B:=B.upd U2 (by omega)
  have U:Upd (· = id0) h h2:=(U1.mono fun _ _ h=>h.elim).trans U2 fun _ _ h=>h
  have S2:=sv.upd U fun i hs _=>hF i (fv i hs).1
  have D2:=Dk.upd (F':=F) U fun i hi _=>⟨hF i hi,hi⟩
  unfold eG at hq
  have lens:∀ K:Int→Prop,K (ks.length:Int)→bJ v K:=fun K hk=>S2.len (by rw [← hln]; exact hk)
  have hks:∀ k∈ks,k.sz≤m:=fun k hk=>by have:=mB hk; omega
  have goK:24<lvl∨∀ (r:List Der) (i n2:Nat) (h2:aA),ks.drop i=r→i≤ks.length→n2≤256→Upd (· = id0) h h2→bC h2 h.length [.i .i64 c,.i .i64 t,.b mm,.s s,v]→bC h2 id0 [.i .i64 (n2:Int)] →
    (∀ h',Upd (· = id0) h h'→bC h' id0 [.i .i64 ((g8 (lvl+1) n2 r).2:Int)]→Q (.i .i64 (g8 (lvl+1) n2 r).1) h')→Y26.p2 (aL h Q) (.p (some ⟨id0,1,0⟩)) lvl (.p (some ⟨h.length,5,0⟩)) i h2:=by
   by_cases h24:24<lvl
   ·exact .inl h24
   refine .inr ?_
   intro r
   induction r with
   | nil =>
    intro i n2 h2 hr hi hn2 U B R hk
    have hle:=cA hr
    have S2:=sv.upd U fun i hs _=>hF i (fv i hs).1
    refine Y26.i2 ?_
    simp only [Y26.t2, ← Y26.p2.eq_1]
    refine aK (aM B rfl rfl (S2.len (aN (by simp; omega) (.inl ?_))))
    have:=hk h2 U (by unfold g8; exact R)
    unfold g8 at this
    exact this
   | cons k r ihr =>
    intro i n2 h2 hr hi hn2 U B R hk
    have hlt:=cG hr
    have hn':=b3 hr
    have hki:=b4 hr
    have S2:=sv.upd U fun i hs _=>hF i (fv i hs).1
    have D2:=Dk.upd (F':=F) U fun i hi _=>⟨hF i hi,hi⟩
    obtain ⟨r1,g1,e1⟩:=D2.get hki
    obtain ⟨id1,ver1,off1,cap1,b1,rfl,A1⟩:=S2.at (by omega)
    have q1:=jI rows i r1 D2.len5 g1
    have hk0:=List.mem_of_getElem? hki
    refine Y26.i2 ?_
    simp only [Y26.t2, ← Y26.p2.eq_1]
    refine aK (aM B rfl rfl (S2.len (aO (by simp; omega) ?_)))
    refine aK (aM B rfl rfl (b9 A1 (by omega) (m8 A1 (by omega) q1 (inc (by omega) ?_))))
    refine ih (by omega) k r1 F (lvl+1) n2 id0 h2 _ (hks k hk0) (by omega) hn2 R e1 hF fun h3 U3 R3=>aQ ?_
    have UU:=U.trans U3 fun _ _ h=>h
    have B:=B.upd U3 (by omega)
    rw [rI] at hk
    by_cases he:(eG (lvl+1) n2 k).1≠0
    ·rw [if_pos he] at hk
     exact aO (by simp [he]) (.inl (hk h3 UU R3))
    ·rw [if_neg he] at hk
     have he0:(eG (lvl+1) n2 k).1=0:=by simpa using he
     refine aN (by simp [he0]) (inc (by omega) ?_)
     exact ihr (i+1) _ h3 hn' (by omega) ((aNB k.sz).1 k _ _ (Nat.le_refl _) he0) UU B R3 hk
  have p1:¬ (c<0∨3<c∨t<0∨30<t)→∀ b,b=decide ((mm=true∧s≠[])∨(mm=false∧ks≠[]))→Y26.p1 (aL h Q) (.p (some ⟨id0,1,0⟩)) lvl (.p (some ⟨h.length,5,0⟩)) b h2:=by
   intro c1 b hb
   rw [if_neg c1] at hq
   refine Y26.i1 ?_
   simp only [Y26.t1, ← Y26.p2.eq_1]
   refine aG (fun e=>?_) fun e=>?_
   ·subst e
    rw [if_pos (by simpa using hb.symm)] at hq
    exact .inl (hq h2 U R2)
   ·subst e
    rw [if_neg (of_decide_eq_false hb.symm)] at hq
    by_cases c3:24<lvl
    ·rw [if_pos c3] at hq
     exact aO (by simp; omega) (.inl (hq h2 U R2))
    rw [if_neg c3] at hq
    refine aN (by simp; omega) (bI (aK (aM R2 rfl rfl (aQ ?_))))
    by_cases c4:256<n+1
    ·rw [if_pos c4] at hq
     exact aO (by simp; omega) (.inl (hq h2 U R2))
    rw [if_neg c4] at hq
    refine aN (by simp; omega) ?_
    exact goK.resolve_left c3 ks 0 (n+1) h2 rfl (by omega) (by omega) U B R2 hq
  have p0 : ∀ b, b = decide (c < 0 ∨ 3 < c ∨ t < 0 ∨ 30 < t) → Y26.p0 (aL h Q) (.p (some ⟨id0, 1, 0⟩)) lvl (.p (some ⟨h.length, 5, 0⟩)) b h2 := by
   intro b hb
   refine Y26.i0 ?_
   simp only [Y26.t0, ← Y26.p1.eq_1]
   refine aG (fun e=>?_) fun e=>?_
   ·subst e
    rw [if_pos (by simpa using hb.symm)] at hq
    exact .inl (hq h2 U R2)
   ·subst e
    have p1:=p1 (of_decide_eq_false hb.symm)
    refine aK (aM B rfl rfl (aS ?_))
    cases mm with
    | true =>
     refine aO rfl (aK (aM B rfl rfl (bA ?_)))
     refine aG (fun e=>p1 _ ?_) fun e=>aK (aM B rfl rfl (aS (aN rfl (p1 _ ?_))))
     ·have : s ≠ [] := by simpa using e
      simp [this]
     ·have : s = [] := by simpa using e
      simp [this]
    | false =>
     refine aN rfl (aK (aM B rfl rfl (aS (aO rfl (aK (aM B rfl rfl (lens _ (p1 _ ?_))))))))
     rw [decide_eq_decide]
     simp only [Bool.false_eq_true,false_and,true_and,false_or]
     rw [← List.length_pos_iff]; omega
  refine aK (aM B rfl rfl (aQ ?_))
  refine aG (fun e=>p0 _ ?_) fun e1=>aK (aM B rfl rfl (aQ ?_))
  ·simp only [decide_eq_true_eq] at e
   simp [e]
  refine aG (fun e=>p0 _ ?_) fun e2=>aK (aM B rfl rfl (aQ ?_))
  ·simp only [decide_eq_true_eq] at e
   simp [e]
  refine aG (fun e=>p0 _ ?_) fun e3=>aK (aM B rfl rfl (aQ (p0 _ ?_)))
  ·simp only [decide_eq_true_eq] at e
   simp [e]
  simp only [decide_eq_false_iff_not] at e1 e2 e3
  rw [decide_eq_decide]; omega
theorem aLY : ∀ m, m ≤ 1000000 → ∀ (d : Der) (cs : List AV) (F : Nat → Prop) (lvl n id0 : Nat) (h : aA) (Q : AV → aA → Prop), d.sz ≤ m → lvl ≤ 1000 → n ≤ 256 → bC h id0 [.i .i64 (n : Int)] → DV h F d cs → (∀ i, F i → i ≠ id0) →
  (∀ h',Upd (· = id0) h h'→bC h' id0 [.i .i64 ((eG lvl n d).2:Int)]→Q (.i .i64 (eG lvl n d).1) h')→C Y39.id [.p (some ⟨id0,1,0⟩),.ag cs,.i .i64 (lvl:Int)] h Q:=by
 intro m
 induction m with
 | zero=>intro _ d cs F lvl n id0 h Q hd; have:=dU d; omega
 | succ m ih =>
  intro hm d cs F lvl n id0 h Q hd hlv hn R D hF hq
  cases D with
  | @mk c t mm s ks v rows Dk sv fv ov=>
  refine Y39.call ?_
  simp only [Y39.t, ← Y39.p0.eq_1]
  unfold Der.sz at hd
  have hkl:=lY ks
  have hln:=Dk.length
  have id0l:=R.lt
  refine dP rfl fun h1 hl1 U1 BP=>dP rfl fun h2 hl2 U2 B=>dP rfl fun h3 hl3 U3 BL=>?_
  have U03:Upd (fun _=>False) h h3:=(U1.trans U2 fun _ _ h=>h).trans U3 fun _ _ h=>h
  have R3:=R.upd U03 fun h=>h
  have BP:=(BP.upd U2 fun h=>h).upd U3 fun h=>h
  have B:=B.upd U3 fun h=>h
  refine aM BP rfl rfl ?_
  refine bI (aK (aM R3 rfl rfl (aQ (inc (by omega) (bI (aK (b7 R3 rfl (by simp) rfl rfl rfl fun h4 hl4 U4 R4=>?_)))))))
  have R4:bC h4 id0 [.i .i64 ((n+1:Nat):Int)]:=R4
  have BP:=BP.upd U4 (by omega)
  have B:=B.upd U4 (by omega)
  have BL:=BL.upd U4 (by omega)
  have U:Upd (· = id0) h h4:=(U03.mono fun _ _ h=>h.elim).trans U4 fun _ _ h=>h
  have S4:=sv.upd U fun i hs _=>hF i (fv i hs).1
  unfold eG at hq
  have lens:∀ K:Int→Prop,K (ks.length:Int)→bJ v K:=fun K hk=>S4.len (by rw [← hln]; exact hk)
  have hks:∀ k∈ks,k.sz≤m:=fun k hk=>by have:=mB hk; omega
  have p1 : ¬ (c < 0 ∨ 3 < c ∨ t < 0 ∨ 30 < t) → ∀ b, b = decide ((mm = true ∧ s ≠ []) ∨ (mm = false ∧ ks ≠ [])) → Y39.p1 (aL h Q) (.p (some ⟨h.length, 1, 0⟩)) (.p (some ⟨h1.length, 5, 0⟩)) (.p (some ⟨h2.length, 1, 0⟩)) b h4 := by
   intro c1 b hb
   rw [if_neg c1] at hq
   refine Y39.i1 ?_
   simp only [Y39.t1]
   refine aG (fun e=>?_) fun e=>?_
   ·subst e
    rw [if_pos (by simpa using hb.symm)] at hq
    exact .inl (hq h4 U R4)
   ·subst e
    rw [if_neg (of_decide_eq_false hb.symm)] at hq
    refine aM BL rfl rfl (aQ ?_)
    by_cases c3:24<lvl
    ·rw [if_pos c3] at hq
     exact aO (by simp; omega) (.inl (hq h4 U R4))
    rw [if_neg c3] at hq
    refine aN (by simp; omega) (aM BP rfl rfl (bI (aK (aM R4 rfl rfl (aQ ?_)))))
    by_cases c4:256<n+1
    ·rw [if_pos c4] at hq
     exact aO (by simp; omega) (.inl (hq h4 U R4))
    rw [if_neg c4] at hq
    refine aN (by simp; omega) (bR fun h5 hl5 U5 RE=>b7 RE rfl (by simp) rfl rfl rfl fun h6 hl6 U6 RE=>?_)
    have RE:bC h6 h4.length [.i .i64 0]:=RE
    have BP:=(BP.upd U5 fun h=>h).upd U6 (by omega)
    have B:=(B.upd U5 fun h=>h).upd U6 (by omega)
    have BL:=(BL.upd U5 fun h=>h).upd U6 (by omega)
    have R6:=(R4.upd U5 fun h=>h).upd U6 (by omega)
    have U6:Upd (· = id0) h h6:=(U.trans U5 fun _ _ h=>h.elim).trans U6 fun i hi he=>absurd he (by omega)
    refine aK (aM B rfl rfl ?_)
    have S6:=sv.upd U6 fun i hs _=>hF i (fv i hs).1
    refine Y55.call ?_
    simp only [Y55.t, ← Y55.p0.eq_1]
    refine S6.len ?_
    rw [← hln]
    generalize hK:(fun (v76:AV) (h77:aA)=>asB v76 fun c78=>aE (.p (some ⟨h4.length,1,0⟩)) h77 fun v80=>asI .i64 v80 fun n81=>aL h Q (.i .i64 n81) h77)=K
    have hKe:∀ b (h7:aA) (e:Int) (n':Nat),Upd (· = id0) h h7→bC h7 h4.length [.i .i64 e]→bC h7 id0 [.i .i64 (n':Int)]→(∀ h',Upd (· = id0) h h'→bC h' id0 [.i .i64 (n':Int)]→Q (.i .i64 e) h')→K (.b b) h7:=by
     intro b h7 e n' U7 RE R7 hq
     rw [← hK]
     exact aS (aM RE rfl rfl (aQ (.inl (hq h7 U7 R7))))
    clear hK
    have go:∀ (r:List Der) (i n2:Nat) (hh:aA),ks.drop i=r→i≤ks.length→n2≤256→Upd (· = id0) h hh→h6.length≤hh.length→bC hh h.length [.p (some ⟨id0,1,0⟩)]→bC hh h2.length [.i .i64 (lvl:Int)]→bC hh h4.length [.i .i64 0]→bC hh id0 [.i .i64 (n2:Int)] →
      (∀ h',Upd (· = id0) h h'→bC h' id0 [.i .i64 ((g8 (lvl+1) n2 r).2:Int)]→Q (.i .i64 (g8 (lvl+1) n2 r).1) h') →
      Y55.p0 (aL h6 K) (.fn (.func Y83.id) [] [.p (some ⟨h.length,1,0⟩),.p (some ⟨h2.length,1,0⟩),.p (some ⟨h4.length,1,0⟩)]) v ks.length i hh:=by
     intro r
     induction r with
     | nil =>
      intro i n2 hh hr hi hn2 U hlh BP BL RE R hk
      have hle:=cA hr
      refine Y55.i0 ?_
      simp only [Y55.t0]
      refine aN (by simp; omega) (.inl (hKe true hh 0 n2 U RE R ?_))
      unfold g8 at hk
      exact hk
     | cons k r ihr =>
      intro i n2 hh hr hi hn2 U hlh BP BL RE R hk
      have hlt:=cG hr
      have hn':=b3 hr
      have hki:=b4 hr
      have S2:=sv.upd U fun i hs _=>hF i (fv i hs).1
      have D2:=Dk.upd (F':=fun i=>F i∧i<h.length) U fun i hi hl=>⟨hF i hi,hi,hl⟩
      obtain ⟨r1,g1,e1⟩:=D2.get hki
      obtain ⟨id1,ver1,off1,cap1,b1,rfl,A1⟩:=S2.at (by omega)
      have q1:=jI rows i r1 D2.len5 g1
      have hk0:=List.mem_of_getElem? hki
      refine Y55.i0 ?_
      simp only [Y55.t0, ← Y55.p0.eq_1]
      refine aO (by simp; omega) (b9 A1 (by omega) (m8 A1 (by omega) q1 ?_))
      refine bR fun g1 gl1 V1 RK=>aW RK rfl e1.len e1.cells fun g2 gl2 V2 RK=>aT RK e1.len.symm ?_
      have V12:Upd (fun _=>False) hh g2:=(V1.mono (M':=fun i=>i=hh.length) fun _ _ h=>h.elim).trans V2 (fun _ _ h=>h) |>.mono fun i hi he=>by omega
      refine f6 rfl ?_
      show C Y83.id [.ag r1,.p (some ⟨h.length,1,0⟩),.p (some ⟨h2.length,1,0⟩),.p (some ⟨h4.length,1,0⟩)] g2 _
      refine Y83.call ?_
      simp only [Y83.t]
      refine dP rfl fun g3 gl3 V3 RB=>?_
      have V13:Upd (fun _=>False) hh g3:=V12.trans V3 fun _ _ h=>h
      have BP3:=BP.upd V13 fun h=>h
      have BL3:=BL.upd V13 fun h=>h
      have RE3:=RE.upd V13 fun h=>h
      have R3:=R.upd V13 fun h=>h
      have e3:=e1.ext V13
      have RB:bC g3 g2.length r1:=RB
      refine aM BP3 rfl rfl ?_
      have eP:(AV.ag r1).parts.length=5:=e1.len
      rw [eP]
      refine aT RB e1.len.symm (aM BL3 rfl rfl (aQ (inc (by omega) ?_)))
      refine ih (by omega) k r1 (fun i=>F i∧i<h.length) (lvl+1) n2 id0 g3 _ (hks k hk0) (by omega) hn2 R3 e3 (fun i hi=>hF i hi.1) fun g4 V4 R4=>aQ ?_
      have gg:=V4.1
      have RE4:=RE3.upd V4 (by omega)
      refine b7 RE4 rfl (by simp) rfl rfl rfl fun g5 gl5 V5 RE5=>aM RE5 rfl rfl (aQ (.inl (aS ?_)))
      have RE5:bC g5 h4.length [.i .i64 (eG (lvl+1) n2 k).1]:=RE5
      have R5:=R4.upd V5 (by omega)
      have BP5:=(BP3.upd V4 (by omega)).upd V5 (by omega)
      have BL5:=(BL3.upd V4 (by omega)).upd V5 (by omega)
      have UU:Upd (· = id0) h g5:=((U.trans V13 fun _ _ h=>h.elim).trans V4 fun _ _ h=>h).trans V5 fun i hi he=>absurd he (by omega)
      have gg2:=V13.1
      rw [rI] at hk
      by_cases he:(eG (lvl+1) n2 k).1≠0
      ·rw [if_pos he] at hk
       exact aO (by simp [he]) (.inl (hKe false g5 _ _ UU RE5 R5 hk))
      ·rw [if_neg he] at hk
       have he0:(eG (lvl+1) n2 k).1=0:=by simpa using he
       rw [he0] at RE5
       refine aN (by simp [he0]) (inc (by omega) ?_)
       exact ihr (i+1) _ g5 hn' (by omega) ((aNB k.sz).1 k _ _ (Nat.le_refl _) he0) UU (by omega) BP5 BL5 RE5 R5 hk
    exact go ks 0 (n+1) h6 rfl (by omega) (by omega) U6 (Nat.le_refl _) BP BL RE R6 hq
  have p0 : ∀ b, b = decide (c < 0 ∨ 3 < c ∨ t < 0 ∨ 30 < t) → Y39.p0 (aL h Q) (.p (some ⟨h.length, 1, 0⟩)) (.p (some ⟨h1.length, 5, 0⟩)) (.p (some ⟨h2.length, 1, 0⟩)) b h4 := by
   intro b hb
   refine Y39.i0 ?_
   simp only [Y39.t0, ← Y39.p1.eq_1]
   refine aG (fun e=>?_) fun e=>?_
   ·subst e
    rw [if_pos (by simpa using hb.symm)] at hq
    exact .inl (hq h4 U R4)
   ·subst e
    have p1:=p1 (of_decide_eq_false hb.symm)
    refine aK (aM B rfl rfl (aS ?_))
    cases mm with
    | true =>
     refine aO rfl (aK (aM B rfl rfl (bA ?_)))
     refine aG (fun e=>p1 _ ?_) fun e=>aK (aM B rfl rfl (aS (aN rfl (p1 _ ?_))))
     ·have : s ≠ [] := by simpa using e
      simp [this]
     ·have : s = [] := by simpa using e
      simp [this]
    | false =>
     refine aN rfl (aK (aM B rfl rfl (aS (aO rfl (aK (aM B rfl rfl (lens _ (p1 _ ?_))))))))
     rw [decide_eq_decide]
     simp only [Bool.false_eq_true,false_and,true_and,false_or]
     rw [← List.length_pos_iff]; omega
  refine aK (aM B rfl rfl (aQ ?_))
  refine aG (fun e=>p0 _ ?_) fun e1=>aK (aM B rfl rfl (aQ ?_))
  ·simp only [decide_eq_true_eq] at e
   simp [e]
  refine aG (fun e=>p0 _ ?_) fun e2=>aK (aM B rfl rfl (aQ ?_))
  ·simp only [decide_eq_true_eq] at e
   simp [e]
  refine aG (fun e=>p0 _ ?_) fun e3=>aK (aM B rfl rfl (aQ (p0 _ ?_)))
  ·simp only [decide_eq_true_eq] at e
   simp [e]
  simp only [decide_eq_false_iff_not] at e1 e2 e3
  rw [decide_eq_decide]; omega
end
end Go.Proofs.YtcdkpkkdolmfdaaGreatDoor
namespace Go.Proofs.YtcdkpkkdolmfdaaGreatDoor
open Go.GAM Go.RowKit
mutual
def wfV:Der→Prop
 | .mk c t m s ks=>(0≤c∧c≤3∧0≤t∧t≤30)∧(m=true→s=[])∧(m=false→ks=[])∧wfK ks
def wfK:List Der→Prop
 | []=>True
 | k :: r=>wfV k∧wfK r
end
mutual
def fG:Der→Nat
 | .mk _ _ _ s ks=>s.length+10+dE ks
def dE:List Der→Nat
 | []=>0
 | k :: r=>fG k+dE r
end
def oN (n:Nat):List UInt8:=if n<128 then [UInt8.ofNat n] else if n<256 then [129,UInt8.ofNat n] else [130,UInt8.ofNat (n / 256),UInt8.ofNat n]
def hdB (c t:Int) (m:Bool):UInt8:=UInt8.ofNat (c.toNat * 64+t.toNat+if m=true then 32 else 0)
mutual
def cQ:Der→List UInt8
 | .mk c t m s ks=>hdB c t m :: oN (s++b8 ks).length++(s++b8 ks)
def b8:List Der→List UInt8
 | []=>[]
 | k :: r=>cQ k++b8 r
end
def gE (d:Der):Except Int (List UInt8):=
 if (eG 1 0 d).1≠0 then .error (eG 1 0 d).1 else if 65535<(cQ d).length then .error 3 else .ok (cQ d)
theorem aBP (n:Nat):(oN n).length≤3:=by unfold oN; split <;> (try split) <;> simp
theorem aF3:∀ m,(∀ d:Der,d.sz≤m→(cQ d).length≤fG d)∧∀ ks:List Der,szs ks≤m→(b8 ks).length≤dE ks:=by
 intro m
 induction m with
 | zero =>
  refine ⟨fun d hd=>absurd hd (by have:=dU d; omega),fun ks hk=>?_⟩
  cases ks with
  | nil=>simp [b8]
  | cons k r=>have:=dU k; unfold szs at hk; omega
 | succ m ih =>
  have hV:∀ d:Der,d.sz≤m+1→(cQ d).length≤fG d:=by
   intro d hd
   obtain ⟨c,t,mm,s,ks⟩:=d
   unfold Der.sz at hd
   have:=ih.2 ks (by omega)
   have:=aBP (s++b8 ks).length
   unfold cQ fG
   simp only [List.length_cons,List.length_append] at *
   omega
  refine ⟨hV,fun ks=>?_⟩
  induction ks with
  | nil=>intro _; simp [b8]
  | cons k r ihr =>
   intro hk
   unfold szs at hk
   have:=hV k (by omega)
   have:=ihr (by omega)
   unfold b8 dE
   rw [List.length_append]; omega
theorem k8 (d:Der):(cQ d).length≤fG d:=(aF3 d.sz).1 d (Nat.le_refl _)
theorem jN (ks:List Der):(b8 ks).length≤dE ks:=(aF3 (szs ks)).2 ks (Nat.le_refl _)
theorem o7:∀ (a b:List Der),b8 (a++b)=b8 a++b8 b
 | [],b=>by simp [b8]
 | k :: a,b=>by simp [b8,o7 a b]
theorem oH:∀ (a b:List Der),dE (a++b)=dE a+dE b
 | [],b=>by simp [dE]
 | k :: a,b=>by simp [dE,oH a b]; omega
theorem pI (ks:List Der) (i:Nat):dE (ks.take i)≤dE ks:=by
 have:=oH (ks.take i) (ks.drop i)
 rw [List.take_append_drop] at this; omega
theorem sL:∀ {ks:List Der} {k:Der},k∈ks→fG k≤dE ks
 | [],k,h=>by cases h
 | a :: r, k, h => by
  unfold dE
  rcases List.mem_cons.1 h with rfl | h
  ·omega
  ·have:=sL h; omega
theorem tS:∀ {ks:List Der} {k:Der},wfK ks→k∈ks→wfV k
 | [],k,_,h=>by cases h
 | a :: r, k, hw, h => by
  unfold wfK at hw
  rcases List.mem_cons.1 h with rfl | h
  ·exact hw.1
  ·exact tS hw.2 h
theorem aDO : ∀ m, (∀ (d : Der) (lvl n : Nat), d.sz ≤ m → (eG lvl n d).1 = 0 → wfV d) ∧ (∀ (ks : List Der) (lvl n : Nat), szs ks ≤ m → (g8 lvl n ks).1 = 0 → wfK ks) := by
 intro m
 induction m with
 | zero =>
  refine ⟨fun d lvl n hd=>absurd hd (by have:=dU d; omega),fun ks lvl n hk _=>?_⟩
  cases ks with
  | nil=>unfold wfK; trivial
  | cons k r=>have:=dU k; unfold szs at hk; omega
 | succ m ih =>
  have hV:∀ (d:Der) (lvl n:Nat),d.sz≤m+1→(eG lvl n d).1=0→wfV d:=by
   intro d lvl n hd h
   obtain ⟨c,t,mm,s,ks⟩:=d
   unfold Der.sz at hd
   unfold eG at h
   split at h
   ·cases h
   rename_i c1
   split at h
   ·cases h
   rename_i c2
   split at h
   ·cases h
   split at h
   ·cases h
   unfold wfV
   refine ⟨by omega,fun hm=>?_,fun hm=>?_,ih.2 ks _ _ (by omega) h⟩
   ·exact Classical.byContradiction fun hs=>c2 (.inl ⟨hm,hs⟩)
   ·exact Classical.byContradiction fun hs=>c2 (.inr ⟨hm,hs⟩)
  refine ⟨hV,fun ks=>?_⟩
  induction ks with
  | nil=>intro lvl n _ _; unfold wfK; trivial
  | cons k r ihr =>
   intro lvl n hk h
   unfold szs at hk
   unfold g8 at h
   unfold wfK
   split at h
   ·rename_i h1; exact absurd h h1
   ·rename_i h1
    exact ⟨hV k lvl n (by omega) (by simpa using h1),ihr _ _ (by omega) h⟩
theorem aPF {c t:Nat} (hc:c<4) (ht:t<31):c * 64 ||| t=c * 64+t∧(c * 64+t) ||| 32=c * 64+t+32:=by
 have:∀ c,c<4→∀ t,t<31→c * 64 ||| t=c * 64+t∧(c * 64+t) ||| 32=c * 64+t+32:=by decide +kernel
 exact this c hc t ht
section
variable {h0:aA} {Q:AV→aA→Prop}
theorem vQ {acc l:List UInt8} {v:AV} {h:aA} (T:Tx h0 h v l) (hl:l.length+acc.length≤1000000) (hq:Q (.s (l++acc)) h0):Y18.p3 (aL h0 Q) acc v h:=by
 refine Y18.i3 ?_
 simp only [Y18.t3]
 exact T.str ⟨by omega,aU rfl T.upd.ext hq⟩
theorem aC0 {acc:List UInt8} {x:Nat} {h:aA} (U:Upd (fun _=>False) h0 h) (hx:x<256) (hl:acc.length<65536) (hq:Q (.s (UInt8.ofNat x :: oN acc.length++acc)) h0):Y18.p2 (aL h0 Q) acc x h:=by
 refine Y18.i2 ?_
 simp only [Y18.t2, ← Y18.p3.eq_1]
 rw [cJ x,Nat.mod_eq_of_lt hx,show ((x:Nat):Int)=((UInt8.ofNat x).toNat:Int) by rw [UInt8.toNat_ofNat']; omega]
 refine Tx.one U fun v h1 T U1=>?_
 unfold oN at hq
 by_cases h1:acc.length<128
 ·rw [if_pos h1] at hq
  refine aO (by simp; omega) (aI (cJ _) ?_)
  rw [eT]
  exact T.push (by simp) fun v' h' T'=>vQ T' (by simp; omega) (by simpa using hq)
 rw [if_neg h1] at hq
 refine aN (by simp; omega) ?_
 by_cases h2:acc.length<256
 ·rw [if_pos h2] at hq
  refine aO (by simp; omega) (aI (cJ _) ?_)
  rw [eT]
  exact T.push2 (c:=129) (by simp) fun v' h' T'=>vQ T' (by simp; omega) (by simpa using hq)
 rw [if_neg h2] at hq
 refine aN (by simp; omega) ?_
 have h3:decide ((acc.length:Int)<65536)=true:=by
  rw [decide_eq_true_eq]; omega
 rw [h3,cond_true]
 refine lU (k:=.i64) (b:=8) (by decide) (aI (cJ _) ?_)
 rw [cJ,eT,eT]
 exact T.push3 (c:=130) (by simp) fun v' h' T'=>vQ T' (by simp; omega) (by simpa using hq)
theorem aLZ : ∀ m, m ≤ 1000000 → ∀ (d : Der) (cs : List AV) (F : Nat → Prop) (h : aA) (Q : AV → aA → Prop), d.sz ≤ m → wfV d → fG d ≤ 60000 → DV h F d cs → Q (.s (cQ d)) h → C Y18.id [.ag cs] h Q := by
 intro m
 induction m with
 | zero=>intro _ d cs F h Q hd; have:=dU d; omega
 | succ m ih =>
  intro hm d cs F h Q hd hw hs D hq
  cases D with
  | @mk c t mm s ks v rows Dk sv fv ov=>
  unfold Der.sz at hd
  have hkl:=lY ks
  have hln:=Dk.length
  unfold wfV at hw
  obtain ⟨⟨hc0,hc3,ht0,ht30⟩,hw1,hw2,hw3⟩:=hw
  unfold fG at hs
  obtain ⟨cn,rfl⟩:∃ n:Nat,c=n:=⟨c.toNat,by omega⟩
  obtain ⟨tn,rfl⟩:∃ n:Nat,t=n:=⟨t.toNat,by omega⟩
  refine Y18.call ?_
  simp only [Y18.t, ← Y18.p0.eq_1]
  refine dP rfl fun h1 hl1 U1 B=>aK (aM B rfl rfl (bA (aK (aM B rfl rfl ?_))))
  have S1:=sv.upd U1 fun _ _ _ h=>h
  refine S1.len ?_
  rw [← hln]
  have hbl:=jN ks
  have fin:∀ hh,Upd (fun _=>False) h hh→bC hh h.length [.i .i64 (cn:Int),.i .i64 (tn:Int),.b mm,.s s,v]→Y18.p1 (aL h Q) (.p (some ⟨h.length,5,0⟩)) (s++b8 ks) hh:=by
   intro hh U B
   refine Y18.i1 ?_
   simp only [Y18.t1, ← Y18.p2.eq_1]
   obtain ⟨o1,o2⟩:=aPF (c:=cn) (t:=tn) (by omega) (by omega)
   refine aK (aM B rfl rfl (aQ (zQ (b:=6) (by omega) (by omega) ?_)))
   refine aK (aM B rfl rfl (aQ (aI (n:=((cn * 64+tn:Nat):Int)) ?_ ?_)))
   ·rw [oI (by omega) (by omega),show cn * 2 ^ 6=cn * 64 from rfl,o1]
   refine aK (aM B rfl rfl (aS ?_))
   unfold cQ hdB at hq
   rw [Int.toNat_natCast,Int.toNat_natCast] at hq
   have hcl:(s++b8 ks).length<65536:=by rw [List.length_append]; omega
   cases mm with
   | true =>
    refine aO rfl ?_
    have:=oI (x:=cn * 64+tn) (y:=32) (by omega) (by omega)
    rw [o2] at this
    rw [show cD .or .i64 ((cn * 64+tn:Nat):Int) 32=((cn * 64+tn+32:Nat):Int) from this]
    exact aC0 U (by omega) hcl hq
   | false =>
    exact aN rfl (aC0 U (by omega) hcl hq)
  have loop:∀ (r:List Der) (i:Nat) (hh:aA),ks.drop i=r→i≤ks.length→Upd (fun _=>False) h hh→bC hh h.length [.i .i64 (cn:Int),.i .i64 (tn:Int),.b mm,.s s,v]→Y18.p0 (aL h Q) (.p (some ⟨h.length,5,0⟩)) (s++b8 (ks.take i)) v ks.length i hh:=by
   intro r
   induction r with
   | nil =>
    intro i hh hr hi U B
    have hle:=cA hr
    refine Y18.i0 ?_
    simp only [Y18.t0, ← Y18.p1.eq_1]
    rw [List.take_of_length_le hle]
    exact aN (by simp; omega) (fin hh U B)
   | cons k r ihr =>
    intro i hh hr hi U B
    have hlt:=cG hr
    have hn':=b3 hr
    have hki:=b4 hr
    have S2:=sv.upd U fun _ _ _ h=>h
    obtain ⟨r1,g1,e1⟩:=(Dk.upd (F':=F) U fun i hi _=>⟨fun h=>h,hi⟩).get hki
    obtain ⟨id1,ver1,off1,cap1,b1,rfl,A1⟩:=S2.at (by omega)
    have q1:=jI rows i r1 Dk.len5 g1
    have hk0:=List.mem_of_getElem? hki
    have hsz:=mB hk0
    have hds:=sL hk0
    have hbt:=jN (ks.take i)
    have hdt:=pI ks i
    have hbk:=k8 k
    refine Y18.i0 ?_
    simp only [Y18.t0, ← Y18.p0.eq_1, ← Y18.p1.eq_1]
    refine aO (by simp; omega) (b9 A1 (by omega) (m8 A1 (by omega) q1 ?_))
    refine bR fun g1 gl1 V1 RK=>aW RK rfl e1.len e1.cells fun g2 gl2 V2 RK=>aT RK e1.len.symm ?_
    have V12:Upd (fun _=>False) hh g2:=(V1.mono (M':=fun i=>i=hh.length) fun _ _ h=>h.elim).trans V2 (fun _ _ h=>h) |>.mono fun i hi he=>by omega
    refine ih (by omega) k r1 F g2 _ (by omega) (tS hw3 hk0) (by omega) (e1.ext V12) (bA ⟨by rw [List.length_append]; omega, ?_⟩)
    have e:s++b8 (ks.take i)++cQ k=s++b8 (ks.take (i+1)):=by
     rw [dH hki,o7,List.append_assoc]
     simp [b8]
    rw [e]
    have hbt2:=jN (ks.take (i+1))
    have hdt2:=pI ks (i+1)
    refine aN (by rw [List.length_append]; simp; omega) (inc (by omega) ?_)
    exact ihr (i+1) g2 hn' (by omega) (U.trans V12 fun _ _ h=>h) (B.upd V12 fun h=>h)
  have:=loop ks 0 h1 rfl (by omega) U1 B
  rw [List.take_zero,b8,List.append_nil] at this
  exact this
theorem y5 {n:Nat} {h:aA} (hn:n<65536) (hq:Q (.s (oN n)) h):C Y43.id [.i .i64 (n:Int)] h Q:=by
 refine Y43.call ?_
 simp only [Y43.t, ← Y43.p0.eq_1]
 unfold oN at hq
 have last:∀ (v:AV) (l:List UInt8) (hh:aA),l.length≤10→Tx h hh v l→Q (.s (UInt8.ofNat (128+l.length) :: l)) h→Y43.p0 (aL h Q) v 0 hh:=by
  intro v l hh hl T hq
  refine Y43.i0 ?_
  simp only [Y43.t0]
  refine aN rfl (T.arr.rd.len ?_)
  refine aI (n:=((128+l.length:Nat):Int)) (by rw [aJ (by omega) (by omega)]; omega) ?_
  rw [cJ,eT]
  refine Tx.one T.upd fun v2 h2 T2 U2=>T2.str ((T.ext U2).str ⟨by simp; omega,aU rfl T2.upd.ext ?_⟩)
  simpa using hq
 have step:∀ (v:AV) (l:List UInt8) (x:Nat) (hh:aA),0<x→x<65536→l.length≤10→Tx h hh v l→(∀ v' h',Tx h h' v' (UInt8.ofNat x :: l)→Y43.p0 (aL h Q) v' ((x / 256:Nat):Int) h')→Y43.p0 (aL h Q) v x hh:=by
  intro v l x hh hx0 hx hl T hk
  refine Y43.i0 ?_
  simp only [Y43.t0, ← Y43.p0.eq_1]
  refine aO (by simp; omega) ?_
  rw [cJ,eT]
  refine Tx.one T.upd fun v2 h2 T2 U2=>?_
  refine T2.app (T.ext U2).byt (by simp; omega) fun v3 h3 T3 _=>lU (k:=.i64) (b:=8) (by decide) ?_
  exact hk v3 h3 (by simpa using T3)
 by_cases h1:n<128
 ·rw [if_pos h1] at hq
  refine aO (by simp; omega) ?_
  rw [cJ,eT]
  refine Tx.one (Upd.refl _ _) fun v2 h2 T2 U2=>T2.ret hq
 rw [if_neg h1] at hq
 refine aN (by simp; omega) ?_
 refine step _ [] n h (by omega) hn (by simp) (Tx.start h) fun v1 h1 T1=>?_
 by_cases h2:n<256
 ·rw [if_pos h2] at hq
  rw [show n / 256=0 by omega]
  exact last v1 _ h1 (by simp) T1 hq
 ·rw [if_neg h2] at hq
  refine step _ _ (n / 256) h1 (by omega) (by omega) (by simp) T1 fun v2 h2 T2=>?_
  rw [show n / 256 / 256=0 by omega]
  exact last v2 _ h2 (by simp) T2 hq
theorem aBC {l:List UInt8} {h:aA} (E:Ext h0 h) (hq:Q (.s l) h0):Y27.p2 (aL h0 Q) l h:=by
 refine Y27.i2 ?_
 simp only [Y27.t2]
 exact aU rfl E hq
theorem aCH {acc:List UInt8} {x:Nat} {h:aA} (U:Upd (fun _=>False) h0 h) (hx:x<256) (hl:acc.length<65536) (hq:Q (.s (UInt8.ofNat x :: oN acc.length++acc)) h0):Y27.p1 (aL h0 Q) x acc h:=by
 have h3:=aBP acc.length
 refine Y27.i1 ?_
 simp only [Y27.t1, ← Y27.p2.eq_1]
 rw [cJ x,Nat.mod_eq_of_lt hx,show ((x:Nat):Int)=((UInt8.ofNat x).toNat:Int) by rw [UInt8.toNat_ofNat']; omega]
 refine ⟨?_, ?_⟩
 ·refine Tx.one U fun v h1 T U1 => T.str (y5 hl (bA (T.str ⟨rfl, ⟨by simp; omega, ⟨by simp; omega, aBC T.upd.ext ?_⟩⟩⟩)))
  simpa using hq
 ·refine y5 hl (bA (Tx.one U fun v h1 T U1 => T.str ⟨by simp; omega, ⟨by simp; omega, aBC T.upd.ext ?_⟩⟩))
  simpa using hq
theorem aJD : ∀ m, m ≤ 1000000 → ∀ (d : Der) (cs : List AV) (F : Nat → Prop) (h : aA) (Q : AV → aA → Prop), d.sz ≤ m → wfV d → fG d ≤ 60000 → DV h F d cs → Q (.s (cQ d)) h → C Y27.id [.ag cs] h Q := by
 intro m
 induction m with
 | zero=>intro _ d cs F h Q hd; have:=dU d; omega
 | succ m ih =>
  intro hm d cs F h Q hd hw hs D hq
  cases D with
  | @mk c t mm s ks v rows Dk sv fv ov=>
  unfold Der.sz at hd
  have hkl:=lY ks
  have hln:=Dk.length
  unfold wfV at hw
  obtain ⟨⟨hc0,hc3,ht0,ht30⟩,hw1,hw2,hw3⟩:=hw
  unfold fG at hs
  obtain ⟨cn,rfl⟩:∃ n:Nat,c=n:=⟨c.toNat,by omega⟩
  obtain ⟨tn,rfl⟩:∃ n:Nat,t=n:=⟨t.toNat,by omega⟩
  have hbl:=jN ks
  have hcl:(s++b8 ks).length<65536:=by rw [List.length_append]; omega
  unfold cQ hdB at hq
  rw [Int.toNat_natCast,Int.toNat_natCast] at hq
  refine Y27.call ?_
  simp only [Y27.t, ← Y27.p0.eq_1, ← Y27.p1.eq_1]
  refine dP rfl fun h1 hl1 U1 B=>aK (aM B rfl rfl (aQ ?_))
  refine aI (n:=((64 * cn:Nat):Int)) (by rw [aJ (by omega) (by omega)]; omega) (aK (aM B rfl rfl (aQ ?_)))
  refine aI (n:=((cn * 64+tn:Nat):Int)) (by rw [aJ (by omega) (by omega)]; omega) (aK (aM B rfl rfl (bA (aK (aM B rfl rfl (aS ?_))))))
  cases mm with
  | false =>
   have:ks=[]:=hw2 rfl
   subst this
   refine aN rfl (aCH U1 (by omega) ?_ ?_)
   ·simpa [b8] using hcl
   ·simpa [b8] using hq
  | true =>
   refine aO rfl (aI (n:=((cn * 64+tn+32:Nat):Int)) (by rw [aJ (by omega) (by omega)]; omega) ?_)
   have loop:∀ (r:List Der) (i:Nat),ks.drop i=r→i≤ks.length→Y27.p0 (aL h Q) (.p (some ⟨h.length,5,0⟩)) ((cn * 64+tn+32:Nat):Int) (s++b8 (ks.take i)) i h1:=by
    intro r
    induction r with
    | nil =>
     intro i hr hi
     have hle:=cA hr
     have S1:=sv.upd U1 fun _ _ _ h=>h
     refine Y27.i0 ?_
     simp only [Y27.t0, ← Y27.p1.eq_1]
     rw [List.take_of_length_le hle]
     refine aK (aM B rfl rfl (S1.len (aN (by simp; omega) ?_)))
     exact aCH U1 (by omega) hcl hq
    | cons k r ihr =>
     intro i hr hi
     have hlt:=cG hr
     have hn':=b3 hr
     have hki:=b4 hr
     have S2:=sv.upd U1 fun _ _ _ h=>h
     obtain ⟨r1,g1,e1⟩:=(Dk.upd (F':=F) U1 fun i hi _=>⟨fun h=>h,hi⟩).get hki
     obtain ⟨id1,ver1,off1,cap1,b1,rfl,A1⟩:=S2.at (by omega)
     have q1:=jI rows i r1 Dk.len5 g1
     have hk0:=List.mem_of_getElem? hki
     have hsz:=mB hk0
     have hds:=sL hk0
     have hbt:=jN (ks.take i)
     have hdt:=pI ks i
     have hbk:=k8 k
     refine Y27.i0 ?_
     simp only [Y27.t0, ← Y27.p0.eq_1]
     refine aK (aM B rfl rfl (S2.len (aO (by simp; omega) ?_)))
     refine aK (aM B rfl rfl (b9 A1 (by omega) (m8 A1 (by omega) q1 ?_)))
     refine ih (by omega) k r1 F h1 _ (by omega) (tS hw3 hk0) (by omega) e1 (bA ⟨by rw [List.length_append]; omega,inc (by omega) ?_⟩)
     have e:s++b8 (ks.take i)++cQ k=s++b8 (ks.take (i+1)):=by
      rw [dH hki,o7,List.append_assoc]
      simp [b8]
     rw [e]
     exact ihr (i+1) hn' (by omega)
   have:=loop ks 0 rfl (by omega)
   rw [List.take_zero,b8,List.append_nil] at this
   exact this
def zS:Except Int (List UInt8)→AV
 | .error e=>.tu [.s [],.i .i64 e]
 | .ok l=>.tu [.s l,.i .i64 0]
theorem aCO {d:Der} {cs:List AV} {F:Nat→Prop} {h:aA} {Q:AV→aA→Prop} (hsz:d.sz≤100000) (hs:fG d≤60000) (D:DV h F d cs) (hF:∀ i,F i→i<h.length) (hq:Q (zS (gE d)) h):C Y80.id [.ag cs] h Q:=by
 refine Y80.call ?_
 simp only [Y80.t]
 refine dP rfl fun h1 hl1 U1 B=>dP rfl fun h2 hl2 U2 R=>?_
 have B:bC h1 h.length cs:=B
 have B2:=B.upd U2 fun h=>h
 have hp:(AV.ag cs).parts.length=5:=D.len
 rw [hp]
 have D2:=(D.ext U1).ext U2
 unfold gE at hq
 refine aT B2 D.len.symm (aLY d.sz (by omega) d cs F 1 0 h1.length h2 _ (Nat.le_refl _) (by omega) (by omega) R D2 (fun i hi=>by have:=hF i hi; omega) fun h3 U3 R3=>aQ ?_)
 have E:Ext h h3:=((((U1.mono (M':=fun i=>h.length≤i) fun _ _ h=>h.elim).trans U2 fun _ _ h=>h.elim).trans U3 fun i hi he=>by omega).mono (M':=fun i=>False) fun i hi he=>by omega).ext
 by_cases he:(eG 1 0 d).1≠0
 ·rw [if_pos he] at hq
  exact aO (by simp [he]) (aU rfl E hq)
 ·rw [if_neg he] at hq
  have he0:(eG 1 0 d).1=0:=by simpa using he
  have hw:=(aDO d.sz).1 d 1 0 (Nat.le_refl _) he0
  have D3:=D2.upd (F':=F) U3 fun i hi _=>⟨by have:=hF i hi; omega,hi⟩
  have B3:=B2.upd U3 (by omega)
  have hbl:=k8 d
  refine aN (by simp [he0]) (aT B3 D.len.symm (aLZ d.sz (by omega) d cs F h3 _ (Nat.le_refl _) hw hs D3 (bA ?_)))
  rw [if_neg (by omega)] at hq
  exact aN (by simp; omega) (aU rfl E hq)
theorem aG7 {d:Der} {cs:List AV} {F:Nat→Prop} {h:aA} {Q:AV→aA→Prop} (hsz:d.sz≤100000) (hs:fG d≤60000) (D:DV h F d cs) (hF:∀ i,F i→i<h.length) (hq:Q (zS (gE d)) h):C Y90.id [.ag cs] h Q:=by
 refine Y90.call ?_
 simp only [Y90.t]
 refine dP rfl fun h1 hl1 U1 B=>dP rfl fun h2 hl2 U2 R=>?_
 have B:bC h1 h.length cs:=B
 have B2:=B.upd U2 fun h=>h
 have hp:(AV.ag cs).parts.length=5:=D.len
 rw [hp]
 have D2:=(D.ext U1).ext U2
 unfold gE at hq
 refine aT B2 D.len.symm (aI6 d.sz (by omega) d cs F 1 0 h1.length h2 _ (Nat.le_refl _) (by omega) (by omega) R D2 (fun i hi=>by have:=hF i hi; omega) fun h3 U3 R3=>aQ ?_)
 have E:Ext h h3:=((((U1.mono (M':=fun i=>h.length≤i) fun _ _ h=>h.elim).trans U2 fun _ _ h=>h.elim).trans U3 fun i hi he=>by omega).mono (M':=fun i=>False) fun i hi he=>by omega).ext
 by_cases he:(eG 1 0 d).1≠0
 ·rw [if_pos he] at hq
  exact aO (by simp [he]) (aU rfl E hq)
 ·rw [if_neg he] at hq
  have he0:(eG 1 0 d).1=0:=by simpa using he
  have hw:=(aDO d.sz).1 d 1 0 (Nat.le_refl _) he0
  have D3:=D2.upd (F':=F) U3 fun i hi _=>⟨by have:=hF i hi; omega,hi⟩
  have B3:=B2.upd U3 (by omega)
  have hbl:=k8 d
  refine aN (by simp [he0]) (aT B3 D.len.symm (aJD d.sz (by omega) d cs F h3 _ (Nat.le_refl _) hw hs D3 (bA ?_)))
  rw [if_neg (by omega)] at hq
  exact aN (by simp; omega) (aU rfl E hq)
end
end Go.Proofs.YtcdkpkkdolmfdaaGreatDoor
namespace Go.Proofs.YtcdkpkkdolmfdaaGreatDoor
open Go.GAM Go.RowKit
section
variable {h0:aA} {Q:AV→aA→Prop}
theorem kY {d:Der} {cs:List AV} {F:Nat→Prop} {tag:Int} {h:aA} (D:DV h F d cs) (hq:Q (.b (bZ tag d)) h):C Y44.id [.ag cs,.i .i64 tag] h Q:=by
 cases D with
 | @mk c t m s ks v rows Dk sv fv ov=>
 refine Y44.call ?_
 simp only [Y44.t, ← Y44.p0.eq_1]
 refine dP rfl fun h1 hl1 U1 B=>?_
 have S1:=sv.upd U1 fun _ _ _ h=>h
 have p0:∀ b,b=(decide (c=0)&&(decide (t=tag)&&(!m&&decide (ks.length=0))))→Y44.p0 (aL h Q) b h1:=by
  intro b hb
  refine Y44.i0 ?_
  simp only [Y44.t0]
  subst hb
  exact aU rfl U1.ext hq
 refine aK (aM B rfl rfl (aQ ?_))
 refine aG (fun e1=>aK (aM B rfl rfl (aQ ?_))) fun e1=>p0 _ (by rw [e1] <;> rfl)
 refine aG (fun e2=>aK (aM B rfl rfl (aS ?_))) fun e2=>p0 _ (by rw [e1,e2] <;> rfl)
 refine aG (fun e3=>aK (aM B rfl rfl (S1.len (p0 _ ?_)))) fun e3=>p0 _ (by rw [e1,e2,e3] <;> rfl)
 rw [e1,e2,e3, ← Dk.length]
 simp
def nL (s:List UInt8):Bool:=match s with
 | []=>true
 | [_]=>false
 | a :: b :: r=>decide (6<(a :: b :: r).length)||((decide (a.toNat=0)&&decide (b.toNat<128))||(decide (a.toNat=255)&&decide (128≤b.toNat)))
theorem vV (a b:UInt8) (r:List UInt8):nL (a :: b :: r)=(decide (6<(a :: b :: r).length)||((decide (a.toNat=0)&&decide (b.toNat<128))||(decide (a.toNat=255)&&decide (128≤b.toNat)))):=rfl
def aEE (n:Int) (l:List UInt8):Int:=l.foldl (fun n c=>n * 256+(c.toNat:Int)) n
def aN5:List UInt8→Int
 | []=>0
 | a :: r=>aEE (if a.toNat<128 then (a.toNat:Int) else (a.toNat:Int) - 256) r
def zZ (d:Der):Int × Bool:=if bZ 2 d=true∧nL d.data=false then (aN5 d.data,true) else (0,false)
theorem aN1 {s:List UInt8} {h:aA} {v:Int} (hs:s.length≤6) (hq:Q (.tu [.i .i64 v,.b true]) h) {h1:aA} (E:Ext h h1):∀ (r:List UInt8) (i:Nat) (n:Int),s.drop i=r→i≤6 → -((256 ^ i:Nat):Int)≤n→n<((256 ^ i:Nat):Int)→aEE n r=v→Y20.p2 (aL h Q) s n i h1:=by
 intro r
 induction r with
 | nil =>
  intro i n hr hi h0 h2 hv
  have:=cA hr
  refine Y20.i2 ?_
  simp only [Y20.t2]
  have:n=v:=hv
  subst this
  exact aN (by simp; omega) (aU rfl E hq)
 | cons c r ih =>
  intro i n hr hi h0 h2 hv
  have hlt:=cG hr
  have hn:=b3 hr
  have hc:=c.toNat_lt
  have hp:256 ^ i≤256 ^ 5:=Nat.pow_le_pow_right (by omega) (by omega)
  have e:256 ^ (i+1)=256 ^ i * 256:=Nat.pow_succ ..
  refine Y20.i2 ?_
  simp only [Y20.t2, ← Y20.p2.eq_1]
  refine aO (by simp; omega) ?_
  refine lV (n:=n * 256) (b:=8) (by omega) rfl (by omega) (by omega) (cS hr ?_)
  refine aI (n:=n * 256+(c.toNat:Int)) (by rw [aJ (by omega) (by omega),aOT (by omega) (by omega) (by omega)]) (inc (by omega) ?_)
  exact ih (i+1) _ hn (by omega) (by omega) (by omega) hv
def aP7 (x:Int × Bool):AV:=.tu [.i .i64 x.1,.b x.2]
theorem aOX {d : Der} {cs : List AV} {F : Nat → Prop} {h : aA} (D : DV h F d cs) (hs : d.data.length ≤ 100000) (hq : Q (aP7 (zZ d)) h) : C Y20.id [.ag cs] h Q := by
 refine Y20.call ?_
 simp only [Y20.t, ← Y20.p0.eq_1]
 refine D.box fun h1 hl1 U1 B D1=>aK (aM B D.len.symm D.dat (bA (aT B D.len.symm (lQ D1 (aS ?_)))))
 have E:=U1.ext
 unfold zZ at hq
 generalize d.data=s at *
 have p1:∀ b,b=true→(b=nL s∨bZ 2 d=false)→Y20.p0 (aL h Q) s b h1:=by
  intro b hb hp
  subst hb
  refine Y20.i0 ?_
  simp only [Y20.t0]
  rw [if_neg (by rcases hp with h | h <;> simp [h] <;> simp [← h])] at hq
  exact aO rfl (aU rfl E hq)
 have p2:nL s=false→bZ 2 d=true→s.length≤6→∀ a r,s=a :: r→Y20.p1 (aL h Q) s false h1:=by
  intro hb hp hl a r hsr
  have ha:=a.toNat_lt
  rw [if_pos ⟨hp,hb⟩] at hq
  refine Y20.i1 ?_
  simp only [Y20.t1, ← Y20.p2.eq_1]
  refine aN rfl (cS (i:=0) hsr ?_)
  rw [aL3]
  have hw : -128≤(if a.toNat<128 then (a.toNat:Int) else (a.toNat:Int) - 256)∧(if a.toNat<128 then (a.toNat:Int) else (a.toNat:Int) - 256)<128:=by split <;> omega
  refine aI (aJ (by omega) (by omega)) ?_
  refine aN1 (v:=aN5 s) hl hq E r 1 _ (by rw [hsr] <;> rfl) (by omega) ?_ ?_ (by rw [hsr] <;> rfl)
  ·rw [Nat.pow_one]; omega
  ·rw [Nat.pow_one]; omega
 refine aG (fun e=>p1 _ rfl (.inr (by simpa using e))) fun e=>?_
 have hp:bZ 2 d=true:=by simpa using e
 obtain hs2 | ⟨a,r,hs2⟩:s=[]∨∃ a r,s=a :: r:=by
  cases s with
  | nil=>exact .inl rfl
  | cons a r=>exact .inr ⟨a,r,rfl⟩
 ·exact aO (by rw [hs2] <;> rfl) (p1 _ rfl (.inl (by rw [hs2] <;> rfl)))
 ·
  refine aN (by rw [hs2] <;> rfl) ?_
  by_cases hl:6<s.length
  ·rw [decide_eq_true (show (6 : Int) < s.length by omega)]
   refine p1 _ rfl (.inl ?_)
   rw [hs2] at hl ⊢
   cases r with
   | nil=>simp at hl
   | cons b r=>rw [vV,decide_eq_true hl] <;> rfl
  rw [decide_eq_false (show ¬ (6:Int)<s.length by omega)]
  refine Y20.i0 ?_
  simp only [Y20.t0, ← Y20.p1.eq_1]
  refine aN rfl ?_
  have q1:∀ b,b=nL s→Y20.p1 (aL h Q) s b h1:=by
   intro b hb
   cases b with
   | false=>exact p2 hb.symm hp (by omega) a r hs2
   | true =>
    refine Y20.i1 ?_
    simp only [Y20.t1]
    rw [if_neg (by simp [← hb])] at hq
    exact aO rfl (aU rfl E hq)
  cases hr2:r with
  | nil =>
   refine aN (by rw [hs2,hr2] <;> rfl) (q1 _ ?_)
   rw [hs2,hr2] <;> rfl
  | cons b r' =>
   have hs3:s=a :: b :: r':=by rw [hs2,hr2]
   have hb:nL s=((decide (a.toNat=0)&&decide (b.toNat<128))||(decide (a.toNat=255)&&decide (128≤b.toNat))):=by
    rw [hs3] at hl ⊢
    rw [vV,decide_eq_false hl] <;> rfl
   rw [hb] at q1
   have d0:s.drop 0=a :: b :: r':=hs3
   have d1:s.drop 1=b :: r':=by rw [hs3] <;> rfl
   refine aO (by rw [hs3]; simp; omega) (cS (i:=0) d0 ?_)
   refine aG (fun e1=>cS (i:=1) d1 ?_) fun e1=>cS (i:=0) d0 ?_
   ·simp only [decide_eq_true_eq] at e1
    have a0:a.toNat=0:=by omega
    refine aG (fun e2=>q1 _ ?_) fun e2=>cS (i:=0) d0 ?_
    ·simp only [decide_eq_true_eq] at e2
     have:b.toNat<128:=by omega
     simp [a0,this]
    ·simp only [decide_eq_false_iff_not] at e2
     have:¬ b.toNat<128:=by omega
     refine aN (by simp; omega) (q1 _ (by simp [a0,this]))
   ·simp only [decide_eq_false_iff_not] at e1
    have a0:a.toNat≠0:=by omega
    refine aG (fun e2=>cS (i:=1) d1 (q1 _ ?_)) fun e2=>q1 _ ?_
    ·simp only [decide_eq_true_eq] at e2
     have:a.toNat=255:=by omega
     simp [this]
     omega
    ·simp only [decide_eq_false_iff_not] at e2
     have:a.toNat≠255:=by omega
     simp [a0,this]
end
end Go.Proofs.YtcdkpkkdolmfdaaGreatDoor
namespace Go.Proofs.YtcdkpkkdolmfdaaGreatDoor
open Go.GAM Go.RowKit
def beI:Nat→Int→List UInt8
 | 0,_=>[]
 | k+1,n=>UInt8.ofNat ((n / ((2 ^ (8 * k):Nat):Int)) % 256).toNat :: beI k n
def tC (k:Nat) (n:Int):Prop:=-((2 ^ (8 * k - 1):Nat):Int)≤n∧n<((2 ^ (8 * k - 1):Nat):Int)
instance (k:Nat) (n:Int):Decidable (tC k n):=by unfold tC; infer_instance
def kI (n:Int):Nat:=if tC 1 n then 1 else if tC 2 n then 2 else if tC 3 n then 3 else if tC 4 n then 4 else if tC 5 n then 5 else 6
def nR (n:Int):Prop:=n < -140737488355328∨140737488355328≤n
instance (n:Int):Decidable (nR n):=by unfold nR; infer_instance
def aDX (n:Int):List AV:=if nR n then cR 0 0 false [] else cR 0 2 false (beI (kI n) n)
theorem aNC (n:Int):1≤kI n∧kI n≤6:=by
 unfold kI
 repeat' split
 all_goals omega
theorem aNO {n:Int} (h:¬ nR n):tC (kI n) n:=by
 unfold kI
 repeat' split
 all_goals first | assumption | skip
 unfold nR at h
 unfold tC
 omega
theorem aKG {n:Int} {j:Nat} (h1:1≤j) (h2:j<kI n):¬ tC j n:=by
 unfold kI at h2
 split at h2
 ·omega
 rename_i f1
 by_cases e1:j=1
 ·subst e1; exact f1
 split at h2
 ·omega
 rename_i f2
 by_cases e2:j=2
 ·subst e2; exact f2
 split at h2
 ·omega
 rename_i f3
 by_cases e3:j=3
 ·subst e3; exact f3
 split at h2
 ·omega
 rename_i f4
 by_cases e4:j=4
 ·subst e4; exact f4
 split at h2
 ·omega
 rename_i f5
 have:j=5:=by omega
 subst this; exact f5
section
variable {h0:aA} {Q:AV→aA→Prop}
theorem aPV {k:Nat} (h:k≤6):2 ^ (8 * k - 1)≤140737488355328∧0<2 ^ (8 * k - 1):=by
 have:(2:Nat) ^ (8 * k - 1)≤2 ^ 47:=Nat.pow_le_pow_right (by omega) (by omega)
 exact ⟨by simpa using this,Nat.two_pow_pos _⟩
theorem qU {h h1 hx:aA} {id:Nat} {z:List AV} {c t:Int} {s:List UInt8} (hz:z.length=5) (R:bC hx id z) (hid:h.length≤id) (U:Upd (fun _=>False) h hx) (hq:Q (.ag (cR c t false s)) h) :
  aP 5 (.p (some ⟨id,5,0⟩)) (.ag [.i .i64 c,.i .i64 t,.b false,.s s,.sl none 0 none]) hx fun h5=>aD 5 (.p (some ⟨id,5,0⟩)) h5 fun v7=>aL h Q v7 h5:=by
 refine aW R hz.symm rfl rfl fun h5 hl5 U5 R5=>aT R5 rfl (aU rfl ?_ hq)
 exact ((U.trans U5 fun i hi he=>absurd he (by omega)):Upd (fun _=>False) h h5).ext
theorem aIY {n:Int} {h h1:aA} {id:Nat} (hid:h.length≤id) (U1:Upd (fun _=>False) h h1) (R:bC h1 id z5):∀ (m:Nat) (v:AV) (l:List UInt8) (hx:aA),m≤6→l.length+m≤10→Tx h1 hx v l→Q (.ag (cR 0 2 false (l++beI m n))) h →
  Y14.p3 (aL h Q) n (.p (some ⟨id,5,0⟩)) v ((m:Int) - 1) hx:=by
 intro m
 induction m with
 | zero =>
  intro v l hx hm hl T hq
  refine Y14.i3 ?_
  simp only [Y14.t3]
  refine aN (by simp) (T.str ?_)
  exact qU (h1:=h1) rfl (R.upd T.upd fun h=>h) hid (U1.trans T.upd fun _ _ h=>h) (by simpa [beI] using hq)
 | succ m ih =>
  intro v l hx hm hl T hq
  refine Y14.i3 ?_
  simp only [Y14.t3, ← Y14.p3.eq_1]
  have e1:((m+1:Nat):Int) - 1=(m:Int):=by omega
  rw [e1]
  refine aO (by simp) (aI (n:=((8 * m:Nat):Int)) (by rw [aJ (by omega) (by omega)]; omega) (aLQ (by omega) rfl ?_))
  rw [aC4]
  refine T.push (by omega) fun v' h' T'=>aI (aJ (by omega) (by omega)) (ih v' _ h' (by omega) (by simp; omega) T' ?_)
  simpa [beI] using hq
theorem aL0 {n : Int} {h : aA} (hq : Q (.ag (aDX n)) h) : C Y14.id [.i .i64 n] h Q := by
 refine Y14.call ?_
 simp only [Y14.t, ← Y14.p0.eq_1]
 refine bR fun h1 hl1 U1 R=>?_
 unfold aDX at hq
 have p1:¬ nR n→∀ m k,k+m=kI n→1≤k→Y14.p1 (aL h Q) n (.p (some ⟨h.length,5,0⟩)) k h1:=by
  intro hb m
  rw [if_neg hb] at hq
  have hkb:=aNC n
  induction m with
  | zero =>
   intro k hk h1k
   have hk:k=kI n:=by omega
   have hf:=aNO hb
   rw [← hk] at hf hq hkb
   unfold tC at hf
   have hp:=aPV hkb.2
   generalize hy:2 ^ (8 * k - 1)=y at hf hp
   refine Y14.i1 ?_
   simp only [Y14.t1, ← Y14.p2.eq_1]
   refine aI (n:=((8 * k:Nat):Int)) (by rw [aJ (by omega) (by omega)]; omega) ?_
   refine aI (n:=((8 * k - 1:Nat):Int)) (by rw [aJ (by omega) (by omega)]; omega) ?_
   refine lV (n:=-(y:Int)) (by omega) (by rw [← hy]; simp) (by omega) (by omega) ?_
   refine aN (by simp; omega) ?_
   refine aI (n:=((8 * k:Nat):Int)) (by rw [aJ (by omega) (by omega)]; omega) ?_
   refine aI (n:=((8 * k - 1:Nat):Int)) (by rw [aJ (by omega) (by omega)]; omega) ?_
   refine lV (n:=(y:Int)) (by omega) (by rw [← hy]; simp) (by omega) (by omega) ?_
   rw [decide_eq_false (by omega)]
   refine Y14.i2 ?_
   simp only [Y14.t2, ← Y14.p3.eq_1]
   refine aN rfl (aI (aJ (by omega) (by omega)) ?_)
   exact aIY (h1:=h1) (Nat.le_refl _) U1 R k _ [] h1 (by omega) (by simp; omega) (Tx.start h1) hq
  | succ m ih =>
   intro k hk h1k
   have hf:=aKG (n:=n) (j:=k) h1k (by omega)
   unfold tC at hf
   have hp:=aPV (k:=k) (by omega)
   generalize hy:2 ^ (8 * k - 1)=y at hf hp
   have next:Y14.p2 (aL h Q) n (.p (some ⟨h.length,5,0⟩)) k true h1:=by
    refine Y14.i2 ?_
    simp only [Y14.t2, ← Y14.p1.eq_1]
    exact aO rfl (inc (by omega) (ih (k+1) (by omega) (by omega)))
   refine Y14.i1 ?_
   simp only [Y14.t1, ← Y14.p2.eq_1]
   refine aI (n:=((8 * k:Nat):Int)) (by rw [aJ (by omega) (by omega)]; omega) ?_
   refine aI (n:=((8 * k - 1:Nat):Int)) (by rw [aJ (by omega) (by omega)]; omega) ?_
   refine lV (n:=-(y:Int)) (by omega) (by rw [← hy]; simp) (by omega) (by omega) ?_
   refine aG (fun e=>next) fun e=>?_
   simp only [decide_eq_false_iff_not] at e
   refine aI (n:=((8 * k:Nat):Int)) (by rw [aJ (by omega) (by omega)]; omega) ?_
   refine aI (n:=((8 * k - 1:Nat):Int)) (by rw [aJ (by omega) (by omega)]; omega) ?_
   refine lV (n:=(y:Int)) (by omega) (by rw [← hy]; simp) (by omega) (by omega) ?_
   rw [decide_eq_true (by omega)]
   exact next
 have p0:∀ b,b=decide (nR n)→Y14.p0 (aL h Q) n (.p (some ⟨h.length,5,0⟩)) b h1:=by
  intro b hb
  refine Y14.i0 ?_
  simp only [Y14.t0, ← Y14.p1.eq_1]
  refine aG (fun e=>?_) fun e=>?_
  ·subst e
   rw [if_pos (by simpa using hb.symm)] at hq
   exact qU (h1:=h1) rfl R (Nat.le_refl _) U1 hq
  ·subst e
   exact p1 (of_decide_eq_false hb.symm) (kI n - 1) 1 (by have:=aNC n; omega) (by omega)
 refine aG (fun e=>p0 _ ?_) fun e=>p0 _ ?_
 ·simp only [decide_eq_true_eq] at e
  symm; rw [decide_eq_true_eq]; exact .inl e
 ·simp only [decide_eq_false_iff_not] at e
  rw [decide_eq_decide]; unfold nR; omega
theorem aMD {d : Der} {cs : List AV} {F : Nat → Prop} {h : aA} (D : DV h F d cs) (hs : d.data.length ≤ 100000) (hq : Q (aM7 (eY d)) h) : C Y28.id [.ag cs] h Q := by
 refine Y28.call ?_
 simp only [Y28.t, ← Y28.p0.eq_1]
 refine D.box fun h1 hl1 U1 B D1=>?_
 unfold eY at hq
 have E:=U1.ext
 have p0 : ∀ b, b = !(bZ 12 d || (bZ 19 d || bZ 22 d)) → Y28.p0 (aL h Q) (.p (some ⟨h.length, 5, 0⟩)) b h1 := by
  intro b hb
  refine Y28.i0 ?_
  simp only [Y28.t0, ← Y28.p1.eq_1]
  refine aG (fun e=>?_) fun e=>?_
  ·subst e
   rw [if_neg (fun hh=>by rw [hh.1] at hb; cases hb)] at hq
   exact aU rfl E hq
  ·subst e
   have hp:(bZ 12 d||(bZ 19 d||bZ 22 d))=true:=by
    revert hb
    generalize (bZ 12 d||(bZ 19 d||bZ 22 d))=x
    cases x <;> simp
   have go : ∀ (r : List UInt8) (i : Nat), d.data.drop i = r → i ≤ d.data.length → (d.data.all fP = r.all fP) → Y28.p1 (aL h Q) (.p (some ⟨h.length, 5, 0⟩)) i h1 := by
    intro r
    induction r with
    | nil =>
     intro i hr hi he
     have:=cA hr
     refine Y28.i1 ?_
     simp only [Y28.t1]
     rw [if_pos ⟨hp,by rw [he] <;> rfl⟩] at hq
     refine aK (aM B D.len.symm D.dat (bA (aN (by simp; omega) (aK (aM B D.len.symm D.dat (bA (aU rfl E hq)))))))
    | cons c r ih =>
     intro i hr hi he
     have hlt:=cG hr
     have hn:=b3 hr
     rw [List.all_cons] at he
     have p2:∀ b,b = !fP c→Y28.p2 (aL h Q) (.p (some ⟨h.length,5,0⟩)) i b h1:=by
      intro b hb
      refine Y28.i2 ?_
      simp only [Y28.t2, ← Y28.p1.eq_1]
      cases hp:fP c with
      | false =>
       rw [hp] at he hb
       rw [if_neg (fun hh=>by rw [he] at hh; cases hh.2)] at hq
       exact aO hb (aU rfl E hq)
      | true =>
       rw [hp] at hb
       rw [hp,Bool.true_and] at he
       exact aN hb (inc (by omega) (ih (i+1) hn (by omega) he))
     unfold fP at p2
     refine Y28.i1 ?_
     simp only [Y28.t1, ← Y28.p2.eq_1]
     refine aK (aM B D.len.symm D.dat (bA (aO (by simp; omega) (aK (aM B D.len.symm D.dat (bA (cS hr ?_)))))))
     refine aG (fun e=>p2 _ ?_) fun e=>aK (aM B D.len.symm D.dat (bA (cS hr (p2 _ ?_))))
     ·simp only [decide_eq_true_eq] at e
      rw [decide_eq_false (by omega:¬ 32≤c.toNat)] <;> rfl
     ·simp only [decide_eq_false_iff_not] at e
      rw [decide_eq_true (by omega:32≤c.toNat),Bool.true_and, ← decide_not,decide_eq_decide]; omega
   exact go d.data 0 rfl (by omega) rfl
 refine aT B D.len.symm (kY D1 (aS ?_))
 refine aG (fun e=>aT B D.len.symm (kY D1 (aS ?_))) fun e=>p0 _ ?_
 ·have e : bZ 12 d = false := by simpa using e
  rw [e,Bool.false_or] at p0
  refine aG (fun e=>aT B D.len.symm (kY D1 (aS (p0 _ ?_)))) fun e=>p0 _ ?_
  ·have e : bZ 19 d = false := by simpa using e
   rw [e] <;> rfl
  ·have e : bZ 19 d = true := by simpa using e
   rw [e] <;> rfl
 ·have e : bZ 12 d = true := by simpa using e
  rw [e] <;> rfl
end
end Go.Proofs.YtcdkpkkdolmfdaaGreatDoor
namespace Go.Proofs.YtcdkpkkdolmfdaaGreatDoor
open Go.GAM Go.RowKit
def qB (y:Nat):Bool:=decide (y % 4=0)&&(!decide (y % 100=0)||decide (y % 400=0))
def k7 (y m:Nat):Nat:=if m=2 then (if qB y=true then 29 else 28) else if m=4∨m=6∨m=9∨m=11 then 30 else 31
def yW (y:Nat):Nat:=if qB y=true then 366 else 365
def fB (y:Nat):Nat:=365 * (y - 1970)+((y - 1) / 4+(y - 1) / 400) - (y - 1) / 100 - 477
def fR (y:Nat):Nat→Nat
 | 0=>0
 | k+1=>fR y k+if k=0 then 0 else k7 y k
theorem vN {y:Nat} (h:1970≤y):fB (y+1)=fB y+yW y:=by
 unfold fB yW qB
 by_cases h4:y % 4=0
 ·by_cases h100 : y % 100 = 0
  ·by_cases h400 : y % 400 = 0
   ·simp [h4,h100,h400]; omega
   ·simp [h4,h100,h400]; omega
  ·simp [h4,h100]; omega
 ·simp [h4]; omega
theorem aIR:fB 1970=0:=by decide
theorem aBW (y:Nat):365≤yW y∧yW y≤366:=by unfold yW; split <;> omega
theorem iM (y m:Nat):28≤k7 y m∧k7 y m≤31:=by
 unfold k7
 repeat' split
 all_goals omega
theorem qZ {y m:Nat} (h:1≤m):fR y (m+1)=fR y m+k7 y m:=by
 show fR y m+(if m=0 then 0 else k7 y m)=_
 rw [if_neg (by omega)]
theorem aJO (y:Nat):fR y 1=0:=rfl
theorem aJW {y a b:Nat} (h:1≤a) (hab:a≤b):fR y a≤fR y b:=by
 obtain ⟨k,rfl⟩:∃ k,b=a+k:=⟨b - a,by omega⟩
 clear hab
 induction k with
 | zero=>exact Nat.le_refl _
 | succ k ih =>
  have:=qZ (y:=y) (m:=a+k) (by omega)
  rw [show a+(k+1)=a+k+1 by omega]; omega
theorem vE {a b:Nat} (h:1970≤a) (hab:a≤b):fB a+365 * (b - a)≤fB b:=by
 obtain ⟨k,rfl⟩:∃ k,b=a+k:=⟨b - a,by omega⟩
 clear hab
 induction k with
 | zero=>simp
 | succ k ih =>
  have:=vN (y:=a+k) (by omega)
  have:=(aBW (a+k)).1
  rw [show a+(k+1)=a+k+1 by omega]; omega
theorem aJ5 {a b:Nat} (h:1970≤a) (hab:a≤b):fB b≤fB a+366 * (b - a):=by
 obtain ⟨k,rfl⟩:∃ k,b=a+k:=⟨b - a,by omega⟩
 clear hab
 induction k with
 | zero=>simp
 | succ k ih =>
  have:=vN (y:=a+k) (by omega)
  have:=(aBW (a+k)).2
  rw [show a+(k+1)=a+k+1 by omega]; omega
section
variable {h0:aA} {Q:AV→aA→Prop}
theorem iW {a b:Nat} {K:Int→Prop} (hb:b≠0) (hk:K ((a % b:Nat):Int)):jQ (a:Int) (b:Int) K:=
 wP (by omega) (by rw [Int.tmod_eq_emod_of_nonneg (by omega)] <;> rfl) hk
theorem aOH {y:Nat} {h:aA} (hq:Q (.b (qB y)) h):C Y63.id [.i .i64 (y:Int)] h Q:=by
 refine Y63.call ?_
 simp only [Y63.t, ← Y63.p0.eq_1]
 have p0:∀ b,b=qB y→Y63.p0 (aL h Q) b h:=by
  intro b hb
  refine Y63.i0 ?_
  simp only [Y63.t0]
  subst hb
  exact .inl hq
 unfold qB at p0
 refine iW (b:=4) (by omega) (aG (fun e1=>iW (b:=100) (by omega) ?_) fun e1=>p0 _ ?_)
 ·simp only [decide_eq_true_eq] at e1
  rw [decide_eq_true (by omega:y % 4=0),Bool.true_and] at p0
  refine aG (fun e2=>p0 _ ?_) fun e2=>iW (b:=400) (by omega) (p0 _ ?_)
  ·have e2 : ((y % 100 : Nat) : Int) ≠ 0 := by simpa using e2
   rw [decide_eq_false (by omega:¬ y % 100=0)] <;> rfl
  ·have e2 : ((y % 100 : Nat) : Int) = 0 := by simpa using e2
   rw [decide_eq_true (by omega:y % 100=0)]
   show decide _=decide _
   rw [decide_eq_decide]; omega
 ·simp only [decide_eq_false_iff_not] at e1
  rw [decide_eq_false (by omega:¬ y % 4=0)] <;> rfl
theorem aE2 {y:Nat} {h:aA} (hq:Q (.b (qB y)) h):C Y61.id [.i .i64 (y:Int)] h Q:=by
 refine Y61.call ?_
 simp only [Y61.t, ← Y61.p0.eq_1]
 have p0:∀ b,b=qB y→Y61.p0 (aL h Q) b h:=by
  intro b hb
  refine Y61.i0 ?_
  simp only [Y61.t0]
  subst hb
  exact .inl hq
 unfold qB at p0
 refine iW (b:=4) (by omega) (aG (fun e1=>iW (b:=100) (by omega) ?_) fun e1=>p0 _ ?_)
 ·simp only [decide_eq_true_eq] at e1
  rw [decide_eq_true (by omega:y % 4=0),Bool.true_and] at p0
  refine aG (fun e2=>p0 _ ?_) fun e2=>iW (b:=400) (by omega) (p0 _ ?_)
  ·have e2 : ((y % 100 : Nat) : Int) ≠ 0 := by simpa using e2
   rw [decide_eq_false (by omega:¬ y % 100=0)] <;> rfl
  ·have e2 : ((y % 100 : Nat) : Int) = 0 := by simpa using e2
   rw [decide_eq_true (by omega:y % 100=0)]
   show decide _=decide _
   rw [decide_eq_decide]; omega
 ·simp only [decide_eq_false_iff_not] at e1
  rw [decide_eq_false (by omega:¬ y % 4=0)] <;> rfl
theorem uB {y m:Nat} {h:aA} (hq:Q (.i .i64 (k7 y m:Nat)) h):C Y47.id [.i .i64 (y:Int),.i .i64 (m:Int)] h Q:=by
 refine Y47.call ?_
 simp only [Y47.t, ← Y47.p0.eq_1]
 unfold k7 at hq
 have p0:m≠2→∀ b,b=decide (m=4∨m=6∨m=9∨m=11)→Y47.p0 (aL h Q) b h:=by
  intro h2 b hb
  rw [if_neg h2] at hq
  refine Y47.i0 ?_
  simp only [Y47.t0]
  refine aG (fun e=>?_) fun e=>?_
  ·subst e; rw [if_pos (by simpa using hb.symm)] at hq; exact .inl hq
  ·subst e; rw [if_neg (of_decide_eq_false hb.symm)] at hq; exact .inl hq
 refine aG (fun e=>aOH (aS ?_)) fun e=>?_
 ·rw [if_pos (by simp only [decide_eq_true_eq] at e; omega)] at hq
  refine aG (fun e=>?_) fun e=>?_
  ·rw [if_pos e] at hq; exact .inl hq
  ·rw [if_neg (by rw [e]; simp)] at hq; exact .inl hq
 have p0:=p0 (by simp only [decide_eq_false_iff_not] at e; omega)
 have fin:∀ b:Bool,(b=true↔(m=4∨m=6∨m=9∨m=11))→Y47.p0 (aL h Q) b h:=fun b hb=>p0 b (by
  cases b with
  | true=>rw [decide_eq_true (hb.1 rfl)]
  | false=>rw [decide_eq_false (fun hh=>by have:=hb.2 hh; cases this)])
 refine aG (fun e1=>fin _ ?_) fun e1=>aG (fun e2=>fin _ ?_) fun e2=>aG (fun e3=>fin _ ?_) fun e3=>fin _ ?_
 all_goals (simp only [decide_eq_true_eq,decide_eq_false_iff_not] at *; omega)
theorem aE6 {y m:Nat} {h:aA} (hq:Q (.i .i64 (k7 y m:Nat)) h):C Y58.id [.i .i64 (y:Int),.i .i64 (m:Int)] h Q:=by
 refine Y58.call ?_
 simp only [Y58.t, ← Y58.p0.eq_1]
 unfold k7 at hq
 have p0:m≠2→∀ b,b=decide (m=4∨m=6∨m=9∨m=11)→Y58.p0 (aL h Q) b h:=by
  intro h2 b hb
  rw [if_neg h2] at hq
  refine Y58.i0 ?_
  simp only [Y58.t0]
  refine aG (fun e=>?_) fun e=>?_
  ·subst e; rw [if_pos (by simpa using hb.symm)] at hq; exact .inl hq
  ·subst e; rw [if_neg (of_decide_eq_false hb.symm)] at hq; exact .inl hq
 refine aG (fun e=>aE2 (aS ?_)) fun e=>?_
 ·rw [if_pos (by simp only [decide_eq_true_eq] at e; omega)] at hq
  refine aG (fun e=>?_) fun e=>?_
  ·rw [if_pos e] at hq; exact .inl hq
  ·rw [if_neg (by rw [e]; simp)] at hq; exact .inl hq
 have p0:=p0 (by simp only [decide_eq_false_iff_not] at e; omega)
 have fin:∀ b:Bool,(b=true↔(m=4∨m=6∨m=9∨m=11))→Y58.p0 (aL h Q) b h:=fun b hb=>p0 b (by
  cases b with
  | true=>rw [decide_eq_true (hb.1 rfl)]
  | false=>rw [decide_eq_false (fun hh=>by have:=hb.2 hh; cases this)])
 refine aG (fun e1=>fin _ ?_) fun e1=>aG (fun e2=>fin _ ?_) fun e2=>aG (fun e3=>fin _ ?_) fun e3=>fin _ ?_
 all_goals (simp only [decide_eq_true_eq,decide_eq_false_iff_not] at *; omega)
theorem aJT {k:Nat} {h:aA} (hk:k≤100000) (hq:Q (.i .i64 ((k / 4+k / 400 - k / 100:Nat):Int)) h):C Y77.id [.i .i64 (k:Int)] h Q:=by
 refine Y77.call ?_
 simp only [Y77.t]
 refine j3 (b:=4) (by omega) (by omega) (j3 (b:=100) (by omega) (by omega) ?_)
 refine aI (n:=((k / 4 - k / 100:Nat):Int)) (by rw [aJ (by omega) (by omega)]; omega) (j3 (b:=400) (by omega) (by omega) ?_)
 refine aI (n:=((k / 4+k / 400 - k / 100:Nat):Int)) (by rw [aJ (by omega) (by omega)]; omega) (.inl hq)
theorem m6 {y:Nat} {h:aA} (h1:1970≤y) (h2:y≤90000) (hq:Q (.i .i64 (fB y:Nat)) h):C Y74.id [.i .i64 (y:Int)] h Q:=by
 refine Y74.call ?_
 simp only [Y74.t]
 unfold fB at hq
 refine aI (n:=((y - 1970:Nat):Int)) (by rw [aJ (by omega) (by omega)]; omega) ?_
 refine aI (n:=((365 * (y - 1970):Nat):Int)) (by rw [aJ (by omega) (by omega)]; omega) ?_
 refine aI (n:=((y - 1:Nat):Int)) (by rw [aJ (by omega) (by omega)]; omega) ?_
 refine f6 rfl (aJT (by omega) (aQ ?_))
 refine aI (n:=((365 * (y - 1970)+((y - 1) / 4+(y - 1) / 400 - (y - 1) / 100):Nat):Int)) (by rw [aJ (by omega) (by omega)]; omega) ?_
 refine f6 rfl (aJT (k:=1969) (by omega) (aQ ?_))
 refine aI (n:=((365 * (y - 1970)+((y - 1) / 4+(y - 1) / 400) - (y - 1) / 100 - 477:Nat):Int)) (by rw [aJ (by omega) (by omega)]; omega) (.inl hq)
def iD (k:Nat):List UInt8:=[UInt8.ofNat (48+k / 10 % 10),UInt8.ofNat (48+k % 10)]
theorem Tx.two {h0 h:aA} (U:Upd (fun _=>False) h0 h) {c d:UInt8} {K:AV→aA→Prop} (hk:∀ v h',Tx h0 h' v [c,d]→K v h'):bD 1 2 [.i .u8 0,.i .u8 0] [(0,1,.i .u8 (c.toNat:Int)),(1,1,.i .u8 (d.toNat:Int))] h K:=by
 refine ⟨rfl,hk _ _ ⟨U.trans (Upd.app _ _) fun _ _ h=>h,.inr ⟨h.length,bP [byteAV c,byteAV d] 1 true,rfl,by simp [byteAV]; rfl,rfl,rfl,rfl,Nat.le_refl _,rfl,rfl⟩,fun i hi=>?_⟩⟩
 cases hi; exact U.1
theorem vU {k:Nat} {h:aA} (hk:k<100) (hq:Q (.s (iD k)) h):C Y71.id [.i .i64 (k:Int)] h Q:=by
 refine Y71.call ?_
 simp only [Y71.t]
 refine j3 (b:=10) (by omega) (by omega) ?_
 refine aI (n:=((48+k / 10 % 10:Nat):Int)) (by rw [aJ (by omega) (by omega)]; omega) (iW (b:=10) (by omega) ?_)
 refine aI (n:=((48+k % 10:Nat):Int)) (by rw [aJ (by omega) (by omega)]; omega) ?_
 rw [cJ,cJ,eT,eT]
 exact Tx.two (Upd.refl _ _) fun v h' T=>T.ret hq
theorem aMO (y:Nat):iD (y % 100)=iD y:=by
 unfold iD
 rw [show y % 100 / 10 % 10=y / 10 % 10 by omega,show y % 100 % 10=y % 10 by omega]
structure aGR (day y m d:Nat):Prop where
 y0:1970≤y
 y1:fB y≤day
 y2:day<fB (y+1)
 m0:1≤m
 m1:m≤12
 d0:day=fB y+fR y m+d
 d1:d<k7 y m
def jT (y m d r:Nat):List UInt8:=iD y++iD m++iD (d+1)++iD (r / 3600)++iD (r / 60 % 60)++iD (r % 60)++[90]
def mG (y m d r:Nat):List AV:=if y<2050 then cR 0 23 false (jT y m d r) else cR 0 24 false (iD (y / 100)++jT y m d r)
theorem j0 (k:Nat):(iD k).length=2:=rfl
theorem aGR.y4 {day y m d:Nat} (D:aGR day y m d) (h:day≤2932896):y≤9999:=by
 have h1:=D.y1
 have h2:fB 10000=2932897:=by decide
 rcases Nat.lt_or_ge y 10000 with h | h
 ·omega
 ·have:=vE (a:=10000) (by omega) h; omega
theorem aCZ {n y m d : Nat} {h : aA} (hn : n ≤ 253402300799) (D : aGR (n / 86400) y m d) (hq : Q (.ag (mG y m d (n % 86400))) h) : C Y19.id [.i .i64 (n : Int)] h Q := by
 have hday:n / 86400≤2932896:=by omega
 have hy:=D.y4 hday
 have hr:n % 86400<86400:=Nat.mod_lt _ (by omega)
 refine Y19.call ?_
 simp only [Y19.t, ← Y19.p0.eq_1]
 refine bR fun h1 hl1 U1 R=>?_
 refine aN (by simp) (j3 (b:=86400) (by omega) (by omega) (m6 (y:=10000) (by omega) (by omega) (aQ ?_)))
 rw [decide_eq_false (by rw [show fB 10000=2932897 by decide]; omega)]
 refine Y19.i0 ?_
 simp only [Y19.t0, ← Y19.p1.eq_1]
 refine aN rfl (j3 (b:=86400) (by omega) (by omega) (iW (b:=86400) (by omega) ?_))
 generalize n / 86400=day at *
 generalize n % 86400=r at *
 refine j3 (b:=366) (by omega) (by omega) ?_
 refine aI (n:=((1970+day / 366:Nat):Int)) (by rw [aJ (by omega) (by omega)]; omega) ?_
 obtain ⟨y0,y1,y2,m0,m1,d0,d1⟩:=D
 have p2:∀ k m',m'+k=m→1≤m'→Y19.p2 (aL h Q) (.p (some ⟨h.length,5,0⟩)) ((fR y m+d - fR y m':Nat):Int) r y m' h1:=by
  intro k
  induction k with
  | zero =>
   intro m' hm' _
   have:m'=m:=by omega
   subst this
   refine Y19.i2 ?_
   simp only [Y19.t2]
   refine uB (aQ (aN (by rw [decide_eq_false_iff_not]; omega) ?_))
   have hd31:=iM y m'
   refine iW (b:=100) (by omega) (f6 rfl (vU (by omega) (bA (f6 rfl (vU (by omega) (bA ⟨by simp [j0], ?_⟩))))))
   refine aI (n:=((d+1:Nat):Int)) (by rw [aJ (by omega) (by omega)]; omega) (f6 rfl (vU (by omega) (bA ⟨by simp [j0], ?_⟩)))
   refine j3 (b:=3600) (by omega) (by omega) (f6 rfl (vU (by omega) (bA ⟨by simp [j0], ?_⟩)))
   refine j3 (b:=60) (by omega) (by omega) (iW (b:=60) (by omega) (f6 rfl (vU (by omega) (bA ⟨by simp [j0], ?_⟩))))
   refine iW (b:=60) (by omega) (f6 rfl (vU (by omega) (bA ⟨by simp [j0],⟨by simp [j0], ?_⟩⟩)))
   rw [aMO]
   unfold mG at hq
   by_cases hy50:y<2050
   ·rw [if_pos hy50] at hq
    exact aO (by rw [decide_eq_true_eq]; omega) (qU (h1:=h1) rfl R (Nat.le_refl _) U1 hq)
   ·rw [if_neg hy50] at hq
    refine aN (by rw [decide_eq_false_iff_not]; omega) (j3 (b:=100) (by omega) (by omega) (f6 rfl (vU (by omega) (bA ⟨by simp [j0], ?_⟩))))
    exact qU (h1:=h1) rfl R (Nat.le_refl _) U1 hq
  | succ k ih =>
   intro m' hm' h1m
   have hms:=qZ (y:=y) h1m
   have hmm:=aJW (y:=y) (a:=m'+1) (b:=m) (by omega) (by omega)
   refine Y19.i2 ?_
   simp only [Y19.t2, ← Y19.p2.eq_1]
   refine uB (aQ (aO (by rw [decide_eq_true_eq]; omega) (uB (aQ ?_))))
   refine aI (n:=((fR y m+d - fR y (m'+1):Nat):Int)) (by rw [aJ (by omega) (by omega)]; omega) (inc (by omega) ?_)
   exact ih (m'+1) (by omega) (by omega)
 have p1:∀ k y',y'+k=y→1970≤y'→Y19.p1 (aL h Q) (.p (some ⟨h.length,5,0⟩)) day r y' h1:=by
  intro k
  induction k with
  | zero =>
   intro y' hy' _
   have:y'=y:=by omega
   subst this
   refine Y19.i1 ?_
   simp only [Y19.t1, ← Y19.p2.eq_1]
   refine inc (by omega) (m6 (by omega) (by omega) (aQ (aN (by rw [decide_eq_false_iff_not]; omega) (m6 (by omega) (by omega) (aQ ?_)))))
   refine aI (n:=((fR y' m+d - fR y' 1:Nat):Int)) (by rw [aJ (by omega) (by omega),aJO]; omega) ?_
   exact p2 (m - 1) 1 (by omega) (by omega)
  | succ k ih =>
   intro y' hy' h1y
   have:=vE (a:=y'+1) (b:=y) (by omega) (by omega)
   refine Y19.i1 ?_
   simp only [Y19.t1, ← Y19.p1.eq_1]
   refine inc (by omega) (m6 (by omega) (by omega) (aQ (aO (by rw [decide_eq_true_eq]; omega) ?_)))
   exact inc (by omega) (ih (y'+1) (by omega) (by omega))
 have hle:1970+day / 366≤y:=by
  have h1:=aJ5 (a:=1970) (b:=1970+day / 366) (by omega) (by omega)
  rw [aIR] at h1
  rcases Nat.lt_or_ge y (1970+day / 366) with h2 | h2
  ·have := vE (a := y + 1) (b := 1970 + day / 366) (by omega) (by omega)
   omega
  ·exact h2
 exact p1 (y - (1970+day / 366)) (1970+day / 366) (by omega) (by omega)
end
end Go.Proofs.YtcdkpkkdolmfdaaGreatDoor
