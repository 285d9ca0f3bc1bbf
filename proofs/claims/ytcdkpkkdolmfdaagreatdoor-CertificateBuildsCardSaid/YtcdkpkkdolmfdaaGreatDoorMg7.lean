/- Lemmas (several texts in one). -/
import Derived.Shelf.Strings.OnBuilder
import Derived.Shelf.Strconv.Itoa3
import Derived.Test.YtcdkpkkdolmfdaaGreatDoorProg
import Derived.Test.YtcdkpkkdolmfdaaGreatDoorRows
import Derived.Lib.LaidTab
import Derived.Lib.AppendIntMem
import Derived.Lib.ItoaNum
import Derived.ChangeArms
import Derived.Test.YtcdkpkkdolmfdaaGreatDoorMg6
namespace Go.Proofs
open Go.Shelf
def Tryz.lays156_ren:Go.Shelf.Ren:=⟨fun | 156=>90 | 165=>117 | 166=>118 | 169=>85 | 240=>112 | 241=>132 | 276=>127 | 277=>145 | n=>n,fun | 31=>23 | 9=>9 | 3=>3 | 4=>4 | 0=>0 | 20=>20 | 72=>110 | 76=>152 | 70=>108 | 37=>91 | 75=>112 | 127=>133 | 164=>155 | 5=>5 | 80=>114 | n=>n,fun | n=>n⟩
theorem Tryz.lays156:Go.Proofs.Lays.n156 Tryz.prog Tryz.lays156_ren:={
 mixed:=by kernel_rfl
 f156:=Tryz.func90.trans (congrArg some (by kernel_rfl))
 f165:=Tryz.func117.trans (congrArg some (by kernel_rfl))
 f166:=Tryz.func118.trans (congrArg some (by kernel_rfl))
 f169:=Tryz.func85.trans (congrArg some (by kernel_rfl))
 f240:=Tryz.func112.trans (congrArg some (by kernel_rfl))
 f241:=Tryz.func132.trans (congrArg some (by kernel_rfl))
 f276:=Tryz.func127.trans (congrArg some (by kernel_rfl))
 f277:=Tryz.func145.trans (congrArg some (by kernel_rfl))
 t0:=Tryz.underlying0
 a0:=Tryz.isAgg0
 z0:=Tryz.sizeOf0
 v0:=Tryz.zeroValue0
 t3:=Tryz.underlying3
 a3:=Tryz.isAgg3
 z3:=Tryz.sizeOf3
 v3:=Tryz.zeroValue3
 t4:=Tryz.underlying4
 a4:=Tryz.isAgg4
 z4:=Tryz.sizeOf4
 v4:=Tryz.zeroValue4
 t9:=Tryz.underlying9
 a9:=Tryz.isAgg9
 z9:=Tryz.sizeOf9
 v9:=Tryz.zeroValue9
 t20:=Tryz.underlying20
 a20:=Tryz.isAgg20
 z20:=Tryz.sizeOf20
 v20:=Tryz.zeroValue20
 t31:=Tryz.underlying23
 a31:=Tryz.isAgg23
 z31:=Tryz.sizeOf23
 v31:=Tryz.zeroValue23
 t37:=Tryz.underlying91
 a37:=Tryz.isAgg91
 z37:=Tryz.sizeOf91
 v37:=Tryz.zeroValue91
 t70:=Tryz.underlying108
 a70:=Tryz.isAgg108
 z70:=Tryz.sizeOf108
 v70:=Tryz.zeroValue108
 t72:=Tryz.underlying110
 a72:=Tryz.isAgg110
 z72:=Tryz.sizeOf110
 v72:=Tryz.zeroValue110
 t75:=Tryz.underlying112
 a75:=Tryz.isAgg112
 z75:=Tryz.sizeOf112
 v75:=Tryz.zeroValue112
 t76:=Tryz.underlying152
 a76:=Tryz.isAgg152
 z76:=Tryz.sizeOf152
 v76:=Tryz.zeroValue152
 t127:=Tryz.underlying133
 a127:=Tryz.isAgg133
 z127:=Tryz.sizeOf133
 v127:=Tryz.zeroValue133
 t164:=Tryz.underlying155
 a164:=Tryz.isAgg155
 z164:=Tryz.sizeOf155
 v164:=Tryz.zeroValue155 }
theorem Tryz.Builder_Extra_156:Builder.Extra Tryz.prog Tryz.lays156_ren:={
 sizeBuilder:=by kernel_rfl
 liesBuilder:=by kernel_rfl
 t5:=Tryz.underlying5
 a5:=Tryz.isAgg5
 z5:=Tryz.sizeOf5
 v5:=Tryz.zeroValue5
 infoByte:=by kernel_rfl
 cellsByte:=by kernel_rfl
 sizeByte:=by kernel_rfl
 neB5:=by decide }
open Go.RowKit in
theorem Tryz.strings_Join_none (a:Option Addr) (c:Nat) (sep:ByteArray) (w:World) :
  Calls Tryz.prog 90 #[.slice a 0 c,.string sep] w fun e w'=>e = .returned (.string ⟨#[]⟩)∧w'=w:=Any.strings_Join_none Tryz.lays156 Tryz.Builder_Extra_156 a c sep w
open Go.RowKit in
theorem Tryz.strings_Join (bk o c:Nat) (xs:List ByteArray) (sep:ByteArray) (w:World) (hcells:∀ (j:Nat) x,xs[j]? = some x→w.cell? ⟨bk,o+j,none⟩=some (.string x)) (hbk:bk<w.heap.size) (hN:xs.length≤140737488355328) (hcap:xs.length≤c) (hlen:(Lib.join (xs.map (·.data.toList)) sep.data.toList).length≤140737488355328) :
  Calls Tryz.prog 90 #[.slice (some ⟨bk,o,none⟩) xs.length c,.string sep] w fun e w'=>e = .returned (.string ⟨(Lib.join (xs.map (·.data.toList)) sep.data.toList).toArray⟩)∧Below w.heap.size w w':=Any.strings_Join Tryz.lays156 Tryz.Builder_Extra_156 bk o c xs sep w hcells hbk hN hcap hlen
def Tryz.laysM171_ren:Go.Shelf.Ren:=⟨fun | 171=>113 | 243=>128 | 246=>138 | 283=>147 | 284=>148 | 285=>149 | 286=>150 | 129=>158 | 317=>157 | 318=>159 | 319=>160 | 320=>161 | 337=>171 | 338=>172 | n=>n,fun | 3=>3 | 9=>9 | 2=>2 | 4=>4 | 171=>181 | 0=>0 | 53=>182 | 37=>91 | 5=>5 | 173=>185 | 212=>205 | 51=>137 | 20=>20 | 213=>206 | 46=>84 | 232=>221 | 233=>222 | n=>n,fun | 17=>13 | 18=>14 | 19=>15 | n=>n⟩
theorem Tryz.laysM171:Go.Proofs.LaysM.n171 Tryz.prog Tryz.laysM171_ren:={
 mixed:=by kernel_rfl
 f129:=Tryz.func158.trans (congrArg some (by kernel_rfl))
 f171:=Tryz.func113.trans (congrArg some (by kernel_rfl))
 f243:=Tryz.func128.trans (congrArg some (by kernel_rfl))
 f246:=Tryz.func138.trans (congrArg some (by kernel_rfl))
 f283:=Tryz.func147.trans (congrArg some (by kernel_rfl))
 f284:=Tryz.func148.trans (congrArg some (by kernel_rfl))
 f285:=Tryz.func149.trans (congrArg some (by kernel_rfl))
 f286:=Tryz.func150.trans (congrArg some (by kernel_rfl))
 f317:=Tryz.func157.trans (congrArg some (by kernel_rfl))
 f318:=Tryz.func159.trans (congrArg some (by kernel_rfl))
 f319:=Tryz.func160.trans (congrArg some (by kernel_rfl))
 f320:=Tryz.func161.trans (congrArg some (by kernel_rfl))
 f337:=Tryz.func171.trans (congrArg some (by kernel_rfl))
 f338:=Tryz.func172.trans (congrArg some (by kernel_rfl))
 t0:=Tryz.underlying0
 a0:=Tryz.isAgg0
 z0:=Tryz.sizeOf0
 v0:=Tryz.zeroValue0
 t2:=Tryz.underlying2
 a2:=Tryz.isAgg2
 z2:=Tryz.sizeOf2
 v2:=Tryz.zeroValue2
 t3:=Tryz.underlying3
 a3:=Tryz.isAgg3
 z3:=Tryz.sizeOf3
 v3:=Tryz.zeroValue3
 t4:=Tryz.underlying4
 a4:=Tryz.isAgg4
 z4:=Tryz.sizeOf4
 v4:=Tryz.zeroValue4
 t5:=Tryz.underlying5
 a5:=Tryz.isAgg5
 z5:=Tryz.sizeOf5
 v5:=Tryz.zeroValue5
 t9:=Tryz.underlying9
 a9:=Tryz.isAgg9
 z9:=Tryz.sizeOf9
 v9:=Tryz.zeroValue9
 t20:=Tryz.underlying20
 a20:=Tryz.isAgg20
 z20:=Tryz.sizeOf20
 v20:=Tryz.zeroValue20
 t37:=Tryz.underlying91
 a37:=Tryz.isAgg91
 z37:=Tryz.sizeOf91
 v37:=Tryz.zeroValue91
 t46:=Tryz.underlying84
 a46:=Tryz.isAgg84
 z46:=Tryz.sizeOf84
 v46:=Tryz.zeroValue84
 t51:=Tryz.underlying137
 a51:=Tryz.isAgg137
 z51:=Tryz.sizeOf137
 v51:=Tryz.zeroValue137
 t53:=Tryz.underlying182
 a53:=Tryz.isAgg182
 z53:=Tryz.sizeOf182
 v53:=Tryz.zeroValue182
 t171:=Tryz.underlying181
 a171:=Tryz.isAgg181
 z171:=Tryz.sizeOf181
 v171:=Tryz.zeroValue181
 t173:=Tryz.underlying185
 a173:=Tryz.isAgg185
 z173:=Tryz.sizeOf185
 v173:=Tryz.zeroValue185
 t212:=Tryz.underlying205
 a212:=Tryz.isAgg205
 z212:=Tryz.sizeOf205
 v212:=Tryz.zeroValue205
 t213:=Tryz.underlying206
 a213:=Tryz.isAgg206
 z213:=Tryz.sizeOf206
 t232:=Tryz.underlying221
 a232:=Tryz.isAgg221
 z232:=Tryz.sizeOf221
 v232:=Tryz.zeroValue221
 t233:=Tryz.underlying222
 a233:=Tryz.isAgg222
 z233:=Tryz.sizeOf222
 v233:=Tryz.zeroValue222
 g17:=by kernel_rfl
 g18:=by kernel_rfl
 g19:=by kernel_rfl
 i0:=by kernel_rfl
 i2:=by kernel_rfl
 i3:=by kernel_rfl
 i4:=by kernel_rfl
 i5:=by kernel_rfl
 i9:=by kernel_rfl
 i20:=by kernel_rfl
 i37:=by kernel_rfl
 i46:=by kernel_rfl
 i51:=by kernel_rfl
 i53:=by kernel_rfl
 i171:=by kernel_rfl
 i173:=by kernel_rfl
 i212:=by kernel_rfl
 i232:=by kernel_rfl
 i233:=by kernel_rfl
 m17:=by kernel_rfl
 m18:=by kernel_rfl
 m19:=by kernel_rfl }
open Go.RowKit Go.Sort Go.Lib in
theorem Tryz.strconv_Itoa (n:Int) (h0 : -9223372036854775808≤n) (h1:n≤9223372036854775807) (w:World) (htab:Lib.TabIs Tryz.prog w "internal/strconv.uint64pow10" .u64 Lib.pow10Tab) :
  Calls Tryz.prog 113 #[.int .i64 n] w fun e w'=>e = .returned (.string ⟨(Lib.itoa n).toArray⟩)∧∃ k os,w'=grow (w.drewN k) os:=Any.strconv_Itoa Tryz.laysM171 n h0 h1 w htab
end Go.Proofs
set_option linter.unusedVariables false
set_option linter.unusedSimpArgs false
set_option linter.unusedSectionVars false
set_option maxRecDepth 20000
namespace Go.Proofs.YtcdkpkkdolmfdaaGreatDoor
open Go.GAM Go.RowKit
def aOR:bX:=fun f args h K=>
 (f=Y116.id∧∃ n:Int,args=[.i .i64 n] ∧ -9223372036854775808≤n∧n≤9223372036854775807∧K (.s (Lib.itoa n)) h) ∨
 (f=Y117.id∧∃ (v:AV) (ls:List (List UInt8)) (sep:List UInt8),args=[v,.s sep]∧Rd 1 h v (ls.map .s) ls.length∧(Lib.join ls sep).length≤1000000000∧ls.length≤1000000000∧K (.s (Lib.join ls sep)) h)
theorem aPR:kS prog Y116.id=true:=by kernel_rfl
theorem aPF:kS prog Y117.id=true:=by kernel_rfl
theorem aMM {w w0:World} {Fz:Nat→Prop} {μ:Mu} {own:Nat→Option Nat} {h:aA} (R:Rel w0 Fz μ own h w) {v:AV} {cv:Value} {ls:List (List UInt8)} (hv:bJ μ v cv) (hr:Rd 1 h v (ls.map .s) ls.length) :
  ∃ a c,cv = .slice a ls.length c∧(ls≠[]→∃ B o,a=some ⟨B,o,none⟩∧B<w.heap.size∧ls.length≤c∧∀ (j:Nat) x,(ls.map fun l=>(⟨l.toArray⟩:ByteArray))[j]? = some x→w.cell? ⟨B,o+j,none⟩=some (.string x)):=by
 rcases hr with ⟨rfl,h1,h2⟩ | ⟨id,ver,off,cap,b,rfl,h2,h3,h4,h5,h6,h7⟩
 ·have : ls = [] := by simpa using h1
  subst this
  cases hv
  exact ⟨none,0,rfl,fun h=>absurd rfl h⟩
 ·cases hv with | sl _ _ _ c addr l hl hle hf hc hs ha =>
  refine ⟨some addr,c,rfl,fun hne=>?_⟩
  have hlp:=List.length_pos_iff.2 hne
  have hadr:=ha (by omega)
  have hrd:=R.read (a:=⟨id,ver,off⟩) (n:=ls.length) h2 ⟨h4,h5,by simpa using h6⟩ hl
  obtain ⟨cv0,e0,_⟩:=hrd 0 hlp
  refine ⟨l.B,l.base+off,by rw [hadr],World.block_lt_of_cell? w _ e0,hle,fun j x hj=>?_⟩
  have hjl:j<ls.length:=by have:=bM hj; simpa using this
  obtain ⟨cv,e1,e2⟩:=hrd j hjl
  have hcell:b.cells.getD (off+j) .u = .s ls[j]:=by
   have:(ls.map AV.s)[j]? = some (.s ls[j]):=by simp [hjl]
   rw [← h7,List.getElem?_take_of_lt (by omega),List.getElem?_drop] at this
   rw [List.getD_eq_getElem?_getD,this] <;> rfl
  simp only at e1 e2
  rw [hcell] at e2
  rw [Nat.add_assoc,e1]
  cases e2 with | s _ y hy=>
  have:x=y:=by
   simp [hjl] at hj
   subst hj
   obtain ⟨d⟩:=y
   simp only at hy
   congr 1
   apply Array.ext'
   rw [← hy]
  rw [this]
theorem aED {W:World} (ht:Lib.TabIs prog W "internal/strconv.uint64pow10" .u64 Lib.pow10Tab):dF prog W (fun B=>B<W.heap.size) (fun _ _=>none) aOR:=by
 rintro f args h K (⟨rfl,n,rfl,h0,h1,hk⟩ | ⟨rfl,v,ls,sep,rfl,hr,hl,hn,hk⟩) μ own w cargs hsb R hc
 ·rw [if_pos (by decide)]
  obtain ⟨rfl⟩:cargs=[.int .i64 n]:=by
   cases hc with | cons _ _ _ _ a b=>cases a; cases b; rfl
  have ht':Lib.TabIs prog w "internal/strconv.uint64pow10" .u64 Lib.pow10Tab:=by
   have hB:Below W.heap.size W w:=⟨R.os,R.tape,R.output,R.size0,fun k hk=>(R.fz k hk).2⟩
   exact Lib.tabBelow_of_tabIs ht w hB
  exact zI aPR R ((Tryz.strconv_Itoa n h0 h1 w ht').mono fun e w' ⟨he,k,os,hw⟩=>⟨he,hw ▸ Lib.below_grow _ w (Nat.le_refl _) k os⟩) (.s _ _ (by simp)) hk
 ·rw [if_pos (by decide)]
  cases hc with | cons _ cv _ _ hv t=>
  cases t with | cons _ _ _ _ hs t=>
  cases t
  cases hs with | s _ sx hsx=>
  obtain ⟨a,c,rfl,hne⟩:=aMM R hv hr
  have e1:((ls.map fun l=>(⟨l.toArray⟩:ByteArray)).map (·.data.toList))=ls:=by
   rw [List.map_map]
   conv=>rhs; rw [← List.map_id ls]
   exact List.map_congr_left fun l _=>by simp
  by_cases h0:ls=[]
  ·subst h0
   refine zI aPF R ((Tryz.strings_Join_none a c sx w).mono fun e w' ⟨he,hw⟩=>⟨he,hw ▸ Below.refl _ _⟩) (.s _ _ rfl) ?_
   simpa [Lib.join] using hk
  ·obtain ⟨B, o, rfl, hB, hlc, hcells⟩ := hne h0
   have hj:=Tryz.strings_Join B o c (ls.map fun l=>(⟨l.toArray⟩:ByteArray)) sx w hcells hB (by simp; omega) (by simpa using hlc) (by rw [e1,hsx]; omega)
   rw [e1,hsx,List.length_map] at hj
   exact zI aPF R hj (.s _ _ (by simp)) hk
theorem aNW {W:World} {l:List (String × DataW Unit)} (hm:("internal/strconv.uint64pow10",Rows.laid_internal_strconv_uint64pow10)∈l) (hL:laidMet Tryz.prog l W):Lib.TabIs prog W "internal/strconv.uint64pow10" .u64 Lib.pow10Tab:=by
 obtain ⟨g,t,cs,fuel,p,hg,ht,hv,hd⟩:=dV hm hL
 obtain rfl:=Option.some.inj ((show Tryz.prog.globalNamed "internal/strconv.uint64pow10" = some 13 by kernel_rfl).symm.trans hg)
 obtain rfl:=Option.some.inj ((show (Tryz.prog.globals[13]?).map (·.type)=some 205 by kernel_rfl).symm.trans ht)
 have e:(Rows.laid_internal_strconv_uint64pow10:DataW Unit)=Lib.tabData .u64 Lib.pow10Tab:=by rfl
 rw [e] at hd
 have:=Lib.cells_of_tab (n:=20) Tryz.underlying205 (show Tryz.prog.underlying 182=some (.int .u64) from Tryz.underlying182) (by kernel_rfl) (by kernel_rfl) hd
 show W.var? Tryz.prog _=_
 rw [hv, ← this]
noncomputable instance xr1:XR:=⟨orR (orR (aI9 fU) (aFD prog (@C xr0))) aOR⟩
theorem aOH {W:World} (ht:Lib.TabIs prog W "internal/strconv.uint64pow10" .u64 Lib.pow10Tab):dF prog W (fun B=>B<W.heap.size) (fun _ _=>none) (@X xr1):=fun f args h K hk=>
 hk.elim (aHK uY (aGI mixedOK sizeOK (aAO mixedOK sizeOK uY)) _ _ _ f args h K) (aED ht f args h K)
theorem aP0 {f:FuncId} {args:List AV} {h:aA} {K:AV→aA→Prop} (hk : @C xr0 f args h K):C f args h K:=aIV (fun _ _ _ _ h=>.inl (.inl h)) hk
theorem aJF {f:FuncId} {Y:mP} {args:List AV} {h:aA} {K:AV→aA→Prop} (hm:(f,Y)∈fU) (hk:Y args h K):C f args h K:=rI (.inl (.inl (aIX hm hk)))
theorem aNJ {f:FuncId} {args:List AV} {h:aA} {K:AV→aA→Prop} (hk:aFD prog (@C xr0) f args h K):C f args h K:=rI (.inl (.inr hk))
theorem aEG {n:Nat} {h:aA} {K:AV→aA→Prop} (hn:n<9223372036854775808) (hk:K (.s (Lib.decDigits n)) h):C Y116.id [.i .i64 (n:Int)] h K:=
 rI (.inr (.inl ⟨rfl,(n:Int),rfl,by omega,by omega,by rw [Lib.itoa_nonneg]; exact hk⟩))
theorem aNP {v:AV} {ls:List (List UInt8)} {sep:List UInt8} {h:aA} {K:AV→aA→Prop} (hr:Rd 1 h v (ls.map .s) ls.length) (hl:(Lib.join ls sep).length≤1000000000) (hn:ls.length≤1000000000) (hk:K (.s (Lib.join ls sep)) h):C Y117.id [v,.s sep] h K:=
 rI (.inr (.inr ⟨rfl,v,ls,sep,rfl,hr,hl,hn,hk⟩))
theorem aO9 {l:List UInt8} {c:UInt8} {h:aA} {K:AV→aA→Prop} (hk:K (.i .i64 (Lib.indexByte l c)) h):C Y107.id [.s l,.i .u8 (c.toNat:Int)] h K:=aJF Y107.row ⟨l,c,rfl,hk⟩
theorem aPP {l:List UInt8} {c:UInt8} {h:aA} {K:AV→aA→Prop} (hk:K (.i .i64 (Lib.countByte l c:Nat)) h):C Y108.id [.s l,.i .u8 (c.toNat:Int)] h K:=aJF Y108.row ⟨l,c,rfl,hk⟩
section
variable {h:aA} {Q:AV→aA→Prop}
theorem aO2 {l:List UInt8} {c:UInt8} (hk:Q (.i .i64 (Lib.countByte l c:Nat)) h):C Y74.id [.s l,.s [c]] h Q:=by
 refine Y74.call ?_
 simp only [Y74.t, ← Y74.p0.eq_1]
 refine aK rfl ?_
 refine aM rfl (cW (i:=0) rfl (aPP (aU (.inl hk))))
def b3 (sp:List UInt8) (s:List UInt8):List UInt8:=s.flatMap fun c=>if c∈sp then [92,c] else [c]
theorem xB {sp:List UInt8}:b3 sp []=[]:=rfl
theorem wT {sp a b:List UInt8}:b3 sp (a++b)=b3 sp a++b3 sp b:=by simp [b3]
theorem aBA {sp:List UInt8} {c:UInt8}:b3 sp [c]=if c∈sp then [92,c] else [c]:=by simp [b3]
theorem aE6 {sp:List UInt8}:∀ {s:List UInt8},(s.any fun c=>decide (c∈sp))=false→b3 sp s=s
 | [],_=>rfl
 | c :: r, h => by
  simp only [List.any_cons,Bool.or_eq_false_iff,decide_eq_false_iff_not] at h
  show (if c∈sp then [92,c] else [c])++b3 sp r=_
  rw [if_neg h.1,aE6 h.2] <;> rfl
def gV (l s:List UInt8):Nat:=(l.map fun d=>Lib.countByte s d).sum
theorem wP:∀ l:List UInt8,gV l []=0
 | []=>rfl
 | d :: l => by
  have:gV (d :: l) []=Lib.countByte [] d+gV l []:=rfl
  rw [this,wP l] <;> rfl
theorem rS (c:UInt8) (r:List UInt8):∀ {l:List UInt8},l.Nodup→gV l (c :: r)=gV l r+if c∈l then 1 else 0
 | [],_=>rfl
 | d :: l, hn => by
  obtain ⟨h1,h2⟩:=List.nodup_cons.1 hn
  have ih:=rS c r h2
  have e1:gV (d :: l) (c :: r)=Lib.countByte (c :: r) d+gV l (c :: r):=rfl
  have e2:gV (d :: l) r=Lib.countByte r d+gV l r:=rfl
  have e3:Lib.countByte (c :: r) d=Lib.countByte r d+if c=d then 1 else 0:=by
   unfold Lib.countByte
   rw [List.count_cons]
   simp
  rw [e1,e2,e3,ih]
  by_cases e:c=d
  ·subst e
   rw [if_pos rfl,if_neg h1,if_pos (List.mem_cons_self ..)]; omega
  ·rw [if_neg e]
   have:(c∈d :: l)↔c∈l:=by simp [e]
   simp only [this]; omega
theorem iF {sp:List UInt8} (hn:sp.Nodup):∀ s:List UInt8,(b3 sp s).length=s.length+gV sp s
 | []=>by rw [wP] <;> rfl
 | c :: r => by
  rw [rS c r hn]
  show ((if c∈sp then [92,c] else [c])++b3 sp r).length=_
  rw [List.length_append,iF hn r,List.length_cons]
  split <;> simp <;> omega
theorem aC0 {s : List UInt8} : ∀ {l : List UInt8}, decide (gV l s ≠ 0) = (s.any fun c => decide (c ∈ l))
 | []=>by simp [gV]
 | d :: l => by
  have ih:=aC0 (s:=s) (l:=l)
  rw [Bool.eq_iff_iff] at ih ⊢
  simp only [decide_eq_true_eq,List.any_eq_true,List.mem_cons] at ih ⊢
  have e:gV (d :: l) s=Lib.countByte s d+gV l s:=rfl
  have e2:Lib.countByte s d≠0↔d∈s:=by
   unfold Lib.countByte
   rw [Nat.ne_zero_iff_zero_lt,List.count_pos_iff]
  constructor
  ·intro h
   by_cases h0:Lib.countByte s d=0
   ·obtain ⟨c, h1, h2⟩ := ih.1 (by omega)
    exact ⟨c,h1,.inr h2⟩
   ·exact ⟨d,e2.1 h0,.inl rfl⟩
  ·rintro ⟨c, h1, rfl | h2⟩
   ·have:=e2.2 h1; omega
   ·have:=ih.2 ⟨c,h1,h2⟩; omega
theorem aB6 (l s:List UInt8):gV l.reverse s=gV l s:=by
 unfold gV; rw [List.map_reverse,List.sum_reverse]
theorem oR {l:List UInt8} (hn:l.Nodup):∀ s:List UInt8,gV l s≤s.length
 | []=>by rw [wP]; exact Nat.le_refl _
 | c :: r => by
  rw [rS c r hn]
  have:=oR hn r
  rw [List.length_cons]
  split <;> omega
theorem Tx.cutCopy {h0:aA} {v:AV} {l:List UInt8} {j:Nat} {x y:UInt8} (A:Tx h0 h v l) (hj:j+2≤l.length):∃ z,(∀ K:AV→Prop,K z→cX 1 v (some (.i .i64 (j:Int))) none none h K) ∧
  ∀ (w:AV) (K:AV→aA→Prop),Byt h w [x,y]→(∀ h',Tx h0 h' v ((l.set j x).set (j+1) y)→K (.i .i64 2) h')→yI 1 z w h K:=by
 rcases A.arr with ⟨rfl,_,h0⟩ | ⟨id,b,rfl,hb,hbc,h4,h5,h6,h7,h8⟩
 ·omega
 have hbl:b.cells.length=l.length:=by rw [hbc]; simp
 have hidl:=bM hb
 refine ⟨.sl (some ⟨id,(l.map byteAV).length,0+j * 1⟩) (l.length - j) none,fun K hk=>?_,fun w K B hk=>?_⟩
 ·refine ⟨by decide, by simp, ?_⟩
  refine ⟨by omega, ?_⟩
  simp only [Int.toNat_natCast]
  refine ⟨by omega,b,hb,by rw [hbc]; exact h6,h6,.inl h5,.inl (Nat.le_refl _), ?_⟩
  exact hk
 ·refine ⟨by decide, Rd.news B ?_⟩
  have hm:min [x,y].length (l.length - j)=2:=by simp; omega
  refine ⟨b,hb,h5,⟨h6,by show (l.map byteAV).length≤_; rw [hbc]; exact Nat.le_refl _,by show 0+j * 1+(l.length - j) * 1≤(l.map byteAV).length; rw [List.length_map]; omega⟩,h7,by show (l.map byteAV).length=_; rw [hbc],by rw [hm] <;> rfl, ?_⟩
  rw [hm]
  have ew:wr b.cells (0+j * 1) (([x,y].map byteAV).take (2 * 1))=((l.set j x).set (j+1) y).map byteAV:=by
   rw [hbc]
   show ((l.map byteAV).set (0+j * 1) (byteAV x)).set (0+j * 1+1) (byteAV y)=_
   rw [Nat.zero_add,Nat.mul_one, ← List.map_set, ← List.map_set]
  refine hk _ ⟨A.upd.trans (Upd.set _ _ _) fun i hi e=>?_,.inr ⟨id,{ b with cells:=wr b.cells (0+j * 1) (([x,y].map byteAV).take (2 * 1)),floor:=b.cells.length }, ?_,List.getElem?_set_self hidl,ew, ?_,h5, ?_,h7,h8⟩,A.new⟩
  ·have h9 := A.new id rfl
   have e:i=id:=e
   omega
  ·simp
  ·simp
  ·show b.cells.length ≤ _
   rw [hbl]; simp
variable {sp s:List UInt8} {idR lo:Nat}
theorem gL.look {c:UInt8} {k:Int} (R:gL lo h idR sp) (hk':k=(c.toNat:Int)) {K:AV→Prop} (hno:c ∉ sp→K (.sl none 0 none)) (hyes:∀ a,c∈sp→Byt h (.sl (some a) 2 none) [92,c]→K (.sl (some a) 2 none)) :
  cV (.p (some ⟨idR,257,0⟩)) fun v=>aD 0 v fun v=>dD 256 1 v (.i .u8 k) fun v=>aC v h K:=by
 subst hk'
 obtain ⟨cs,tr,h1,h2,h3,h4,h5,h6,h7⟩:=R.cells
 have hc:=c.toNat_lt
 refine b8 (aP ⟨by omega,by omega, ?_⟩)
 simp only [Int.toNat_natCast,Nat.zero_add,Nat.mul_one]
 by_cases hcs:c∈sp
 ·obtain ⟨a, g1, g2, _⟩ := h7 c hcs
  exact aO h1 h2.symm g1 (hyes a hcs g2)
 ·exact aO h1 h2.symm (h6 c hcs) (hno hcs)
theorem aM9 {K:AV→Prop} {t:TypeId} (ht:isSl prog t=true) (hk:K (.b false)):f9 prog .neq t (.sl none 0 none) (.sl none 0 none) K:=by
 simp only [f9,ht,cond_true]; exact hk
theorem aJ5 {K:AV→Prop} {t:TypeId} {a:AA} {n:Nat} {c:Option Nat} (ht:isSl prog t=true) (hk:K (.b true)):f9 prog .neq t (.sl (some a) n c) (.sl none 0 none) K:=by
 simp only [f9,ht,cond_true]; exact hk
theorem aOD {h0 : aA} (R0 : gL lo h0 idR sp) (hs : s.length ≤ 100000000) (hn : sp.Nodup) (hq : Q (.s (b3 sp s)) h) (U0 : Upd (fun _ => False) h h0) :
  ∀ (k i:Nat) (v:AV) (hx:aA),s.length=i+k→Tx h0 hx v (b3 sp (s.take i)++List.replicate ((b3 sp s).length - (b3 sp (s.take i)).length) 0) →
  Y2.p5 (aI h Q) (.p (some ⟨idR,257,0⟩)) s v ((b3 sp (s.take i)).length:Int) (i:Int) hx:=by
 have hel:∀ t:List UInt8,t.length≤100000000→(b3 sp t).length≤200000000:=fun t ht=>by
  have:=iF hn t
  have:=oR hn t
  omega
 intro k
 induction k with
 | zero =>
  intro i v hx hi T
  refine Y2.i5 ?_
  simp only [Y2.t5]
  refine aK (decide_eq_false (by omega)) ?_
  rw [List.take_of_length_le (by omega)] at T
  simp only [Nat.sub_self,List.replicate_zero,List.append_nil] at T
  refine Tx.str T ?_
  exact aV rfl (U0.trans T.upd fun _ _ h=>h).ext hq
 | succ k ih =>
  intro i v hx hi T
  obtain ⟨c,hc⟩:∃ c,s[i]? = some c:=⟨s[i],List.getElem?_eq_getElem (by omega)⟩
  have htk:=cR hc
  have hle:(b3 sp (s.take (i+1))).length≤(b3 sp s).length:=by
   conv=>rhs; rw [← List.take_append_drop (i+1) s,wT,List.length_append]
   omega
  have hbig:=hel s hs
  have he1:b3 sp (s.take (i+1))=b3 sp (s.take i)++(if c∈sp then [92,c] else [c]):=by rw [htk,wT,aBA]
  refine Y2.i5 ?_
  simp only [Y2.t5, ← Y2.p6.eq_1]
  refine aM (decide_eq_true (by omega)) ?_
  refine cW (fB hc) ?_
  have Rx:gL lo hx idR sp:=R0.upd T.upd fun _ _ h=>h
  have nxt:∀ (v:AV) (hy:aA),Tx h0 hy v (b3 sp (s.take (i+1))++List.replicate ((b3 sp s).length - (b3 sp (s.take (i+1))).length) 0) →
    Y2.p6 (aI h Q) (.p (some ⟨idR,257,0⟩)) s v ((b3 sp (s.take (i+1))).length:Int) (i:Int) hy:=by
   intro v hy Ty
   refine Y2.i6 ?_
   simp only [Y2.t6, ← Y2.p5.eq_1]
   exact inc (by omega) (ih (i+1) v hy (by omega) Ty)
  refine Rx.look rfl (fun hcs=>?_) fun a hcs B=>?_
  ·rw [if_neg hcs] at he1
   refine aM9 (by kernel_rfl) (aX (aK rfl ?_))
   have hl1:(b3 sp (s.take (i+1))).length=(b3 sp (s.take i)).length+1:=by rw [he1]; simp
   refine Tx.store T (by simp; omega) fun hy Ty=>?_
   refine inc (by omega) ?_
   rw [← hl1]
   refine nxt v hy ?_
   have e:(b3 sp (s.take i)++List.replicate ((b3 sp s).length - (b3 sp (s.take i)).length) 0).set (b3 sp (s.take i)).length c=b3 sp (s.take (i+1))++List.replicate ((b3 sp s).length - (b3 sp (s.take (i+1))).length) 0:=by
    obtain ⟨m,hm⟩:∃ m,(b3 sp s).length - (b3 sp (s.take i)).length=m+1:=⟨(b3 sp s).length - (b3 sp (s.take i)).length - 1,by omega⟩
    have hm2:(b3 sp s).length - (b3 sp (s.take (i+1))).length=m:=by omega
    rw [hm,hm2,he1,List.replicate_succ,List.set_append_right _ _ (Nat.le_refl _),Nat.sub_self]
    simp
   rw [e] at Ty
   exact Ty
  ·rw [if_pos hcs] at he1
   refine aJ5 (by kernel_rfl) (aX (aM rfl ?_))
   have hl1:(b3 sp (s.take (i+1))).length=(b3 sp (s.take i)).length+2:=by rw [he1]; simp
   obtain ⟨z,hz1,hz2⟩:=Tx.cutCopy (x:=92) (y:=c) (j:=(b3 sp (s.take i)).length) T (by simp; omega)
   refine hz1 _ ?_
   refine Rx.look rfl (fun hcs'=>absurd hcs hcs') fun a' _ B'=>?_
   refine hz2 _ _ B' fun hy Ty=>aU ?_
   refine aNZ (by omega) ?_
   rw [← hl1]
   refine nxt v hy ?_
   have e:((b3 sp (s.take i)++List.replicate ((b3 sp s).length - (b3 sp (s.take i)).length) 0).set (b3 sp (s.take i)).length 92).set ((b3 sp (s.take i)).length+1) c=b3 sp (s.take (i+1))++List.replicate ((b3 sp s).length - (b3 sp (s.take (i+1))).length) 0:=by
    obtain ⟨m,hm⟩:∃ m,(b3 sp s).length - (b3 sp (s.take i)).length=m+2:=⟨(b3 sp s).length - (b3 sp (s.take i)).length - 2,by omega⟩
    have hm2:(b3 sp s).length - (b3 sp (s.take (i+1))).length=m:=by omega
    rw [hm,hm2,he1,List.replicate_succ,List.replicate_succ,List.set_append_right _ _ (Nat.le_refl _),Nat.sub_self,List.set_append_right _ _ (by omega)]
    simp
   rw [e] at Ty
   exact Ty
theorem aH8 (R0:gL lo h idR sp) (hs:s.length≤100000000) (hn:sp.Nodup) (hq:Q (.s (b3 sp s)) h) {x5:Int} {x6:Bool} (h5:x5=((b3 sp s).length:Nat)) (h6:x6=(s.any fun c=>decide (c∈sp))) :
  Y2.p4 (aI h Q) (.p (some ⟨idR,257,0⟩)) s x5 x6 h:=by
 have hel:(b3 sp s).length≤200000000:=by
  have:=iF hn s
  have:=oR hn s
  omega
 refine Y2.i4 ?_
 simp only [Y2.t4, ← Y2.p5.eq_1]
 subst h5; subst h6
 cases ha:s.any fun c=>decide (c∈sp) with
 | false =>
  refine aM rfl (.inl ?_)
  rw [aE6 ha] at hq; exact hq
 | true =>
  refine aK rfl ?_
  refine aFM (by omega) (by omega) fun v h1 A=>?_
  have e:(List.replicate (b3 sp s).length (AV.i .u8 0))=(List.replicate (b3 sp s).length (0:UInt8)).map byteAV:=by simp [byteAV]
  have T:Tx h h1 v (b3 sp (s.take 0)++List.replicate ((b3 sp s).length - (b3 sp (s.take 0)).length) 0):=by
   rw [List.take_zero,xB]
   simp only [List.length_nil,Nat.sub_zero,List.nil_append]
   rw [e] at A
   unfold Tx
   rw [List.length_replicate]; exact A
  have:=aOD (h0:=h) R0 hs hn hq (Upd.refl _ _) s.length 0 v h1 (by omega) T
  simpa [xB] using this
theorem aOG (R0 : gL lo h idR sp) (hs : s.length ≤ 100000000) (hn : sp.Nodup) (hq : Q (.s (b3 sp s)) h) :
  ∀ (k i:Nat) (x5:Int),s.length=i+k→x5=(s.length:Int)+((b3 sp (s.take i)).length:Nat) - i →
  Y2.p2 (aI h Q) (.p (some ⟨idR,257,0⟩)) s x5 ((s.take i).any fun c=>decide (c∈sp)) (i:Int) h:=by
 intro k
 induction k with
 | zero =>
  intro i x5 hi hx
  refine Y2.i2 ?_
  simp only [Y2.t2, ← Y2.p4.eq_1]
  refine aK (decide_eq_false (by omega)) ?_
  have e:s.take i=s:=List.take_of_length_le (by omega)
  refine aH8 R0 hs hn hq ?_ (by rw [e])
  rw [hx,e]; omega
 | succ k ih =>
  intro i x5 hi hx
  obtain ⟨c,hc⟩:∃ c,s[i]? = some c:=⟨s[i],List.getElem?_eq_getElem (by omega)⟩
  have htk:=cR hc
  have hel:(b3 sp (s.take i)).length≤200000000:=by
   have:=iF hn (s.take i)
   have:=oR hn (s.take i)
   have:(s.take i).length≤s.length:=by simp; omega
   omega
  have he1:b3 sp (s.take (i+1))=b3 sp (s.take i)++(if c∈sp then [92,c] else [c]):=by rw [htk,wT,aBA]
  refine Y2.i2 ?_
  simp only [Y2.t2, ← Y2.p3.eq_1]
  refine aM (decide_eq_true (by omega)) ?_
  refine cW (fB hc) ?_
  have hany:((s.take (i+1)).any fun c=>decide (c∈sp))=(((s.take i).any fun c=>decide (c∈sp))||decide (c∈sp)):=by rw [htk]; simp
  have nxt:∀ (x5:Int) (x6:Bool),x5=(s.length:Int)+((b3 sp (s.take (i+1))).length:Nat) - (i+1:Nat)→x6=((s.take (i+1)).any fun c=>decide (c∈sp)) →
    Y2.p3 (aI h Q) (.p (some ⟨idR,257,0⟩)) s x5 x6 (i:Int) h:=by
   intro x5 x6 h1 h2
   refine Y2.i3 ?_
   simp only [Y2.t3, ← Y2.p2.eq_1]
   subst h2
   exact inc (by omega) (ih (i+1) x5 (by omega) h1)
  refine R0.look rfl (fun hcs=>?_) fun a hcs B=>?_
  ·rw [if_neg hcs] at he1
   refine aM9 (by kernel_rfl) (aX (aK rfl (nxt _ _ ?_ ?_)))
   ·rw [hx,he1]; simp; omega
   ·rw [hany,decide_eq_false hcs,Bool.or_false]
  ·rw [if_pos hcs] at he1
   refine aJ5 (by kernel_rfl) (aX (aM rfl ?_))
   refine R0.look rfl (fun hcs'=>absurd hcs hcs') fun a' _ B'=>?_
   refine aKK (aJ (show IntKind.wrap .i64 (((2:Nat):Int) - 1)=1 by decide) ?_)
   refine aJ (show IntKind.wrap .i64 (x5+1)=x5+1 by rw [aL] <;> omega) (nxt _ _ ?_ ?_)
   ·rw [hx,he1]; simp; omega
   ·rw [hany,decide_eq_true hcs,Bool.or_true]
theorem aOE (R0 : gL lo h idR sp) (hs : s.length ≤ 100000000) (hn : sp.Nodup) (hl : sp.length ≤ 100) (hq : Q (.s (b3 sp s)) h) {tr : AV} (hT : Rd 1 h tr (sp.reverse.map fun c => .s [c]) sp.length) :
  ∀ (k i:Nat) (x5:Int),sp.length=i+k→x5=(s.length:Int)+(gV (sp.reverse.take i) s:Nat) →
  Y2.p0 (aI h Q) (.p (some ⟨idR,257,0⟩)) s x5 (decide (gV (sp.reverse.take i) s≠0)) tr (sp.length:Int) (i:Int) h:=by
 intro k
 induction k with
 | zero =>
  intro i x5 hi hx
  refine Y2.i0 ?_
  simp only [Y2.t0, ← Y2.p4.eq_1]
  refine aK (decide_eq_false (by omega)) ?_
  have e:sp.reverse.take i=sp.reverse:=List.take_of_length_le (by simp; omega)
  refine aH8 R0 hs hn hq ?_ ?_
  ·rw [hx,e,aB6,iF hn]; omega
  ·rw [e,aB6,aC0]
 | succ k ih =>
  intro i x5 hi hx
  obtain ⟨c,hc⟩:∃ c,sp.reverse[i]? = some c:=⟨sp.reverse[i]'(by simp; omega),List.getElem?_eq_getElem _⟩
  have htk:=cR hc
  have hcm:c∈sp:=by have:=List.mem_of_getElem? hc; simpa using this
  have hsum:gV (sp.reverse.take (i+1)) s=gV (sp.reverse.take i) s+Lib.countByte s c:=by
   rw [htk]; unfold gV; simp
  have hb1:gV (sp.reverse.take (i+1)) s≤s.length:=oR ((List.take_sublist _ _).nodup (by unfold List.Nodup at *; rw [List.pairwise_reverse]; exact hn.imp fun h e=>h e.symm)) s
  refine Y2.i0 ?_
  simp only [Y2.t0, ← Y2.p1.eq_1]
  refine aM (decide_eq_true (by omega)) ?_
  refine hT.cell (by decide) (by omega) (c:=.s [c]) (by rw [Nat.mul_one,List.getElem?_map,hc] <;> rfl) (aZ ?_)
  refine aO2 (aU ?_)
  have nxt:∀ (x5:Int) (x6:Bool),x5=(s.length:Int)+(gV (sp.reverse.take (i+1)) s:Nat)→x6=decide (gV (sp.reverse.take (i+1)) s≠0) →
    Y2.p1 (aI h Q) (.p (some ⟨idR,257,0⟩)) s x5 x6 tr (sp.length:Int) (i:Int) h:=by
   intro x5 x6 h1 h2
   refine Y2.i1 ?_
   simp only [Y2.t1, ← Y2.p0.eq_1]
   subst h2
   exact inc (by omega) (ih (i+1) x5 (by omega) h1)
  refine aG (fun e=>?_) fun e=>?_
  ·have e : Lib.countByte s c ≠ 0 := by simpa using e
   refine cW (i:=0) (c:=c) (r:=[]) rfl ?_
   refine R0.look rfl (fun hcs=>absurd hcm hcs) fun a _ B=>?_
   refine aKK (aJ (show IntKind.wrap .i64 (((2:Nat):Int) - 1)=1 by decide) ?_)
   refine aJ (show IntKind.wrap .i64 ((Lib.countByte s c:Int) * 1)=Lib.countByte s c by rw [Int.mul_one,aL] <;> omega) ?_
   refine aJ (show IntKind.wrap .i64 (x5+(Lib.countByte s c:Int))=x5+Lib.countByte s c by rw [aL] <;> omega) (nxt _ _ ?_ ?_)
   ·omega
   ·rw [eq_comm,decide_eq_true]; omega
  ·have e : Lib.countByte s c = 0 := by simpa using e
   refine nxt _ _ ?_ ?_
   ·omega
   ·rw [hsum,e,Nat.add_zero]
theorem aDO (R0:gL lo h idR sp) (hs:s.length≤100000000) (hn:sp.Nodup) (hl:sp.length≤100) (hq:Q (.s (b3 sp s)) h):C Y2.id [.p (some ⟨idR,257,0⟩),.s s] h Q:=by
 refine Y2.call ?_
 simp only [Y2.t, ← Y2.p0.eq_1, ← Y2.p2.eq_1]
 obtain ⟨cs,tr,h1,h2,h3,h4,_⟩:=R0.cells
 refine b8 (aP (aO h1 h2.symm h3 (h4.len ?_)))
 refine aJ (show IntKind.wrap .i64 ((sp.length:Int) * 8)=(sp.length:Int) * 8 by rw [aL] <;> omega) ?_
 refine aG (fun e=>?_) fun e=>?_
 ·refine b8 (aP (aO h1 h2.symm h3 (h4.len ?_)))
  have:=aOE R0 hs hn hl hq h4 sp.length 0 (s.length:Int) (by omega) (by simp [gV])
  simpa [gV] using this
 ·have := aOG R0 hs hn hq s.length 0 (s.length : Int) (by omega) (by simp [b3])
  simpa using this
theorem aIJ {v:AV} (hl:sp.length≤100) (hv:Rd 1 h v ((fK sp).map .s) (2 * sp.length)) (hp:0<sp.length) (hq:∀ id h',Upd (fun _=>False) h h'→h.length≤id→aDP h' id sp→Q (.p (some ⟨id,5,0⟩)) h'):C Y89.id [v] h Q:=by
 refine Y89.call ?_
 simp only [Y89.t]
 refine hv.len (aJY (n:=0) (by decide) (by rw [show ((2 * sp.length:Nat):Int)=(sp.length:Int) * 2 by omega]; exact Int.mul_tmod_left _ _) (aK rfl ?_))
 have hok:((fK sp).map AV.s).all AV.cellOK=true:=by
  rw [List.all_eq_true]; intro x hx
  obtain ⟨c,_,rfl⟩:=List.mem_map.1 hx
  rfl
 refine (Arr.nil 1 h).append (by decide) (ns:=(fK sp).map .s) (k:=2 * sp.length) (fun K hK=>hv.news hK) (by simp [wX]) hok (by omega) (by omega) fun v' h1 U1 A1 F1=>?_
 have U1':Upd (fun _=>False) h h1:=U1.mono fun _ _ h=>h
 have A1:Arr 1 h1 v' ((fK sp).map .s) (2 * sp.length):=by simpa using A1
 have hv':v'.parts=[v']∧v'.sizeOK=true∧v'.cellOK=true:=by
  rcases A1 with ⟨_,h0,_⟩ | ⟨id,b,rfl,_⟩
  ·omega
  ·exact ⟨rfl,rfl,rfl⟩
 refine zX (cs:=[.i .u32 0,.i .i32 0,.i .u32 0,.ni,v']) ?_ ?_
 ·rcases A1 with ⟨_, h0, _⟩ | ⟨id, b, rfl, _⟩
  ·omega
  ·rfl
 refine d3 rfl fun h2 hl2 U2 R2=>?_
 refine .inl (hq h1.length h2 (U1'.trans U2 fun _ _ h=>h) U1'.1 ⟨v',R2,(A1.rd).upd U2 fun _ _ h=>h,fun hi=>?_⟩)
 have:=A1.rd.lt hi
 omega
theorem aG6 {id:Nat} (hs:s.length≤100000000) (hn:sp.Nodup) (hl:sp.length≤100) (hp:2≤sp.length) (N:aDP h id sp) (hq:∀ h',Upd (· = id) h h'→aFP h' id sp→Q (.s (b3 sp s)) h'):C Y96.id [.p (some ⟨id,5,0⟩),.s s] h Q:=by
 refine Y96.call ?_
 simp only [Y96.t]
 refine b8 (aP ?_)
 refine Y103.call ?_
 simp only [Y103.t]
 obtain ⟨v,R,hv,hvn⟩:=N.is
 refine b8 (aP ?_)
 refine aP0 (aE2 R rfl rfl (aX (aM rfl ?_)))
 refine aNJ (aJZ hn hl hp N fun h1 U1 G1=>?_)
 refine .inl ?_
 have G2:=G1
 obtain ⟨idR,R1,P1⟩:=G2
 refine b8 (aP (aO R1 rfl rfl ?_))
 refine aO0 (f:=Y2.id) (by kernel_rfl) (by decide) ?_
 exact aDO P1 hs hn hl (aZ (.inl (hq h1 U1 G1)))
end
end Go.Proofs.YtcdkpkkdolmfdaaGreatDoor
namespace Go.Proofs.YtcdkpkkdolmfdaaGreatDoor
open Go.GAM Go.RowKit
section
variable {h:aA} {Q:AV→aA→Prop}
theorem rA {l:List UInt8} {c:UInt8} (hk:Q (.i .i64 (Lib.indexByte l c)) h):C Y78.id [.s l,.i .u8 (c.toNat:Int)] h Q:=by
 refine Y78.call ?_
 simp only [Y78.t]
 exact aO9 (aU (.inl hk))
theorem aCS {l:List UInt8} {c:UInt8} (hk:Q (.i .i64 (Lib.indexByte l c)) h):C Y65.id [.s l,.s [c]] h Q:=by
 refine Y65.call ?_
 simp only [Y65.t, ← Y65.p0.eq_1]
 refine aK rfl ?_
 refine Y65.i0 ?_
 simp only [Y65.t0]
 refine aG (fun e=>?_) fun e=>?_
 ·have e := of_decide_eq_true e
  subst e
  have:Lib.indexByte [c] c=0:=by simp [Lib.indexByte]
  rw [this] at hk
  exact .inl hk
 ·exact aM rfl (cW (i:=0) rfl (rA (aU (.inl hk))))
theorem aPT {l:List UInt8} {c:UInt8} (hk:Q (.i .i64 (Lib.indexByte l c)) h):C Y95.id [.s l,.s [c]] h Q:=by
 refine Y95.call ?_
 simp only [Y95.t]
 exact aCS (aU (.inl hk))
def oB (l:List UInt8) (c:UInt8):List UInt8 × List UInt8 × Bool:=if 0≤Lib.indexByte l c then (l.take (Lib.indexByte l c).toNat,l.drop ((Lib.indexByte l c).toNat+1),true) else (l,[],false)
theorem aCD:∀ (l:List UInt8) (c:UInt8), -1≤Lib.indexByte l c∧Lib.indexByte l c<l.length
 | [],c=>by simp [Lib.indexByte]
 | b :: l, c => by
  have:=aCD l c
  unfold Lib.indexByte
  split
  ·simp
  ·split
   ·simp; omega
   ·simp; omega
theorem aPH {l:List UInt8} {c:UInt8} (hl:l.length≤9223372036854775807) (hk:Q (.tu [.s (oB l c).1,.s (oB l c).2.1,.b (oB l c).2.2]) h):C Y90.id [.s l,.s [c]] h Q:=by
 have hb:=aCD l c
 refine Y90.call ?_
 simp only [Y90.t]
 refine Y100.call ?_
 simp only [Y100.t]
 refine aCS (aU ?_)
 unfold oB at hk
 by_cases h0:0≤Lib.indexByte l c
 ·rw [if_pos h0] at hk
  obtain ⟨n,hn⟩:∃ n:Nat,Lib.indexByte l c=n:=⟨(Lib.indexByte l c).toNat,by omega⟩
  rw [hn] at hk hb ⊢
  simp only [Int.toNat_natCast] at hk
  refine aM (by simp) (j3 (by omega) (aJ (n:=((n+1:Nat):Int)) (by rw [aL (by simp only [List.length_singleton]; omega) (by simp only [List.length_singleton]; omega)] <;> rfl) (iD (by omega) ?_)))
  exact .inl (bD (aZ (bC (aZ (jD (aX (.inl hk)))))))
 ·rw [if_neg h0] at hk
  exact aK (by simp; omega) (.inl (bD (aZ (bC (aZ (jD (aX (.inl hk))))))))
def kN (l p:List UInt8):Bool:=decide (l.take p.length=p)
theorem tE {l p:List UInt8} (hk:Q (.b (kN l p)) h):C Y54.id [.s l,.s p] h Q:=by
 refine Y54.call ?_
 simp only [Y54.t, ← Y54.p0.eq_1]
 unfold kN at hk
 by_cases hl:p.length≤l.length
 ·refine aM (by simp; omega) (j3 hl ?_)
  refine Y54.i0 ?_
  simp only [Y54.t0]
  exact .inl hk
 ·refine aK (by simp; omega) ?_
  refine Y54.i0 ?_
  simp only [Y54.t0]
  rw [decide_eq_false (fun e=>hl (by rw [← e]; simp; omega))] at hk
  exact .inl hk
theorem aAS {l p:List UInt8} (hl:l.length≤9223372036854775807) (hk:Q (.tu [.s (if kN l p=true then l.drop p.length else l),.b (kN l p)]) h):C Y94.id [.s l,.s p] h Q:=by
 refine Y94.call ?_
 simp only [Y94.t]
 refine Y101.call ?_
 simp only [Y101.t]
 refine tE (aX ?_)
 cases hp:kN l p with
 | false =>
  rw [hp,if_neg (by simp)] at hk
  exact aM rfl (.inl (bD (aZ (bC (aX (.inl hk))))))
 | true =>
  rw [hp,if_pos rfl] at hk
  have:p.length≤l.length:=by
   have:=of_decide_eq_true hp
   rw [← this]; simp; omega
  exact aK rfl (iD this (.inl (bD (aZ (bC (aX (.inl hk)))))))
end
def wH (c:UInt8):UInt8:=if 65≤c.toNat∧c.toNat≤90 then c+32 else c
def gX (l:List UInt8):List UInt8:=l.map wH
theorem aF4 {c:UInt8} (h:65≤c.toNat∧c.toNat≤90):((wH c).toNat:Int)=(c.toNat:Int)+32:=by
 unfold wH; rw [if_pos h,UInt8.toNat_add]
 show (((c.toNat+32) % 256:Nat):Int)=_
 omega
theorem aFZ {c:UInt8} (h:¬ (65≤c.toNat∧c.toNat≤90)):wH c=c:=by unfold wH; rw [if_neg h]
section
variable {s:List UInt8} {h0:aA} {Q:AV→aA→Prop}
theorem aC4 {v:AV} {i:Nat} {h:aA} (hi:i<9223372036854775807) (hk:Y24.p0 (aI h0 Q) v v s.length (i+1:Nat) h):Y24.p2 (aI h0 Q) v v s.length i h:=by
 refine Y24.i2 ?_
 simp only [Y24.t2, ← Y24.p0.eq_1]
 exact inc (by omega) hk
theorem aKN (hs : s.length ≤ 9223372036854775807) : ∀ (r : List UInt8) (i : Nat) (v : AV) (h : aA), s.drop i = r → Tx h0 h v (gX (s.take i) ++ r) → Q (.s (gX s)) h0 → Y24.p0 (aI h0 Q) v v s.length i h := by
 intro r
 induction r with
 | nil =>
  intro i v h hr T hq
  have hl:=cA hr
  refine Y24.i0 ?_
  simp only [Y24.t0, ← Y24.p1.eq_1]
  rw [List.append_nil,List.take_of_length_le hl] at T
  exact aK (by simp; omega) (T.ret hq)
 | cons c r ih =>
  intro i v h hr T hq
  have hlt:=cG hr
  have hn:=bU hr
  have hc:=c.toNat_lt
  have hti:(gX (s.take i)).length=i:=by simp [gX]; omega
  have hat:(gX (s.take i)++c :: r)[i]? = some c:=by rw [List.getElem?_append_right (by omega),hti]; simp
  have hci:=b5 hr
  have htk:gX (s.take (i+1))=gX (s.take i)++[wH c]:=by
   rw [List.take_add_one,hci]; simp [gX]
  have key:∀ b,b=decide (65≤c.toNat∧c.toNat≤90)→Y24.p1 (aI h0 Q) v i (c.toNat:Int) v s.length i b h:=by
   intro b hb
   refine Y24.i1 ?_
   simp only [Y24.t1, ← Y24.p2.eq_1]
   refine aG (fun e=>?_) fun e=>?_
   ·subst e
    have hu:65≤c.toNat∧c.toNat≤90:=by simpa using hb.symm
    refine aJ (gO (by omega) (by omega)) ?_
    refine aJ (n:=((wH c).toNat:Int)) (by rw [aF4 hu,gO (by omega) (by omega)]; omega) ?_
    refine T.store (by rw [List.length_append]; simp [hti]) fun h' T'=>aC4 (by omega) (ih (i+1) v h' hn ?_ hq)
    rw [htk,List.append_assoc]
    rw [List.set_append_right _ _ (by omega),hti,Nat.sub_self] at T'
    exact T'
   ·subst e
    have hu:¬ (65≤c.toNat∧c.toNat≤90):=by simpa using hb.symm
    refine aC4 (by omega) (ih (i+1) v h hn ?_ hq)
    rw [htk,aFZ hu,List.append_assoc]; exact T
  refine Y24.i0 ?_
  simp only [Y24.t0, ← Y24.p1.eq_1]
  refine aM (by simp; omega) (T.load hat (aU ?_))
  refine aG (fun e=>key _ ?_) fun e=>key _ ?_
  ·simp only [decide_eq_true_eq] at e
   rw [decide_eq_decide]; omega
  ·simp only [decide_eq_false_iff_not] at e
   symm; simp; omega
theorem aEZ {h:aA} (hs:s.length≤9223372036854775807) (hk:Q (.s (gX s)) h):C Y24.id [.s s] h Q:=by
 refine Y24.call ?_
 simp only [Y24.t, ← Y24.p0.eq_1]
 exact Tx.ofStr fun v h' T=>T.arr.rd.len (aKN hs s 0 v h' rfl (by simpa [gX] using T) hk)
end
section
variable {h:aA} {Q:AV→aA→Prop}
end
end Go.Proofs.YtcdkpkkdolmfdaaGreatDoor
namespace Go.GAM
open Go.RowKit Go.ChangeShapes
section
variable {H:Type} {enc:TypeId × Value→H} {P:Program} {w:World} {szOf:Nat→Nat}
theorem qK {x : Addr} {len cap sz : Nat} {vs : List Value} (hl : len ≤ cap) (hc0 : cap ≠ 0) (hz : 0 < sz) (hs : szOf x.block ≤ sz) (hlen : vs.length = cap * sz) (hv : ∀ i, i < vs.length → w.cell? (x.add i) = some (vs.getD i undef)) :
  ∃ ver b,mG w szOf (.slice (some x) len cap) = .sl (some ⟨x.block,ver,x.off⟩) len (some cap)∧(lC w szOf)[x.block]? = some b∧b.floor≤ver∧ver≤b.cells.length∧x.off+len * sz≤ver∧(b.cells.drop x.off).take (len * sz)=(vs.take (len * sz)).map (mG w szOf):=by
 obtain ⟨B,off,spot⟩:=x
 simp only at hs ⊢
 have hpos:0<vs.length:=by rw [hlen]; exact Nat.mul_pos (by omega) hz
 have cellAdd:∀ i v,spot=none→w.cell? ((⟨B,off,spot⟩:Addr).add i)=some v→∃ c el fr,w.heap[B]? = some (.cells c el fr)∧c[off+i]? = some v:=by
  intro i v hs h
  subst hs
  have e:(⟨B,off,none⟩:Addr).add i=⟨B,off+i,none⟩:=by
   unfold Addr.add
   by_cases hi:i=0
   ·subst hi; simp
   ·simp [hi]
  rw [e] at h
  unfold World.cell? at h
  split at h
  ·rename_i c el fr hh
   exact ⟨c,el,fr,hh,by simpa using h⟩
  ·cases h
 have hsp:spot=none:=by
  have h0:=hv 0 hpos
  unfold World.cell? at h0
  split at h0
  ·cases spot with
   | none=>rfl
   | some s=>simp [Addr.add] at h0
  ·cases h0
 subst hsp
 obtain ⟨c,el,fr,hh,_⟩:=cellAdd 0 _ rfl (hv 0 hpos)
 ·have hcell : ∀ i, i < vs.length → c[off + i]? = some (vs.getD i undef) := fun i hi => by
   obtain ⟨c',el',fr',h1,h2⟩:=cellAdd i _ rfl (hv i hi)
   rw [hh] at h1; cases h1; exact h2
  have hsize:off+cap * sz≤c.size:=by
   have:=hcell (vs.length - 1) (by omega)
   have:=(Array.getElem?_eq_some_iff.1 this).1
   omega
  have hshape:w.shape? B=some (el,c.size):=by unfold World.shape?; rw [hh]
  have hlc:len * sz≤cap * sz:=Nat.mul_le_mul_right _ hl
  have hsz2:cap * szOf B≤cap * sz:=Nat.mul_le_mul_left _ hs
  refine ⟨c.size,qW w szOf B, ?_,vS (qH hshape), ?_, ?_,by omega, ?_⟩
  ·simp only [mG, tL]
   rw [if_neg hc0,hshape]
   simp only
   rw [if_pos ⟨hl,by omega⟩]
  ·unfold qW; rw [hh]; exact Nat.le_refl _
  ·unfold qW; rw [hh]; simp
  ·unfold qW; rw [hh]
   simp only
   apply List.ext_getElem?
   intro i
   by_cases hi:i<len * sz
   ·rw [List.getElem?_take_of_lt hi, List.getElem?_drop, List.getElem?_map, Array.getElem?_toList, hcell i (by omega), List.getElem?_map, List.getElem?_take_of_lt hi]
    rw [List.getD_eq_getElem?_getD,List.getElem?_eq_getElem (by omega:i<vs.length)]
    first | done | rfl
   ·rw [List.getElem?_eq_none (by simp; omega),List.getElem?_eq_none (by simp; omega)]
theorem y8 {held : Bool} {t e : TypeId} {fuel : Nat} {cs : List Value} {x : DataW H × List MemPlace} (ht : P.underlying t = some (.slice e)) (h : DataW.trod enc P w 0 (fun _ => true) held fuel t cs = some x) :
  cs=[.slice none 0 0]∧x.1 = .nil∨∃ (a:Addr) (len cap n:Nat) (rows:List (List Value)) (ds rs:List (DataW H)),fuel=n+1∧cs=[.slice (some a) len cap]∧x.1 = .slice ds rs∧ds.length=len∧len≤cap∧cap≤maxLen∧rows.length=cap ∧
   (∀ r∈rows,r.length=P.cellsOf e∧∃ y,DataW.trod enc P w 0 (fun _=>true) held n e r=some y)∧(∀ (i:Nat) (r:List Value) (d:DataW H),rows[i]? = some r→ds[i]? = some d→∃ p,DataW.trod enc P w 0 (fun _=>true) held n e r=some (d,p))∧∀ i,i<rows.flatten.length→w.cell? (a.add i)=some (rows.flatten.getD i undef):=by
 rcases DataW.trod_slice ht h with ⟨h0,h1⟩ | ⟨a,len,cap,elems,rest,n,hf,rfl,hx,hb,hl,hm,hlen,hel,hsp,hns⟩
 ·exact .inl ⟨h0,by rw [h1]⟩
 right
 have each:∀ i,i<cap→∃ r,w.cells? 0 (a.add (i * P.cellsOf e)) (P.cellsOf e)=some r∧∃ y,DataW.trod enc P w 0 (fun _=>true) held n e r=some y∧(i<len→elems[i]? = some y):=by
  intro i hi
  have hb':∃ y,(w.cells? 0 (a.add (i * P.cellsOf e)) (P.cellsOf e)).bind (DataW.trod enc P w 0 (fun _=>true) held n e)=some y∧(i<len→elems[i]? = some y):=by
   by_cases h1:i<len
   ·rw [hel i h1]
    exact ⟨_,List.getElem?_eq_getElem (by omega),fun _=>List.getElem?_eq_getElem (by omega)⟩
   ·obtain ⟨h2, h3⟩ := hsp rfl
    have:=h3 (i - len) (by omega)
    rw [show len+(i - len)=i by omega] at this
    rw [this]
    exact ⟨_,List.getElem?_eq_getElem (by omega),fun h=>absurd h h1⟩
  obtain ⟨y,hy,hy2⟩:=hb'
  obtain ⟨r,h1,h2⟩:=Option.bind_eq_some_iff.1 hy
  exact ⟨r,h1,y,h2,hy2⟩
 refine ⟨a,len,cap,n,(List.range cap).map fun i=>(w.cells? 0 (a.add (i * P.cellsOf e)) (P.cellsOf e)).getD [],elems.map (·.1),rest.map (·.1),hf,rfl,by rw [hx],by simp [hlen],hl,hm,by simp, ?_, ?_, ?_⟩
 ·intro r hr
  obtain ⟨i,hi,rfl⟩:=List.mem_map.1 hr
  obtain ⟨r,h1,y,h2,_⟩:=each i (by simpa using hi)
  rw [h1]
  exact ⟨(World.cells?_some h1).2.1,y,h2⟩
 ·intro i r d hr hd
  simp only [List.getElem?_map,Option.map_eq_some_iff] at hr hd
  obtain ⟨i',hi',rfl⟩:=hr
  obtain ⟨hlt,rfl⟩:=List.getElem?_eq_some_iff.1 hi'
  rw [List.getElem_range]
  obtain ⟨y,hy,rfl⟩:=hd
  obtain ⟨r,h1,y',h2,h3⟩:=each i (by simpa using hlt)
  have hil:i<elems.length:=(List.getElem?_eq_some_iff.1 hy).1
  have:=h3 (by omega)
  rw [hy] at this
  cases this
  rw [h1]
  exact ⟨y.2,h2⟩
 ·have := wJ (w := w) (a := a) (sz := P.cellsOf e) ((List.range cap).map fun i => (w.cells? 0 (a.add (i * P.cellsOf e)) (P.cellsOf e)).getD []) 0 (fun i r hi => by
   simp only [List.getElem?_map,Option.map_eq_some_iff] at hi
   obtain ⟨i',hi',rfl⟩:=hi
   obtain ⟨hlt,rfl⟩:=List.getElem?_eq_some_iff.1 hi'
   rw [List.getElem_range]
   obtain ⟨r,h1,_⟩:=each i (by simpa using hlt)
   rw [h1]
   have hs:=World.cells?_some h1
   refine ⟨hs.2.1,fun j hj=>?_⟩
   have:=hs.2.2 j hj
   rw [Addr.add_add] at this
   rw [Nat.zero_add,this]
   simp [hs.2.1,hj])
  simpa using this
end
end Go.GAM
namespace Go.GAM
open Go.RowKit Go.ChangeShapes
theorem Upd.own {h h1 h2:aA} {id:Nat} (a:Upd (fun _=>False) h h1) (b:Upd (· = id) h1 h2) (hid:h.length≤id):Upd (fun _=>False) h h2:=a.trans b fun i hi e=>by omega
theorem Upd.then {h h1 h2:aA} (a:Upd (fun _=>False) h h1) (b:Upd (fun _=>False) h1 h2):Upd (fun _=>False) h h2:=a.trans b fun _ _ h=>h
theorem lE {zeros cs:List AV} {parts:List (Nat × Nat × AV)} {K:AV→Prop} (hf:fC zeros parts=some cs) (hk:K (.ag cs)):dO zeros parts K:=by
 unfold dO; rw [hf]; exact hk
def RdI (sz:Nat) (h:aA) (v:AV) (cs:List AV) (len:Nat):Prop:=
 (v = .sl none 0 none∧len=0∧cs=[])∨(len=0∧cs=[]∧∃ a c,v = .sl (some a) 0 c)∨∃ id ver off cap b,v = .sl (some ⟨id,ver,off⟩) len cap∧h[id]? = some b∧b.floor≤ver∧ver≤b.cells.length∧off+len * sz≤ver∧(b.cells.drop off).take (len * sz)=cs
theorem Rd.i {sz:Nat} {h:aA} {v:AV} {cs:List AV} {len:Nat} (R:Rd sz h v cs len):RdI sz h v cs len:=by
 rcases R with h1 | ⟨id,ver,off,cap,b,h1,h2,h3,h4⟩
 ·exact .inl h1
 ·exact .inr (.inr ⟨id,ver,off,cap,b,h1,h2,h4⟩)
theorem kW.i {sz:Nat} {h:aA} {v:AV} {cs:List AV} {len:Nat} (R:kW sz h v cs len):RdI sz h v cs len:=by
 rcases R with R | h1
 ·exact R.i
 ·exact .inr (.inl h1)
theorem RdI.ext {sz:Nat} {h h':aA} {v:AV} {cs:List AV} {len:Nat} (R:RdI sz h v cs len) (U:Upd (fun _=>False) h h'):RdI sz h' v cs len:=by
 rcases R with h1 | h1 | ⟨id,ver,off,cap,b,rfl,h2,h3⟩
 ·exact .inl h1
 ·exact .inr (.inl h1)
 ·exact .inr (.inr ⟨id,ver,off,cap,b,rfl,(U.2 id (bM h2) fun h=>h).trans h2,h3⟩)
theorem RdI.len {sz:Nat} {h:aA} {v:AV} {cs:List AV} {len:Nat} (R:RdI sz h v cs len) {K:Int→Prop} (hk:K len):bP v K:=by
 rcases R with ⟨rfl,rfl,rfl⟩ | ⟨rfl,_,a,c,rfl⟩ | ⟨id,ver,off,cap,b,rfl,h2⟩ <;> exact hk
theorem RdI.isSl {sz:Nat} {h:aA} {v:AV} {cs:List AV} {len:Nat} (R:RdI sz h v cs len):∃ a n c,v = .sl a n c:=by
 rcases R with ⟨rfl,rfl,rfl⟩ | ⟨rfl,_,a,c,rfl⟩ | ⟨id,ver,off,cap,b,rfl,h2⟩ <;> exact ⟨_,_,_,rfl⟩
def aC3 (sz:Nat) (h:aA) (p:AV) (cs:List AV):Prop:=∃ id ver off,p = .p (some ⟨id,ver,off⟩)∧∃ b:ABlk,h[id]? = some b∧b.floor≤ver∧ver≤b.cells.length∧off+sz≤ver∧(b.cells.drop off).take sz=cs
theorem RdI.at {sz:Nat} {h:aA} {v:AV} {cs:List AV} {len:Nat} (R:RdI sz h v cs len) {i:Nat} (h1:i<len):∃ p,aC3 sz h p ((cs.drop (i * sz)).take sz)∧∀ (k:IntKind) (h':aA) (K:AV→Prop),Upd (fun _=>False) h h'→K p→aE sz v (.i k (i:Int)) h' K:=by
 rcases R with ⟨rfl,rfl,rfl⟩ | ⟨rfl,_⟩ | ⟨id,ver,off,cap,b,rfl,h2,h4,h5,h6,rfl⟩
 ·omega
 ·omega
 ·have e1 : (i + 1) * sz ≤ len * sz := Nat.mul_le_mul_right _ (by omega)
  rw [Nat.add_mul] at e1
  refine ⟨.p (some ⟨id,ver,off+i * sz⟩),⟨id,ver,off+i * sz,rfl,b,h2,h4,h5,by omega, ?_⟩,fun k h' K U hk=>?_⟩
  ·rw [List.drop_take,List.drop_drop,List.take_take,Nat.min_eq_left (by omega)]
  ·refine ⟨by omega, by omega, ⟨b, (U.2 id (bM h2) fun h => h).trans h2, h4, by omega⟩, ?_⟩
   simpa using hk
theorem aC3.ext {sz:Nat} {h h':aA} {p:AV} {cs:List AV} (A:aC3 sz h p cs) (U:Upd (fun _=>False) h h'):aC3 sz h' p cs:=by
 obtain ⟨id,ver,off,rfl,b,h1,h2⟩:=A
 exact ⟨id,ver,off,rfl,b,(U.2 id (bM h1) fun h=>h).trans h1,h2⟩
theorem aC3.loadN {sz:Nat} {h:aA} {p:AV} {cs:List AV} (A:aC3 sz h p cs) {K:AV→Prop} (hk:K (.ag cs)):aB sz p h K:=by
 obtain ⟨id,ver,off,rfl,b,h1,h2,h3,h4,rfl⟩:=A
 exact ⟨b,h1,⟨h2,h3,h4⟩,hk⟩
theorem aC3.load1 {h:aA} {p:AV} {c:AV} (A:aC3 1 h p [c]) {K:AV→Prop} (hk:K c):aC p h K:=by
 obtain ⟨id,ver,off,rfl,b,h1,h2,h3,h4,h5⟩:=A
 refine ⟨b,h1,⟨h2,h3,h4⟩, ?_⟩
 have:b.cells[off]? = some c:=by
  have:((b.cells.drop off).take 1)[0]? = some c:=by rw [h5] <;> rfl
  rw [List.getElem?_take_of_lt (by omega),List.getElem?_drop] at this
  simpa using this
 show K (b.cells.getD off .u)
 rw [getD_some this]; exact hk
theorem RdI.str {h h':aA} {v:AV} {l:List (List UInt8)} (R:RdI 1 h v (l.map .s) l.length) (U:Upd (fun _=>False) h h') {k:IntKind} {i:Nat} {x:List UInt8} (hx:l[i]? = some x) {K:List UInt8→Prop} (hk:K x):aE 1 v (.i k (i:Int)) h' fun a=>aC a h' fun y=>asS y K:=by
 obtain ⟨p,A,hp⟩:=R.at (bM hx)
 have e:((l.map AV.s).drop (i * 1)).take 1=[.s x]:=by
  rw [Nat.mul_one, ← List.map_drop,fB hx] <;> rfl
 rw [e] at A
 exact hp k h' _ U ((A.ext U).load1 (aZ hk))
section
variable {H:Type} {enc:TypeId × Value→H} {P:Program} {w:World} {t:TypeId} {cs:List Value}
end
end Go.GAM
namespace Go.GAM
open Go.RowKit
end Go.GAM
namespace Go.Proofs.YtcdkpkkdolmfdaaGreatDoor
open Go.GAM Go.RowKit
structure dP where
 serial:List UInt8
 issuer:List UInt8
 subject:List UInt8
 frm:Int
 til:Int
 names:List (List UInt8)
 auth:Bool
 key:List UInt8
def fT (c:dP) (v:AV):List AV:=[.s c.serial,.s c.issuer,.s c.subject,.i .i64 c.frm,.i .i64 c.til,v,.b c.auth,.s c.key]
def CV (h:aA) (c:dP) (cs:List AV):Prop:=∃ v,cs=fT c v∧RdI 1 h v (c.names.map .s) c.names.length
theorem CV.ext {h h':aA} {c:dP} {cs:List AV} (A:CV h c cs) (U:Upd (fun _=>False) h h'):CV h' c cs:=by
 obtain ⟨v,h1,h2⟩:=A; exact ⟨v,h1,h2.ext U⟩
theorem CV.len {h:aA} {c:dP} {cs:List AV} (A:CV h c cs):cs.length=8:=by obtain ⟨v,rfl,_⟩:=A; rfl
theorem CV.ok {h:aA} {c:dP} {cs:List AV} (A:CV h c cs):cs.all AV.cellOK=true:=by
 obtain ⟨v,rfl,R⟩:=A
 obtain ⟨a,n,k,rfl⟩:=R.isSl
 rfl
theorem aKJ:aBY prog 9 (fun l:List UInt8=>AV.s l):=aHP Tryz.underlying9
end Go.Proofs.YtcdkpkkdolmfdaaGreatDoor
namespace Go.GAM
def num (n:Nat):AV:=.i .i64 (n:Int)
end Go.GAM
namespace Go.Proofs.YtcdkpkkdolmfdaaGreatDoor
open Go.GAM Go.RowKit
def tR (a:List UInt8):List (List UInt8)→List (List UInt8)
 | []=>[a]
 | b :: l=>(a++b) :: l
def cS (sp:UInt8):List UInt8→List (List UInt8)
 | []=>[[]]
 | c :: r=>if c=sp then [] :: cS sp r else tR [c] (cS sp r)
section
variable {sp:UInt8}
theorem lG (sp:UInt8) (s:List UInt8):cS sp s≠[]:=by
 cases s with
 | nil=>simp [cS]
 | cons c r =>
  unfold cS
  split
  ·simp
  ·cases cS sp r <;> simp [tR]
theorem aA8 {l:List (List UInt8)} (h:l≠[]):tR [] l=l:=by cases l with | nil=>exact absurd rfl h | cons a l=>rfl
theorem aHH (a b:List UInt8) (l:List (List UInt8)):tR a (tR b l)=tR (a++b) l:=by cases l <;> simp [tR]
theorem aBP (a:List UInt8) {l:List (List UInt8)} (h:l≠[]):(tR a l).length=l.length:=by cases l with
 | nil=>exact absurd rfl h
 | cons b l=>rfl
theorem oM:∀ s:List UInt8,(cS sp s).length=Lib.countByte s sp+1
 | []=>rfl
 | c :: r => by
  have:=oM r
  unfold Lib.countByte at this ⊢
  unfold cS
  split
  ·rename_i h; subst h; simp [this]
  ·rename_i h
   rw [aBP _ (lG sp r),this,List.count_cons_of_ne h]
theorem uU : ∀ s : List UInt8, Lib.indexByte s sp < 0 → cS sp s = [s]
 | [],_=>rfl
 | c :: r, h => by
  unfold Lib.indexByte at h
  split at h
  ·omega
  ·rename_i h1
   split at h
   ·rename_i h2
    rw [cS,if_neg (by simpa using h1),uU r (by simp at h2; omega)] <;> rfl
   ·have := Lib.indexByte_ge r sp
    rename_i h2
    simp at h2; omega
theorem uZ : ∀ (s : List UInt8) (m : Nat), Lib.indexByte s sp = (m : Int) → m < s.length ∧ cS sp s = s.take m :: cS sp (s.drop (m + 1))
 | [],m,h=>by simp [Lib.indexByte] at h
 | c :: r, m, h => by
  unfold Lib.indexByte at h
  split at h
  ·rename_i h1
   have:m=0:=by omega
   subst this
   simp at h1
   subst h1
   exact ⟨by simp,by simp [cS]⟩
  ·rename_i h1
   split at h
   ·omega
   ·rename_i h2
    have:=Lib.indexByte_ge r sp
    simp at h1 h2
    obtain ⟨m',hm'⟩:∃ m':Nat,Lib.indexByte r sp=(m':Int):=⟨(Lib.indexByte r sp).toNat,by omega⟩
    have:m=m'+1:=by omega
    subst this
    obtain ⟨h3,h4⟩:=uZ r m' hm'
    exact ⟨by simpa using h3,by rw [cS,if_neg h1,h4] <;> rfl⟩
section
variable {s:List UInt8} {h0:aA} {Q:AV→aA→Prop}
theorem aON {rest:List UInt8} {done:List (List UInt8)} {v:AV} {h:aA} (hd:done.length≤1000000) (A:fY 1 h0 h v (done.map AV.s++List.replicate 1 (.s [])) (done.length+1))
  (hq:∀ v h',eT h0 h' v ((done++[rest]).map .s)→Q v h'):Y32.p2 (aI h0 Q) rest v (done.length:Nat) h:=by
 refine Y32.i2 ?_
 simp only [Y32.t2]
 refine A.arr.store (by omega) rfl rfl rfl fun h' U A'=>inc (by omega) ?_
 have e:(done.map AV.s++List.replicate 1 (AV.s [])).set done.length (AV.s rest)=(done++[rest]).map AV.s:=by
  rw [List.set_append_right _ _ (by simp)]; simp
 rw [e] at A'
 have S:=A'.stk.2
 have S':eT h0 h' v ((done++[rest]).map .s):=⟨A.upd.trans U fun i hi hs=>absurd (A.new i hs) (by omega),S,A.new⟩
 refine S'.cut (n:=done.length+1) (by simp) fun v' S2 F=>.inl (hq v' h' ?_)
 rw [List.take_of_length_le (by simp)] at S2
 exact S2
theorem aPQ : ∀ (k : Nat) (rest : List UInt8) (done : List (List UInt8)) (v : AV) (h : aA), (cS sp rest).length = k + 1 → done.length + k ≤ 1000000 → rest.length ≤ 100000 → fY 1 h0 h v (done.map AV.s ++ List.replicate (k + 1) (.s [])) (done.length + (k + 1)) →
  (∀ v h',eT h0 h' v ((done++cS sp rest).map .s)→Q v h')→Y32.p1 (aI h0 Q) rest [sp] 0 (done.length+k:Nat) v (done.length:Nat) h:=by
 intro k
 induction k with
 | zero =>
  intro rest done v h hk hd hr A hq
  refine Y32.i1 ?_
  simp only [Y32.t1, ← Y32.p1.eq_1, ← Y32.p2.eq_1]
  have e:cS sp rest=[rest]:=by
   rcases Int.lt_or_le (Lib.indexByte rest sp) 0 with h1 | h1
   ·exact uU rest h1
   ·obtain ⟨m, hm⟩ : ∃ m : Nat, Lib.indexByte rest sp = (m : Int) := ⟨(Lib.indexByte rest sp).toNat, by omega⟩
    obtain ⟨_,h2⟩:=uZ rest m hm
    rw [h2] at hk
    have:=lG sp (rest.drop (m+1))
    have:0<(cS sp (rest.drop (m+1))).length:=List.length_pos_iff.2 this
    simp only [List.length_cons] at hk; omega
  rw [e] at hq
  exact aK (by simp) (aON (by omega) A hq)
 | succ k ih =>
  intro rest done v h hk hd hr A hq
  refine Y32.i1 ?_
  simp only [Y32.t1, ← Y32.p1.eq_1, ← Y32.p2.eq_1]
  refine aM (by simp; omega) (aPT (aCM ?_))
  have h1:0≤Lib.indexByte rest sp:=by
   rcases Int.lt_or_le (Lib.indexByte rest sp) 0 with h1 | h1
   ·rw [uU rest h1] at hk; simp at hk
   ·exact h1
  obtain ⟨m,hm⟩:∃ m:Nat,Lib.indexByte rest sp=(m:Int):=⟨(Lib.indexByte rest sp).toNat,by omega⟩
  obtain ⟨h2,h3⟩:=uZ rest m hm
  rw [hm]
  refine aK (by simp) (aJ (n:=(m:Int)) (by rw [aL (by omega) (by omega)]; omega) (j3 (by omega) ?_))
  refine A.arr.store (by omega) rfl rfl rfl fun h' U A'=>?_
  refine aJ (n:=((m+1:Nat):Int)) (by rw [aL (by simp only [List.length_singleton]; omega) (by simp only [List.length_singleton]; omega)] <;> rfl) (iD (by omega) (inc (by omega) ?_))
  have e:(done.map AV.s++List.replicate (k+1+1) (AV.s [])).set done.length (AV.s (rest.take m))=(done++[rest.take m]).map AV.s++List.replicate (k+1) (AV.s []):=by
   rw [List.set_append_right _ _ (by simp)]; simp [List.replicate_succ]
  rw [e] at A'
  have hl:(done++[rest.take m]).length=done.length+1:=by simp
  have:=ih (rest.drop (m+1)) (done++[rest.take m]) v h' (by rw [h3] at hk; simpa using hk) (by rw [hl]; omega) (by simp; omega)
   ⟨A.upd.trans U fun i hi hs=>absurd (A.new i hs) (by omega),by rw [hl]; rw [show done.length+1+(k+1)=done.length+(k+1+1) by omega]; exact A',A.new⟩
   (by rw [h3] at hq; simpa using hq)
  rw [hl,show done.length+1+k=done.length+(k+1) by omega] at this
  exact this
theorem aLU {h:aA} (hs:s.length≤100000) (hq:∀ v h',eT h h' v ((cS sp s).map .s)→Q v h'):C Y97.id [.s s,.s [sp]] h Q:=by
 refine Y97.call ?_
 simp only [Y97.t]
 have hc:Lib.countByte s sp≤s.length:=List.count_le_length
 have hsl:=oM (sp:=sp) s
 refine Y32.call ?_
 simp only [Y32.t, ← Y32.p0.eq_1]
 refine aK rfl (aK rfl (aM rfl (aO2 (aCM (inc (by omega) ?_)))))
 refine Y32.i0 ?_
 simp only [Y32.t0, ← Y32.p1.eq_1]
 refine inc (by omega) ?_
 have hm:mmI false ((Lib.countByte s sp+1:Nat):Int) ((s.length+1:Nat):Int)=((Lib.countByte s sp+1:Nat):Int):=by
  unfold mmI
  simp only [cond_false]
  rw [if_neg (by omega)]
 rw [hm]
 refine aFM (by omega) (by omega) fun v h' A=>?_
 refine aJ (n:=((Lib.countByte s sp:Nat):Int)) (by rw [aL (by omega) (by omega)]; omega) ?_
 have:=aPQ (h0:=h) (Q:=fun v1 h2=>aI h Q v1 h2) (Lib.countByte s sp) s [] v h' hsl (by simp; omega) hs (by simpa using A) fun v h' S=>.inl (hq v h' (by simpa using S))
 simpa using this
end
end
end Go.Proofs.YtcdkpkkdolmfdaaGreatDoor
namespace Go.GAM
theorem kW.upd {sz:Nat} {M:Nat→Prop} {h h':aA} {v:AV} {cs:List AV} {len:Nat} (R:kW sz h v cs len) (U:Upd M h h') (hM:∀ id,bZ v id→id<h.length→¬ M id):kW sz h' v cs len:=by
 rcases R with R | R
 ·exact .inl (R.upd U fun id hs=>hM id hs (R.lt hs))
 ·exact .inr R
theorem kW.at {sz:Nat} {h:aA} {v:AV} {cs:List AV} {len:Nat} (R:kW sz h v cs len) (hl:len≠0):∃ id ver off cap b,v = .sl (some ⟨id,ver,off⟩) len cap∧mY sz h id ver off b cs len:=by
 rcases R.rd hl with ⟨_,h0,_⟩ | ⟨id,ver,off,cap,b,h1,h2,h3,h4,h5,h6,h7⟩
 ·exact absurd h0 hl
 ·exact ⟨id,ver,off,cap,b,h1,h2,h3,h4,h5,h6,h7⟩
theorem nG {sz:Nat} {h:aA} {id ver off:Nat} {b:ABlk} {cs:List AV} {len i:Nat} {r:List AV} {K:AV→Prop} (R:mY sz h id ver off b cs len) (hi:i<len) (hr:(cs.drop (i * sz)).take sz=r) (hk:K (.ag r)):aB sz (.p (some ⟨id,ver,off+i * sz⟩)) h K:=by
 have h1:(i+1) * sz≤len * sz:=Nat.mul_le_mul_right _ hi
 rw [Nat.add_mul] at h1
 have h2:=R.end_
 refine ⟨b,R.1,⟨R.3,R.4,by simp only; omega⟩, ?_⟩
 have e:(b.cells.drop (off+i * sz)).take sz=r:=by
  rw [← hr, ← R.cel,List.drop_take,List.drop_drop,List.take_take,Nat.min_eq_left (by omega)]
 simp only [e]
 exact hk
theorem j4 {sz:Nat}:∀ (rows:List (List AV)) (i:Nat) (r:List AV),(∀ r∈rows,r.length=sz)→rows[i]? = some r→(rows.flatten.drop (i * sz)).take sz=r
 | [],i,r,_,h=>by simp at h
 | a :: rows, 0, r, h1, h => by
  simp at h; subst h
  have:=h1 a (by simp)
  rw [List.flatten_cons,Nat.zero_mul,List.drop_zero, ← this,List.take_left']
  first | done | rfl
 | a :: rows, i + 1, r, h1, h => by
  have h2:=h1 a (by simp)
  have:=j4 rows i r (fun r hr=>h1 r (by simp [hr])) (by simpa using h)
  rw [List.flatten_cons,Nat.add_mul,Nat.one_mul,List.drop_append,List.drop_eq_nil_of_le (by omega),List.nil_append,show i * sz+sz - a.length=i * sz by omega]
  exact this
end Go.GAM
namespace Go.Proofs.YtcdkpkkdolmfdaaGreatDoor
open Go.GAM Go.RowKit
inductive Der where
 | mk (c t:Int) (m:Bool) (s:List UInt8) (ks:List Der)
mutual
def Der.sz:Der→Nat
 | .mk _ _ _ _ ks=>1+szs ks
def szs:List Der→Nat
 | []=>0
 | k :: r=>k.sz+szs r
end
theorem oO:∀ {ks:List Der} {k:Der},k∈ks→k.sz≤szs ks
 | [],k,h=>by cases h
 | a :: r, k, h => by
  unfold szs
  rcases List.mem_cons.1 h with rfl | h
  ·omega
  ·have:=oO h; omega
theorem oW:∀ ks:List Der,ks.length≤szs ks
 | []=>by simp [szs]
 | k :: r => by
  have:=oW r
  have:0<k.sz:=by cases k; unfold Der.sz; omega
  simp only [szs,List.length_cons]; omega
theorem eX (k:Der):0<k.sz:=by cases k; unfold Der.sz; omega
mutual
inductive DV (h:aA) (F:Nat→Prop):Der→List AV→Prop
 | mk {c t:Int} {m:Bool} {s:List UInt8} {ks:List Der} {v:AV} {rows:List (List AV)} (hks:DVs h F ks rows) (hv:kW 5 h v rows.flatten rows.length) (hF:∀ i,bZ v i→F i∧i<h.length) (hc:v.cellOK=true):DV h F (.mk c t m s ks) [.i .i64 c,.i .i64 t,.b m,.s s,v]
inductive DVs (h:aA) (F:Nat→Prop):List Der→List (List AV)→Prop
 | nil:DVs h F [] []
 | cons {k:Der} {ks:List Der} {r:List AV} {rows:List (List AV)} (hk:DV h F k r) (hks:DVs h F ks rows):DVs h F (k :: ks) (r :: rows)
end
theorem DV.len {h:aA} {F:Nat→Prop} {d:Der} {cs:List AV} (D:DV h F d cs):cs.length=5:=by cases D; rfl
theorem DVs.len5 {h:aA} {F:Nat→Prop}:∀ {ks:List Der} {rows:List (List AV)},DVs h F ks rows→∀ r∈rows,r.length=5
 | _,_,.nil,r,hr=>by cases hr
 | _, _, .cons hk hks, r, hr => by
  rcases List.mem_cons.1 hr with rfl | h
  ·exact hk.len
  ·exact hks.len5 r h
theorem DVs.length {h:aA} {F:Nat→Prop}:∀ {ks:List Der} {rows:List (List AV)},DVs h F ks rows→ks.length=rows.length
 | _,_,.nil=>rfl
 | _,_,.cons _ hks=>by simp [hks.length]
theorem DVs.get {h:aA} {F:Nat→Prop}:∀ {ks:List Der} {rows:List (List AV)} {i:Nat} {k:Der},DVs h F ks rows→ks[i]? = some k→∃ r,rows[i]? = some r∧DV h F k r
 | _,_,i,k,.nil,hi=>by simp at hi
 | _,_,0,k,.cons hk _,hi=>by simp at hi; subst hi; exact ⟨_,rfl,hk⟩
 | _, _, i + 1, k, .cons _ hks, hi => by
  obtain ⟨r,h1,h2⟩:=hks.get (i:=i) (by simpa using hi)
  exact ⟨r,by simpa using h1,h2⟩
theorem DVs.app {h:aA} {F:Nat→Prop}:∀ {ks:List Der} {rows:List (List AV)} {k:Der} {r:List AV},DVs h F ks rows→DV h F k r→DVs h F (ks++[k]) (rows++[r])
 | _,_,_,_,.nil,hk=>.cons hk .nil
 | _,_,_,_,.cons h1 hks,hk=>.cons h1 (hks.app hk)
theorem DV.upd_n {M F F' : Nat → Prop} {h h' : aA} (U : Upd M h h') (hM : ∀ i, F i → i < h.length → ¬ M i ∧ F' i) : ∀ n, (∀ d cs, d.sz ≤ n → DV h F d cs → DV h' F' d cs) ∧ ∀ ks rows, szs ks ≤ n → DVs h F ks rows → DVs h' F' ks rows := by
 intro n
 induction n with
 | zero =>
  refine ⟨fun d cs hd=>absurd hd (by have:=eX d; omega),fun ks rows hk D=>?_⟩
  cases D with
  | nil=>exact .nil
  | cons h1 h2=>rename_i k ks r rows; have:=eX k; unfold szs at hk; omega
 | succ n ih =>
  have hV:∀ d cs,d.sz≤n+1→DV h F d cs→DV h' F' d cs:=by
   intro d cs hd D
   cases D with
   | mk hks hv hF hc =>
    unfold Der.sz at hd
    exact .mk (ih.2 _ _ (by omega) hks) (hv.upd U fun i hs hl=>(hM i (hF i hs).1 hl).1) (fun i hs=>⟨(hM i (hF i hs).1 (hF i hs).2).2,Nat.lt_of_lt_of_le (hF i hs).2 U.1⟩) hc
  refine ⟨hV,fun ks rows=>?_⟩
  induction ks generalizing rows with
  | nil=>intro _ D; cases D; exact .nil
  | cons k ks ihk =>
   intro hk D
   unfold szs at hk
   cases D with
   | cons h1 h2=>exact .cons (hV _ _ (by omega) h1) (ihk _ (by omega) h2)
theorem DV.upd {M F F':Nat→Prop} {h h':aA} {d:Der} {cs:List AV} (D:DV h F d cs) (U:Upd M h h') (hM:∀ i,F i→i<h.length→¬ M i∧F' i):DV h' F' d cs:=(DV.upd_n U hM d.sz).1 d cs (Nat.le_refl _) D
theorem DVs.upd {M F F':Nat→Prop} {h h':aA} {ks:List Der} {rows:List (List AV)} (D:DVs h F ks rows) (U:Upd M h h') (hM:∀ i,F i→i<h.length→¬ M i∧F' i):DVs h' F' ks rows:=(DV.upd_n U hM (szs ks)).2 ks rows (Nat.le_refl _) D
theorem DV.ext {F:Nat→Prop} {h h':aA} {d:Der} {cs:List AV} (D:DV h F d cs) (U:Upd (fun _=>False) h h'):DV h' F d cs:=D.upd U fun i hi _=>⟨fun h=>h,hi⟩
def z5:List AV:=[.i .i64 0,.i .i64 0,.b false,.s [],.sl none 0 none]
def Der.zero:Der:=.mk 0 0 false [] []
theorem DV.zero (h:aA) (F:Nat→Prop):DV h F .zero z5:=.mk .nil (.inl (.inl ⟨rfl,rfl,rfl⟩)) (fun i hi=>hi.elim) rfl
theorem DV.leaf (h:aA) (F:Nat→Prop) (c t:Int) (m:Bool) (s:List UInt8):DV h F (.mk c t m s []) [.i .i64 c,.i .i64 t,.b m,.s s,.sl none 0 none]:=.mk .nil (.inl (.inl ⟨rfl,rfl,rfl⟩)) (fun i hi=>hi.elim) rfl
section
variable {h0:aA} {Q:AV→aA→Prop}
end
end Go.Proofs.YtcdkpkkdolmfdaaGreatDoor
namespace Go.GAM
theorem Rd.dropAt {sz:Nat} {h:aA} {v:AV} {cs:List AV} {len:Nat} (R:Rd sz h v cs len) (hz:0<sz) {lo:Nat} (h1:lo≤len) {K:AV→Prop} (hk:∀ v',Rd sz h v' (cs.drop (lo * sz)) (len - lo)→K v'):cX sz v (some (.i .i64 (lo:Int))) none none h K:=by
 rcases R with ⟨rfl,h0,rfl⟩ | ⟨id,ver,off,cap,b,rfl,g2,g3,g4,g5,g6,g7⟩
 ·have : lo = 0 := by omega
  subst this
  exact ⟨by simp,rfl,rfl,rfl,fun h=>by simp at h,hk _ (.inl ⟨rfl,by omega,by simp⟩)⟩
 ·have e1 : lo * sz ≤ len * sz := Nat.mul_le_mul_right _ h1
  have e3:(len - lo) * sz=len * sz - lo * sz:=Nat.sub_mul _ _ _
  refine ⟨hz,fun h=>by simp at h,by omega,by simpa using h1,b,g2,by omega,g4,.inl g3,.inl (Nat.le_refl _), ?_⟩
  refine hk _ (.inr ⟨id,ver,off+lo * sz,cap.map (· - lo),b,by simp,g2,g3,g4,g5,by omega, ?_⟩)
  rw [← g7,List.drop_take,List.drop_drop,e3]
theorem Rd.at {sz:Nat} {h:aA} {v:AV} {cs:List AV} {len:Nat} (R:Rd sz h v cs len) (hl:len≠0):∃ id ver off cap b,v = .sl (some ⟨id,ver,off⟩) len cap∧mY sz h id ver off b cs len:=by
 rcases R with ⟨_,h0,_⟩ | ⟨id,ver,off,cap,b,h1,h2,h3,h4,h5,h6,h7⟩
 ·exact absurd h0 hl
 ·exact ⟨id,ver,off,cap,b,h1,h2,h3,h4,h5,h6,h7⟩
theorem d7 {h:aA} {id ver off:Nat} {b:ABlk} {l:List Nat} {len i n:Nat} {K:Int→Prop} (R:mY 1 h id ver off b (l.map num) len) (hi:i<len) (hn:l[i]? = some n) (hk:K (n:Int)):aC (.p (some ⟨id,ver,off+i * 1⟩)) h fun y=>asI .i64 y K:=
 aF6 (o:=0) R hi Nat.one_pos (c:=num n) (by rw [Nat.mul_one,Nat.add_zero,List.getElem?_map,hn] <;> rfl) (aU hk)
theorem Rd.nat {h:aA} {v:AV} {l:List Nat} {len i n:Nat} {k:IntKind} {K:Int→Prop} (R:Rd 1 h v (l.map num) len) (hi:i<len) (hn:l[i]? = some n) (hk:K (n:Int)):aE 1 v (.i k (i:Int)) h fun a=>aC a h fun y=>asI .i64 y K:=
 R.cell Nat.one_pos hi (c:=num n) (by rw [Nat.mul_one,List.getElem?_map,hn] <;> rfl) (aU hk)
end Go.GAM
namespace Go.Proofs.YtcdkpkkdolmfdaaGreatDoor
open Go.GAM Go.RowKit
section
variable {h0:aA} {Q:AV→aA→Prop}
def Der.data:Der→List UInt8 | .mk _ _ _ s _=>s
def dB (tag:Int):Der→Bool | .mk c t m s ks=>decide (c=0)&&(decide (t=tag)&&(!m&&decide (ks.length=0)))
def bF (c t:Int) (m:Bool) (s:List UInt8):List AV:=[.i .i64 c,.i .i64 t,.b m,.s s,.sl none 0 none]
theorem lZ {d:Der} {cs:List AV} {F:Nat→Prop} {tag:Int} {h:aA} (D:DV h F d cs) (hq:Q (.b (dB tag d)) h):C Y45.id [.ag cs,.i .i64 tag] h Q:=by
 cases D with
 | @mk c t m s ks v rows Dk sv fv ov=>
 refine Y45.call ?_
 simp only [Y45.t, ← Y45.p0.eq_1]
 refine d3 rfl fun h1 hl1 U1 B=>?_
 have S1:=sv.upd U1 fun _ _ _ h=>h
 have p0:∀ b,b=(decide (c=0)&&(decide (t=tag)&&(!m&&decide (ks.length=0))))→Y45.p0 (aI h Q) b h1:=by
  intro b hb
  refine Y45.i0 ?_
  simp only [Y45.t0]
  subst hb
  exact aV rfl U1.ext hq
 refine aP (aO B rfl rfl (aU ?_))
 refine aG (fun e1=>aP (aO B rfl rfl (aU ?_))) fun e1=>p0 _ (by rw [e1] <;> rfl)
 refine aG (fun e2=>aP (aO B rfl rfl (aX ?_))) fun e2=>p0 _ (by rw [e1,e2] <;> rfl)
 refine aG (fun e3=>aP (aO B rfl rfl (S1.len (p0 _ ?_)))) fun e3=>p0 _ (by rw [e1,e2,e3] <;> rfl)
 rw [e1,e2,e3, ← Dk.length]
 simp
theorem DV.box {ty:Option TypeId} {d:Der} {cs:List AV} {F:Nat→Prop} {h:aA} (D:DV h F d cs) {K:AV→aA→Prop} (hk:∀ h1,h1.length=h.length+1→Upd (fun _=>False) h h1→bE h1 h.length cs→DV h1 F d cs→K (.p (some ⟨h.length,5,0⟩)) h1):eH ty (.ag cs) h K:=by
 refine d3 rfl fun h1 hl1 U1 B=>?_
 have hp:(AV.ag cs).parts.length=5:=D.len
 rw [hp]
 exact hk h1 hl1 U1 B (D.ext U1)
theorem DV.dat {d:Der} {cs:List AV} {F:Nat→Prop} {h:aA} (D:DV h F d cs):cs[3]? = some (.s d.data):=by cases D; rfl
theorem gN {a b:Nat} {K:Int→Prop} (hb:b≠0) (ha:a<9223372036854775808) (hk:K ((a / b:Nat):Int)):jK .i64 (a:Int) (b:Int) K:=by
 have h:=Nat.div_le_self a b
 refine aH2 (by omega) ?_ hk
 rw [Int.tdiv_eq_ediv_of_nonneg (by omega), ← Int.natCast_ediv]
 generalize a / b=y at h
 rw [aL (by omega) (by omega)]
def eQ (c:UInt8):Bool:=decide (48≤c.toNat)&&decide (c.toNat≤57)
theorem iB {c:UInt8} (h:eQ c=true):48≤c.toNat∧c.toNat≤57:=by
 unfold eQ at h; simpa using h
def rU:List UInt8→Nat→Bool→Option (List Nat)
 | [],_,begun=>if begun=true then none else some []
 | c :: r, n, begun => if begun = false ∧ c.toNat = 128 then none else if 268435456 ≤ n * 128 + c.toNat % 128 then none else
   if 128≤c.toNat then rU r (n * 128+c.toNat % 128) true else match rU r 0 false with
    | none=>none
    | some l=>some ((n * 128+c.toNat % 128) :: l)
def uT:List Nat→List UInt8
 | []=>[]
 | a :: r=>Lib.decDigits (min (a / 40) 2)++[46]++Lib.decDigits (a - 40 * min (a / 40) 2)++r.flatMap fun n=>46 :: Lib.decDigits n
def g8 (d:Der):List UInt8 × Bool:=if dB 6 d=true∧d.data≠[] then (match rU d.data 0 false with
 | none=>([],false)
 | some l=>(uT l,true)) else ([],false)
theorem kU {n : Nat} (h : n < 1000000000) : (Lib.decDigits n).length ≤ 10 := by
 have key:∀ k n,n<10 ^ k→1≤k→(Lib.decDigits n).length≤k:=by
  intro k
  induction k with
  | zero=>intro n _ h; omega
  | succ k ih =>
   intro n hn _
   rw [Lib.decDigits]
   split
   ·simp
   ·rename_i h10
    have hk:1≤k:=by
     rcases Nat.eq_zero_or_pos k with h | h
     ·subst h; simp at hn; omega
     ·exact h
    have:=ih (n / 10) (by rw [Nat.pow_succ] at hn; omega) hk
    simp only [List.length_append,List.length_singleton]; omega
 exact key 10 n (by omega) (by omega)
theorem aFY (a b:Nat):mmI false (a:Int) (b:Int)=((min a b:Nat):Int):=by
 unfold mmI
 simp only [cond_false]
 split <;> omega
def aLZ (x:List UInt8 × Bool):AV:=.tu [.s x.1,.b x.2]
def aDK:Option (List Nat)→List Nat→List UInt8 × Bool
 | none,_=>([],false)
 | some l,done=>(uT (done++l),true)
end
end Go.Proofs.YtcdkpkkdolmfdaaGreatDoor
namespace Go.GAM
theorem mY.drop {sz:Nat} {h:aA} {id ver off:Nat} {b:ABlk} {cs:List AV} {len lo:Nat} {cap:Option Nat} {K:AV→Prop} (A:mY sz h id ver off b cs len) (hz:0<sz) (h1:lo≤len) (hk:K (.sl (some ⟨id,ver,off+lo * sz⟩) (len - lo) (cap.map (· - lo)))):cX sz (.sl (some ⟨id,ver,off⟩) len cap) (some (.i .i64 (lo:Int))) none none h K:=by
 refine ⟨hz,fun h=>by simp at h,by omega,by simpa using h1,b,A.blk,by have:=A.flo; have:=A.vle; omega,A.flo,.inl A.siz,.inl (Nat.le_refl _),by simpa using hk⟩
theorem mY.dropRd {sz:Nat} {h:aA} {id ver off:Nat} {b:ABlk} {cs:List AV} {len lo:Nat} (A:mY sz h id ver off b cs len) (h1:lo≤len) (cap:Option Nat):Rd sz h (.sl (some ⟨id,ver,off+lo * sz⟩) (len - lo) cap) (cs.drop (lo * sz)) (len - lo):=by
 have e1:lo * sz≤len * sz:=Nat.mul_le_mul_right _ h1
 have e3:(len - lo) * sz=len * sz - lo * sz:=Nat.sub_mul _ _ _
 have e4:=A.end_
 refine .inr ⟨id,ver,off+lo * sz,cap,b,rfl,A.blk,A.siz,A.flo,A.vle,by omega, ?_⟩
 rw [← A.cel,List.drop_take,List.drop_drop,e3]
theorem fY.one {h0 h:aA} (U:Upd (fun _=>False) h0 h) {x:AV} {zeros:List AV} (hf:fC zeros [(0,1,x)]=some [x]) {K:AV→aA→Prop} (hk:∀ v h',fY 1 h0 h' v [x] 1→Upd (fun _=>False) h h'→(∀ i,bZ v i→h.length≤i)→K v h'):aN 1 1 zeros [(0,1,x)] h K:=by
 unfold aN
 rw [hf]
 refine ⟨rfl,hk _ _ ⟨U.trans (Upd.app _ _) fun _ _ h=>h,.inr ⟨h.length,bR [x] 1 true,rfl,by simp,rfl,rfl,rfl,Nat.le_refl _,rfl,rfl⟩,fun i hi=>?_⟩ (Upd.app _ _) fun i hi=>?_⟩
 ·cases hi; exact U.1
 ·cases hi; exact Nat.le_refl _
end Go.GAM
namespace Go.Proofs.YtcdkpkkdolmfdaaGreatDoor
open Go.GAM Go.RowKit
def fH (l:List UInt8):Nat:=l.foldl (fun n c=>n * 10+(c.toNat - 48)) 0
theorem pW (l:List UInt8) (c:UInt8):fH (l++[c])=fH l * 10+(c.toNat - 48):=by simp [fH]
theorem aBR:∀ n (l:List UInt8),l.length=n→l.all eQ=true→fH l<10 ^ n:=by
 intro n
 induction n with
 | zero=>intro l hl _; rw [List.eq_nil_of_length_eq_zero hl]; decide
 | succ n ih =>
  intro l hl ha
  have hne:l≠[]:=fun h=>by rw [h] at hl; simp at hl
  have e:=List.dropLast_concat_getLast hne
  rw [← e,List.all_append,Bool.and_eq_true] at ha
  have h1:=ih l.dropLast (by rw [List.length_dropLast]; omega) ha.1
  have h2:=ha.2
  simp only [List.all_cons,List.all_nil,Bool.and_true] at h2
  have h2:=iB h2
  rw [← e,pW,Nat.pow_succ]
  omega
def nO (s:List UInt8):Prop:=s.getD 0 0=48∧1<s.length
instance (s:List UInt8):Decidable (nO s):=by unfold nO; infer_instance
def jB (s:List UInt8):Option Nat:=if s≠[]∧s.length≤9∧¬ nO s∧s.all eQ=true∧fH s<268435456 then some (fH s) else none
def r7:Nat→Nat→List UInt8
 | 0,n=>[UInt8.ofNat (n % 128)]
 | k+1,n=>UInt8.ofNat (n / 2 ^ (7 * (k+1)) % 128+128) :: r7 k n
def rW (n:Nat):Nat:=if n<128 then 0 else if n<16384 then 1 else if n<2097152 then 2 else 3
def mX (n:Nat):List UInt8:=r7 (rW n) n
def cU : List (List UInt8) → Option (List Nat)
 | []=>some []
 | w :: r => match jB w with
  | none=>none
  | some n => match cU r with
   | none=>none
   | some l=>some (n :: l)
def sV (l:List Nat):Except Int (List UInt8):=match l with
 | a :: b :: r=>if 2<a∨(a<2∧40≤b)∨268435456≤40 * a+b then .error 2 else .ok (((40 * a+b) :: r).flatMap mX)
 | _=>.error 2
def g9 (s : List UInt8) : Except Int (List UInt8) :=
 if 256<s.length then .error 3 else match cU (cS 46 s) with
  | none=>.error 2
  | some l=>sV l
theorem gG (w:List UInt8) (r:List (List UInt8)):cU (w :: r)=match jB w with
  | none=>none
  | some n => match cU r with
   | none=>none
   | some l=>some (n :: l):=by rw [cU]
theorem vP {l:List Nat} (h:l.length<2):sV l = .error 2:=by
 match l,h with
 | [],_=>rfl
 | [a],_=>rfl
theorem aOF {l:List Nat} (h:¬ l.length<2):∃ a b r,l=a :: b :: r:=by
 match l,h with
 | [],h=>simp at h
 | [a],h=>simp at h
 | a :: b :: r,_=>exact ⟨a,b,r,rfl⟩
theorem z7 {s:List UInt8} {n:Nat} (h:jB s=some n):n<268435456:=by
 unfold jB at h
 split at h
 ·rename_i hc; cases h; exact hc.2.2.2.2
 ·cases h
theorem r9 : ∀ {ws : List (List UInt8)} {l : List Nat}, cU ws = some l → (∀ n ∈ l, n < 268435456) ∧ l.length = ws.length
 | [],l,h=>by cases h; simp
 | w :: r, l, h => by
  unfold cU at h
  split at h
  ·cases h
  ·rename_i n hn
   split at h
   ·cases h
   ·rename_i l' hl
    cases h
    have:=r9 hl
    refine ⟨fun m hm=>?_,by simp [this.2]⟩
    rcases List.mem_cons.1 hm with rfl | hm
    ·exact z7 hn
    ·exact this.1 m hm
section
variable {h0:aA} {Q:AV→aA→Prop}
def aPJ (h:aA) (Q:AV→aA→Prop):Option Nat→Prop
 | some n=>Q (.tu [.i .i64 (n:Int),.b true]) h
 | none=>∀ x,Q (.tu [.i .i64 x,.b false]) h
theorem aKO {s : List UInt8} {h : aA} (hq : aPJ h Q (jB s)) : C Y25.id [.s s] h Q := by
 refine Y25.call ?_
 simp only [Y25.t, ← Y25.p0.eq_1]
 have p0bad:jB s=none→Y25.p0 (aI h Q) s true h:=by
  intro hn
  rw [hn] at hq
  refine Y25.i0 ?_
  simp only [Y25.t0]
  exact aM rfl (.inl (hq 0))
 have p0ok : s ≠ [] → s.length ≤ 9 → ¬ nO s → Y25.p0 (aI h Q) s false h := by
  intro hne hl h48
  have go : ∀ (r : List UInt8) (i : Nat), s.drop i = r → i ≤ s.length → (s.take i).all eQ = true → Y25.p1 (aI h Q) s (fH (s.take i) : Nat) s.length i h := by
   intro r
   induction r with
   | nil =>
    intro i hr hi ha
    have hle:=cA hr
    rw [List.take_of_length_le hle] at ha ⊢
    have hb:=aBR s.length s rfl ha
    have hp:10 ^ s.length≤10 ^ 9:=Nat.pow_le_pow_right (by omega) hl
    refine Y25.i1 ?_
    simp only [Y25.t1]
    refine aK (by simp; omega) (.inl ?_)
    unfold jB at hq
    by_cases h28:fH s<268435456
    ·rw [if_pos ⟨hne, hl, h48, ha, h28⟩] at hq
     rw [decide_eq_true (by omega)]; exact hq
    ·rw [if_neg (fun hh => h28 hh.2.2.2.2)] at hq
     rw [decide_eq_false (by omega)]; exact hq _
   | cons c r ih =>
    intro i hr hi ha
    have hlt:=cG hr
    have hn:=bU hr
    have hci:=b5 hr
    have hb:=aBR i (s.take i) (by rw [List.length_take]; omega) ha
    have hp:10 ^ i≤10 ^ 9:=Nat.pow_le_pow_right (by omega) (by omega)
    have p2:∀ b,b = !eQ c→Y25.p2 (aI h Q) s (fH (s.take i):Nat) i s.length i b h:=by
     intro b hb2
     refine Y25.i2 ?_
     simp only [Y25.t2, ← Y25.p1.eq_1]
     cases hd:eQ c with
     | false =>
      rw [hd] at hb2
      have:jB s=none:=by
       unfold jB
       rw [if_neg (fun hh=>?_)]
       have h3:=hh.2.2.2.1
       rw [← List.take_append_drop i s,List.all_append,hr,List.all_cons,hd] at h3
       simp at h3
      rw [this] at hq
      exact aM hb2 (.inl (hq 0))
     | true =>
      rw [hd] at hb2
      have hdb:=iB hd
      refine aK hb2 ?_
      refine aJ (n:=((fH (s.take i) * 10:Nat):Int)) (by rw [aL (by omega) (by omega)]; omega) (cW hr ?_)
      refine aJ (n:=((c.toNat - 48:Nat):Int)) (by rw [gO (by omega) (by omega)]; omega) ?_
      refine aJ (n:=((fH (s.take (i+1)):Nat):Int)) ?_ (inc (by omega) (ih (i+1) hn (by omega) ?_))
      ·rw [cR hci,pW,aL (n:=((c.toNat - 48:Nat):Int)) (by omega) (by omega),aL (by omega) (by omega)]; omega
      ·rw [cR hci,List.all_append,ha]; simp [hd]
    unfold eQ at p2
    refine Y25.i1 ?_
    simp only [Y25.t1, ← Y25.p2.eq_1]
    refine aM (by simp; omega) (cW hr ?_)
    refine aG (fun e=>p2 _ ?_) fun e=>cW hr (p2 _ ?_)
    ·simp only [decide_eq_true_eq] at e
     rw [decide_eq_false (by omega:¬ 48≤c.toNat)] <;> rfl
    ·simp only [decide_eq_false_iff_not] at e
     rw [decide_eq_true (by omega:48≤c.toNat),Bool.true_and, ← decide_not,decide_eq_decide]; omega
  refine Y25.i0 ?_
  simp only [Y25.t0, ← Y25.p1.eq_1]
  exact aK rfl (go s 0 rfl (by omega) rfl)
 by_cases hne:s=[]
 ·exact aM (by simp [hne]) (p0bad (by unfold jB; rw [if_neg (fun hh=>hh.1 hne)]))
 refine aK (by simp [hne]) ?_
 by_cases hl:9<s.length
 ·exact aM (by simp; omega) (p0bad (by unfold jB; rw [if_neg (fun hh=>by have:=hh.2.1; omega)]))
 refine aK (by simp; omega) ?_
 obtain ⟨c,hc⟩:∃ c,s[0]? = some c:=⟨_,List.getElem?_eq_getElem (List.length_pos_iff.2 hne)⟩
 have hg:s.getD 0 0=c:=getD_some hc
 refine wF (i:=0) hc ?_
 rw [show (48:Int)=(((48:UInt8).toNat:Nat):Int) from rfl,iA]
 by_cases h48:c=48
 ·refine aM (by simp [h48]) ?_
  by_cases h1:1<s.length
  ·rw [decide_eq_true (by omega)]
   refine p0bad ?_
   unfold jB
   rw [if_neg (fun hh=>hh.2.2.1 ⟨by rw [hg,h48],h1⟩)]
  ·rw [decide_eq_false (by omega)]
   exact p0ok hne (by omega) (fun hh=>h1 hh.2)
 ·refine aK (by simp [h48]) (p0ok hne (by omega) (fun hh=>h48 (by rw [← hg]; exact hh.1)))
def aKT:Except Int (List UInt8)→AV
 | .error e=>.tu [.ag z5,.i .i64 e]
 | .ok l=>.tu [.ag (bF 0 6 false l),.i .i64 0]
theorem aDD {x:Nat} (hx:x<2 ^ 62):cI .and .i64 (x:Int) 127=((x % 128:Nat):Int):=qL (n:=7) hx (by omega)
theorem aPM {x:Nat} (hx:x<128):cI .or .i64 (x:Int) 128=((x+128:Nat):Int):=by
 have h:∀ x,x<128→x ||| 128=x+128:=by decide +kernel
 have:=qT (x:=x) (y:=128) (by omega) (by omega)
 rw [h x hx] at this
 exact this
theorem pE {h h1 hx:aA} {id:Nat} {z:List AV} {c t e:Int} {s:List UInt8} (hz:z.length=5) (R:bE hx id z) (hid:h.length≤id) (U:Upd (fun _=>False) h hx) (hq:∀ h',Upd (fun _=>False) h h'→Q (.tu [.ag (bF c t false s),.i .i64 e]) h') :
  aS 5 (.p (some ⟨id,5,0⟩)) (.ag [.i .i64 c,.i .i64 t,.b false,.s s,.sl none 0 none]) hx fun h5=>aB 5 (.p (some ⟨id,5,0⟩)) h5 fun v7=>aI h Q (.tu [v7,.i .i64 e]) h5:=by
 refine bA R hz.symm rfl rfl fun h5 hl5 U5 R5=>bB R5 rfl (.inl (hq h5 ?_))
 exact (U.trans U5 fun i hi he=>absurd he (by omega))
theorem aN4 {h h1 h2 : aA} {id : Nat} {w : AV} {l : List Nat} (hid : h.length ≤ id) (U1 : Upd (fun _ => False) h h1) (U2 : Upd (fun _ => False) h h2) (R : bE h2 id z5) (W : Rd 1 h2 w (l.map num) l.length) (hll : l.length ≤ 1000) (hb : ∀ n ∈ l, n < 268435456)
  (hq:∀ h',Upd (fun _=>False) h h'→Q (.tu [.ag (bF 0 6 false (l.flatMap mX)),.i .i64 0]) h') :
  ∀ (r:List Nat) (i:Nat) (v:AV) (o:List UInt8) (hx:aA),l.drop i=r→i≤l.length→o.length≤4 * i→o++r.flatMap mX=l.flatMap mX→Tx h2 hx v o→Y5.p2 (aI h Q) (.p (some ⟨id,5,0⟩)) v w l.length i hx:=by
 intro r
 induction r with
 | nil =>
  intro i v o hx hr hi hol ho T
  have hle:=cA hr
  refine Y5.i2 ?_
  simp only [Y5.t2]
  rw [List.flatMap_nil,List.append_nil] at ho
  subst ho
  exact aK (by simp; omega) (T.str (pE (h1:=h1) rfl (R.upd T.upd fun h=>h) hid (U2.trans T.upd fun _ _ h=>h) hq))
 | cons n r ih =>
  intro i v o hx hr hi hol ho T
  have hlt:=cG hr
  have hn:=bU hr
  have hni:=b5 hr
  have hnb:=hb n (List.mem_of_getElem? hni)
  have W':=W.upd T.upd fun _ _ h=>h
  rw [List.flatMap_cons] at ho
  have p4:∀ (k:Nat) (v:AV) (o':List UInt8) (hx:aA),k≤3→o'.length+k≤4 * i+3→o'++r7 k n=o++mX n→Tx h2 hx v o'→Y5.p4 (aI h Q) (.p (some ⟨id,5,0⟩)) v n k w l.length i hx:=by
   intro k
   induction k with
   | zero =>
    intro v o' hx hk hol' ho' T
    refine Y5.i4 ?_
    simp only [Y5.t4, ← Y5.p2.eq_1]
    refine aK (by simp) (aJ (aDD (by omega)) ?_)
    rw [cK,Nat.mod_eq_of_lt (show n % 128<256 by omega)]
    have e:((n % 128:Nat):Int)=((UInt8.ofNat (n % 128)).toNat:Int):=by rw [UInt8.toNat_ofNat']; omega
    rw [e]
    refine T.push (by omega) fun v' h' T'=>inc (by omega) (ih (i+1) v' _ h' hn (by omega) (by simp; omega) ?_ T')
    rw [show o'++[UInt8.ofNat (n % 128)]=o++mX n from ho',List.append_assoc]
    exact ho
   | succ k ihk =>
    intro v o' hx hk hol' ho' T
    refine Y5.i4 ?_
    simp only [Y5.t4, ← Y5.p4.eq_1]
    refine aM (by simp) ?_
    refine aJ (n:=((7 * (k+1):Nat):Int)) (by rw [aL (by omega) (by omega)]; omega) (mN (k:=.i64) (by show 7 * (k+1)≤64; omega) ?_)
    have hd:n / 2 ^ (7 * (k+1))≤n:=Nat.div_le_self _ _
    unfold r7 at ho'
    generalize n / 2 ^ (7 * (k+1))=y at hd ho'
    refine aJ (aDD (by omega)) (aJ (aPM (Nat.mod_lt _ (by omega))) ?_)
    have hm:y % 128<128:=Nat.mod_lt _ (by omega)
    rw [cK,Nat.mod_eq_of_lt (show y % 128+128<256 by omega)]
    have e:((y % 128+128:Nat):Int)=((UInt8.ofNat (y % 128+128)).toNat:Int):=by rw [UInt8.toNat_ofNat']; omega
    rw [e]
    refine T.push (by omega) fun v' h' T'=>aJ (n:=(k:Int)) (by rw [aL (by omega) (by omega)]; omega) (ihk v' _ h' (by omega) (by simp; omega) ?_ T')
    rw [← ho']; simp
  have hk3:rW n≤3:=by
   unfold rW; repeat' split
   all_goals omega
  have p3 : ∀ m k, k + m = rW n → Y5.p3 (aI h Q) (.p (some ⟨id, 5, 0⟩)) v n k w l.length i hx := by
   intro m
   induction m with
   | zero =>
    intro k hk
    have hk:k=rW n:=by omega
    refine Y5.i3 ?_
    simp only [Y5.t3, ← Y5.p4.eq_1]
    refine inc (by omega) (aJ (n:=((7 * (k+1):Nat):Int)) (by rw [aL (by omega) (by omega)]; omega) (mN (k:=.i64) (by show 7 * (k+1)≤64; omega) ?_))
    have:n / 2 ^ (7 * (k+1))=0:=by
     apply Nat.div_eq_of_lt
     rw [hk]
     unfold rW
     repeat' split
     all_goals omega
    rw [this]
    refine aK rfl (p4 k v o hx (by omega) (by omega) ?_ T)
    unfold mX; rw [hk]
   | succ m ihm =>
    intro k hk
    refine Y5.i3 ?_
    simp only [Y5.t3, ← Y5.p3.eq_1]
    refine inc (by omega) (aJ (n:=((7 * (k+1):Nat):Int)) (by rw [aL (by omega) (by omega)]; omega) (mN (k:=.i64) (by show 7 * (k+1)≤64; omega) ?_))
    have:0<n / 2 ^ (7 * (k+1)):=by
     apply Nat.div_pos _ (Nat.two_pow_pos _)
     have hk':k<rW n:=by omega
     unfold rW at hk'
     have:k=0∨k=1∨k=2:=by
      revert hk'
      repeat' split
      all_goals omega
     rcases this with rfl | rfl | rfl
     ·split at hk' <;> omega
     ·split at hk'
      ·omega
      ·split at hk' <;> omega
     ·split at hk'
      ·omega
      ·split at hk'
       ·omega
       ·split at hk' <;> omega
    refine aM (by rw [decide_eq_true_eq]; generalize n / 2 ^ (7 * (k+1))=y at this; omega) (inc (by omega) (ihm (k+1) (by omega)))
  refine Y5.i2 ?_
  simp only [Y5.t2, ← Y5.p3.eq_1]
  exact aM (by simp; omega) (W'.nat hlt hni (p3 (rW n) 0 (by omega)))
theorem zQ {s : List UInt8} {h : aA} (hq : ∀ h', Upd (fun _ => False) h h' → Q (aKT (g9 s)) h') : C Y5.id [.s s] h Q := by
 refine Y5.call ?_
 simp only [Y5.t, ← Y5.p0.eq_1]
 refine b9 fun h1 hl1 U1 R=>?_
 unfold g9 at hq
 by_cases hl:256<s.length
 ·rw [if_pos hl] at hq
  exact aM (by simp; omega) (pE (h1:=h1) rfl R (Nat.le_refl _) U1 hq)
 rw [if_neg hl] at hq
 refine aK (by simp; omega) (aLU (sp:=46) (by omega) fun w h2 S=>?_)
 have hsl:=oM (sp:=46) s
 have hcb:Lib.countByte s 46≤s.length:=List.count_le_length
 have W:=S.stk.rd
 rw [List.length_map] at W
 have R2:=R.upd S.upd fun h=>h
 have U2:=U1.trans S.upd fun _ _ h=>h
 refine W.len ?_
 generalize cS 46 s=ws at *
 have bad:∀ hx,Upd (fun _=>False) h2 hx→cU ws=none→aS 5 (.p (some ⟨h.length,5,0⟩)) (.ag [.i .i64 0,.i .i64 0,.b false,.s [],.sl none 0 none]) hx fun h5=>aB 5 (.p (some ⟨h.length,5,0⟩)) h5 fun v7=>aI h Q (.tu [v7,.i .i64 2]) h5:=by
  intro hx U hd
  rw [hd] at hq
  exact pE (h1:=h1) rfl (R2.upd U fun h=>h) (Nat.le_refl _) (U2.trans U fun _ _ h=>h) hq
 have go : ∀ (r : List (List UInt8)) (i : Nat) (done : List Nat) (v : AV) (hx : aA), ws.drop i = r → i ≤ ws.length → done.length = i → (cU ws = match cU r with | none => none | some l => some (done ++ l)) → fY 1 h2 hx v (done.map num) done.length → Y5.p0 (aI h Q) (.p (some ⟨h.length, 5, 0⟩)) v w ws.length i hx := by
  intro r
  induction r with
  | nil =>
   intro i done v hx hr hi hdl hd A
   have hle:=cA hr
   have hd:cU ws=some done:=by rw [hd]; simp [cU]
   rw [hd] at hq
   have hbd:=(r9 hd).1
   have R3:=R2.upd A.upd fun h=>h
   have U3:=U2.trans A.upd fun _ _ h=>h
   refine Y5.i0 ?_
   simp only [Y5.t0, ← Y5.p1.eq_1]
   refine aK (by simp; omega) (A.arr.rd.len ?_)
   have p1bad:sV done = .error 2→Y5.p1 (aI h Q) (.p (some ⟨h.length,5,0⟩)) v true hx:=by
    intro he
    have hq:∀ h',Upd (fun _=>False) h h'→Q (aKT (sV done)) h':=hq
    rw [he] at hq
    refine Y5.i1 ?_
    simp only [Y5.t1]
    exact aM rfl (pE (h1:=h1) rfl R3 (Nat.le_refl _) U3 hq)
   have p1ok:∀ a b l,done=a :: b :: l→¬ (2<a∨(a<2∧40≤b)∨268435456≤40 * a+b)→Y5.p1 (aI h Q) (.p (some ⟨h.length,5,0⟩)) v false hx:=by
    intro a b l hdone hg
    have ha:=hbd a (by rw [hdone]; simp)
    have hb:=hbd b (by rw [hdone]; simp)
    have hq:∀ h',Upd (fun _=>False) h h'→Q (aKT (sV done)) h':=hq
    have he:sV done = .ok (((40 * a+b) :: l).flatMap mX):=by
     rw [hdone]; unfold sV; simp only; rw [if_neg hg]
    rw [he] at hq
    obtain ⟨id,ver,off,cap,blk,hv,RA⟩:=A.arr.rd.at (by rw [hdone]; simp)
    have hidv:h2.length≤id:=A.new id (by rw [hv] <;> rfl)
    have h0':done[0]? = some a:=by rw [hdone] <;> rfl
    have h1':done[1]? = some b:=by rw [hdone] <;> rfl
    have hlen2:2≤done.length:=by rw [hdone]; simp
    rw [hv]
    refine Y5.i1 ?_
    simp only [Y5.t1, ← Y5.p2.eq_1]
    refine aK rfl (dE RA (i:=0) (by omega) (d7 RA (by omega) h0' ?_))
    refine aJ (n:=((40 * a:Nat):Int)) (by rw [aL (by omega) (by omega)]; omega) (dE RA (i:=1) (by omega) (d7 RA (by omega) h1' ?_))
    refine aJ (n:=((40 * a+b:Nat):Int)) (by rw [aL (by omega) (by omega)]; omega) ?_
    refine RA.drop Nat.one_pos (lo:=2) hlen2 ?_
    refine fY.one (Upd.refl _ _) (x:=num (40 * a+b)) rfl fun v2 h3 A2 Ux Fx=>?_
    have RA3:=RA.upd Ux fun h=>h
    refine RA3.drop Nat.one_pos (lo:=2) hlen2 ⟨rfl,d7 RA3 (by omega) h1' ⟨rfl,dE RA3 (i:=1) (by omega) ⟨rfl,d7 RA3 (by omega) h0' ⟨rfl,dE RA3 (i:=0) (by omega) ⟨rfl, ?_⟩⟩⟩⟩⟩
    have RD:=RA3.dropRd (lo:=2) hlen2 (cap.map (· - 2))
    have hdr:(done.map num).drop (2 * 1)=l.map num:=by rw [hdone] <;> rfl
    rw [hdr] at RD
    refine A2.append Nat.one_pos (ns:=l.map num) (k:=done.length - 2) (fun K hK=>RD.news hK) (by rw [hdone]; simp) (by simp [num,AV.cellOK]) (by omega) (by omega) fun v3 h4 A3 Uy=>?_
    have RA4:=RA3.upd Uy fun hs=>by have:=Fx id hs; have:=RA.lt; omega
    refine d7 RA4 (by omega) h1' ⟨rfl,dE RA4 (i:=1) (by omega) ⟨rfl,d7 RA4 (by omega) h0' ⟨rfl,dE RA4 (i:=0) (by omega) ⟨rfl,A3.arr.rd.len ?_⟩⟩⟩⟩
    have U4:=A3.upd
    have e:1+(done.length - 2)=((40 * a+b) :: l).length:=by rw [hdone]; simp; omega
    rw [e]
    refine aN4 (l:=(40 * a+b) :: l) (h1:=h1) (Nat.le_refl _) U1 (U3.trans U4 fun _ _ h=>h) (R3.upd U4 fun h=>h) ?_ ?_ ?_ hq _ 0 _ [] h4 rfl (by omega) (by simp) rfl (Tx.start h4)
    ·have := A3.arr.rd
     rw [e] at this
     exact this
    ·rw [← e]; omega
    ·intro n hn
     rcases List.mem_cons.1 hn with rfl | hn
     ·omega
     ·exact hbd n (by rw [hdone]; simp [hn])
   by_cases hl2:done.length<2
   ·exact aM (by simp; omega) (p1bad (vP hl2))
   refine aK (by simp; omega) ?_
   obtain ⟨a,b,l,hdone⟩:=aOF hl2
   have h0':done[0]? = some a:=by rw [hdone] <;> rfl
   have h1':done[1]? = some b:=by rw [hdone] <;> rfl
   have ha:=hbd a (by rw [hdone]; simp)
   have hb:=hbd b (by rw [hdone]; simp)
   have p1:∀ bb:Bool,(bb=true↔(2<a∨(a<2∧40≤b)∨268435456≤40 * a+b))→Y5.p1 (aI h Q) (.p (some ⟨h.length,5,0⟩)) v bb hx:=by
    intro bb hbb
    cases bb with
    | true =>
     refine p1bad ?_
     rw [hdone]; unfold sV; simp only
     rw [if_pos (hbb.1 rfl)]
    | false=>exact p1ok a b l hdone (fun hh=>by have:=hbb.2 hh; cases this)
   have RV:=A.arr.rd
   refine RV.nat (i:=0) (by omega) h0' ?_
   refine aG (fun e1=>p1 _ ?_) fun e1=>RV.nat (i:=0) (by omega) h0' ?_
   ·simp only [decide_eq_true_eq] at e1; simp; omega
   simp only [decide_eq_false_iff_not] at e1
   have fin:∀ K:Int→Prop,K ((40 * a+b:Nat):Int)→aE 1 v (.i .i64 0) hx fun v52=>aC v52 hx fun v53=>asI .i64 v53 fun n54=>aQ (IntKind.wrap .i64 (40 * n54)) fun n55=>aE 1 v (.i .i64 1) hx fun v56=>aC v56 hx fun v57=>asI .i64 v57 fun n58=>aQ (IntKind.wrap .i64 (n55+n58)) K:=by
    intro K hK
    refine RV.nat (i:=0) (by omega) h0' ?_
    refine aJ (n:=((40 * a:Nat):Int)) (by rw [aL (by omega) (by omega)]; omega) (RV.nat (i:=1) (by omega) h1' ?_)
    exact aJ (n:=((40 * a+b:Nat):Int)) (by rw [aL (by omega) (by omega)]; omega) hK
   refine aG (fun e2=>RV.nat (i:=1) (by omega) h1' ?_) fun e2=>fin _ (p1 _ ?_)
   ·simp only [decide_eq_true_eq] at e2
    refine aG (fun e3=>p1 _ ?_) fun e3=>fin _ (p1 _ ?_)
    ·simp only [decide_eq_true_eq] at e3; simp; omega
    ·simp only [decide_eq_false_iff_not] at e3
     rw [decide_eq_true_eq]; omega
   ·simp only [decide_eq_false_iff_not] at e2
    rw [decide_eq_true_eq]; omega
  | cons x r ih =>
   intro i done v hx hr hi hdl hd A
   have hlt:=cG hr
   have hn:=bU hr
   have hxi:=b5 hr
   have W':=W.upd A.upd fun _ _ h=>h
   refine Y5.i0 ?_
   simp only [Y5.t0, ← Y5.p0.eq_1]
   refine aM (by simp; omega) (W'.str hxi (aKO ?_))
   rw [gG] at hd
   cases hx2:jB x with
   | none =>
    rw [hx2] at hd
    intro y
    show aH 0 (.tu [.i .i64 y,.b false]) _
    refine bD (aU (bC (aX (aM rfl (bad hx A.upd (by rw [hd]))))))
   | some n =>
    rw [hx2] at hd
    simp only at hd
    unfold aPJ
    show aH 0 (.tu [.i .i64 (n:Int),.b true]) _
    refine bD (aU (bC (aX (aK rfl ?_))))
    refine fY.build A (by decide) (ns:=[num n]) rfl rfl rfl (by omega) (by omega) fun v' h' A'=>inc (by omega) (ih (i+1) (done++[n]) v' h' hn (by omega) (by simp [hdl]) ?_ ?_)
    ·rw [hd]
     cases cU r with
     | none=>rfl
     | some l=>simp
    ·rw [List.map_append,List.length_append]; exact A'
 exact go ws 0 [] _ h2 rfl (by omega) rfl (by cases cU ws <;> simp) (fY.start 1 h2)
end
end Go.Proofs.YtcdkpkkdolmfdaaGreatDoor
namespace Go.Proofs.YtcdkpkkdolmfdaaGreatDoor
open Go.GAM Go.RowKit
section
variable {h0:aA} {Q:AV→aA→Prop}
theorem aN3 {l:List Nat} {w:AV} {h hx:aA} (E:Ext h hx) (W:Rd 1 hx w (l.map num) l.length) (hl:l.length≤100000) (hb:∀ n∈l,n<268435456):∀ (r:List Nat) (i:Nat) (x:List UInt8),l.drop i=r→i≤l.length→x.length≤30+11 * i →
  Q (.tu [.s (x++r.flatMap fun n=>46 :: Lib.decDigits n),.b true]) h→Y7.p4 (aI h Q) x w l.length i hx:=by
 intro r
 induction r with
 | nil =>
  intro i x hr hi hxl hq
  have hle:=cA hr
  refine Y7.i4 ?_
  simp only [Y7.t4]
  refine aK (by simp; omega) (aV rfl E ?_)
  simpa using hq
 | cons n r ih =>
  intro i x hr hi hxl hq
  have hlt:=cG hr
  have hn:=bU hr
  have hni:=b5 hr
  have hnb:=hb n (List.mem_of_getElem? hni)
  have d1:=kU (n:=n) (by omega)
  refine Y7.i4 ?_
  simp only [Y7.t4, ← Y7.p4.eq_1]
  refine aM (by simp; omega) (W.nat hlt hni (aEG (by omega) (aZ ⟨by simp; omega,⟨by simp; omega,inc (by omega) ?_⟩⟩)))
  refine ih (i+1) _ hn (by omega) (by simp; omega) ?_
  simpa [List.flatMap_cons] using hq
theorem aN1 {x y:Nat} (hy:y<128) (hx:x<268435456):cI .or .i64 ((x * 128:Nat):Int) (y:Int)=((x * 128+y:Nat):Int):=by
 rw [qT (by omega) (by omega)]
 have:=Nat.two_pow_add_eq_or_of_lt (i:=7) (b:=y) (by omega) x
 rw [Nat.mul_comm x 128,this]
theorem aJQ {s : List UInt8} {cs : List AV} {h h1 : aA} {id : Nat} (E : Ext h h1) (B : bE h1 id cs) (hcl : cs.length = 5) (hc3 : cs[3]? = some (.s s)) (hs : s.length ≤ 100000) (hne : s ≠ []) :
  ∀ (r:List UInt8) (i n:Nat) (begun:Bool) (done:List Nat) (v:AV) (hx:aA),s.drop i=r→i≤s.length→n<268435456→(begun=false→i=0∨done≠[])→done.length≤i→(∀ m∈done,m<268435456)→fY 1 h1 hx v (done.map num) done.length →
  Q (aLZ (aDK (rU r n begun) done)) h→Y7.p1 (aI h Q) (.p (some ⟨id,5,0⟩)) v n begun s.length i hx:=by
 intro r
 induction r with
 | nil =>
  intro i n begun done v hx hr hi hn hb hd hbd A hq
  have hle:=cA hr
  have Ex:=E.trans A.upd.ext
  refine Y7.i1 ?_
  simp only [Y7.t1, ← Y7.p4.eq_1]
  refine aK (by simp; omega) ?_
  cases begun with
  | true=>exact aM rfl (aV rfl Ex hq)
  | false =>
   have hlp:=List.length_pos_iff.2 hne
   have hdn:done≠[]:=by
    rcases hb rfl with h | h
    ·omega
    ·exact h
   obtain ⟨z,dn,hdone⟩:∃ z dn,done=z :: dn:=by
    cases done with
    | nil=>exact absurd rfl hdn
    | cons z dn=>exact ⟨z,dn,rfl⟩
   have hzb:=hbd z (by rw [hdone]; simp)
   have hdl:done.length=dn.length+1:=by rw [hdone]; simp
   obtain ⟨id',ver,off,cap,blk,hv,RA⟩:=A.arr.rd.at (by omega)
   have hz0:done[0]? = some z:=by rw [hdone] <;> rfl
   have d1:=kU (n:=min (z / 40) 2) (by omega)
   have d2:=kU (n:=z - 40 * min (z / 40) 2) (by omega)
   rw [hv]
   refine aK rfl (dE RA (i:=0) (by omega) (d7 RA (by omega) hz0 (gN (b:=40) (by omega) (by omega) ?_)))
   rw [show mmI false 2 ((z / 40:Nat):Int)=((min (z / 40) 2:Nat):Int) by rw [Nat.min_comm]; exact aFY 2 _]
   refine dE RA (i:=0) (by omega) (d7 RA (by omega) hz0 ?_)
   refine aJ (n:=((40 * min (z / 40) 2:Nat):Int)) (by rw [aL (by omega) (by omega)]; omega) ?_
   refine aJ (n:=((z - 40 * min (z / 40) 2:Nat):Int)) (by rw [aL (by omega) (by omega)]; omega) ?_
   refine aEG (by omega) (aZ (d7 RA (by omega) hz0 ⟨rfl,dE RA (i:=0) (by omega) ⟨rfl,⟨by simp; omega, ?_⟩⟩⟩))
   refine aEG (by omega) (aZ (d7 RA (by omega) hz0 ⟨rfl,dE RA (i:=0) (by omega) ⟨rfl,⟨by simp; omega, ?_⟩⟩⟩))
   have RD:=RA.dropRd (lo:=1) (by omega) (cap.map (· - 1))
   have hdr:(done.map num).drop (1 * 1)=dn.map num:=by rw [hdone] <;> rfl
   rw [hdr,show done.length - 1=dn.length by omega] at RD
   refine RA.drop Nat.one_pos (lo:=1) (by omega) ?_
   rw [show done.length - 1=dn.length by omega]
   refine RD.len (aN3 Ex RD (by omega) (fun m hm=>hbd m (by rw [hdone]; simp [hm])) dn 0 _ rfl (by omega) (by simp; omega) ?_)
   have hq:Q (.tu [.s (uT (done++[])),.b true]) h:=hq
   rw [List.append_nil,hdone] at hq
   simpa [uT] using hq
 | cons c r ih =>
  intro i n begun done v hx hr hi hn hb hd hbd A hq
  have hlt:=cG hr
  have hnx:=bU hr
  have hci:=b5 hr
  have hc:=c.toNat_lt
  have Ex:=E.trans A.upd.ext
  have Bx:=B.upd A.upd fun h=>h
  have hm:=Nat.mod_lt c.toNat (show 0<128 by omega)
  have p3:∀ (o:List Nat) (n':Nat) (b':Bool) (v':AV) (h':aA),n'<268435456→(b'=false→o≠[])→o.length≤i+1→(∀ m∈o,m<268435456)→fY 1 h1 h' v' (o.map num) o.length→Q (aLZ (aDK (rU r n' b') o)) h→Y7.p3 (aI h Q) (.p (some ⟨id,5,0⟩)) v' n' b' s.length i h':=by
   intro o n' b' v' h' hn' hb' ho hob A' hq
   refine Y7.i3 ?_
   simp only [Y7.t3, ← Y7.p1.eq_1]
   exact inc (by omega) (ih (i+1) n' b' o v' h' hnx (by omega) hn' (fun hh=>.inr (hb' hh)) ho hob A' hq)
  have p2 : ∀ b, b = decide (begun = false ∧ c.toNat = 128) → Y7.p2 (aI h Q) (.p (some ⟨id, 5, 0⟩)) v n (c.toNat : Int) s.length i b hx := by
   intro b hbb
   unfold rU at hq
   refine Y7.i2 ?_
   simp only [Y7.t2, ← Y7.p3.eq_1]
   refine aG (fun e=>?_) fun e=>?_
   ·subst e
    rw [if_pos (of_decide_eq_true hbb.symm)] at hq
    exact aV rfl Ex hq
   ·subst e
    rw [if_neg (of_decide_eq_false hbb.symm)] at hq
    refine iY (b:=7) (n:=((n * 128:Nat):Int)) (by omega) (by omega) (by omega) (by omega) ?_
    refine aJ (aDD (by omega)) (aJ (aN1 hm hn) ?_)
    by_cases h28:268435456≤n * 128+c.toNat % 128
    ·rw [if_pos h28] at hq
     exact aM (by simp; omega) (aV rfl Ex hq)
    rw [if_neg h28] at hq
    refine aK (by simp; omega) ?_
    by_cases h128:128≤c.toNat
    ·rw [if_pos h128] at hq
     have e128:decide ((128:Int)≤(c.toNat:Int))=true:=decide_eq_true (by omega)
     rw [e128]
     exact aK rfl (p3 done _ true v hx (by omega) (fun hh=>by cases hh) (by omega) hbd A hq)
    rw [if_neg h128] at hq
    have e128:decide ((128:Int)≤(c.toNat:Int))=false:=decide_eq_false (by omega)
    rw [e128]
    generalize n * 128+c.toNat % 128=z at *
    have hq:Q (aLZ (aDK (rU r 0 false) (done++[z]))) h:=by
     have:aDK (match rU r 0 false with | none=>none | some l=>some (z :: l)) done=aDK (rU r 0 false) (done++[z]):=by
      cases rU r 0 false <;> simp [aDK]
     rw [← this]; exact hq
    refine aM rfl (fY.build A (by decide) (ns:=[num z]) rfl rfl rfl (by omega) (by omega) fun v' h' A'=>?_)
    refine p3 (done++[z]) 0 false v' h' (by omega) (fun _=>by simp) (by simp; omega) ?_ ?_ hq
    ·intro m hm
     rcases List.mem_append.1 hm with h | h
     ·exact hbd m h
     ·simp at h; omega
    ·rw [List.map_append,List.length_append]; exact A'
  refine Y7.i1 ?_
  simp only [Y7.t1, ← Y7.p2.eq_1]
  refine aM (by simp; omega) (aP (aO Bx hcl.symm hc3 (aZ (cW hr ?_))))
  rw [aL (by omega) (by omega)]
  cases begun with
  | false=>exact aM rfl (p2 _ (by rw [decide_eq_decide]; simp; omega))
  | true=>exact aK rfl (p2 _ (by simp))
theorem aM5 {d:Der} {cs:List AV} {F:Nat→Prop} {h:aA} (D:DV h F d cs) (hs:d.data.length≤100000) (hq:Q (aLZ (g8 d)) h):C Y7.id [.ag cs] h Q:=by
 refine Y7.call ?_
 simp only [Y7.t, ← Y7.p0.eq_1]
 refine D.box fun h1 hl1 U1 B D1=>bB B D.len.symm ((lZ D1 (aX ?_)))
 unfold g8 at hq
 have hc3:=D.dat
 have hcl:=D.len
 generalize d.data=s at *
 refine aG (fun e=>?_) fun e=>aP (aO B hcl.symm hc3 (aZ ?_))
 ·refine Y7.i0 ?_
  simp only [Y7.t0]
  rw [if_neg (fun hh=>by rw [hh.1] at e; cases e)] at hq
  exact aM rfl (aV rfl U1.ext hq)
 have hp:dB 6 d=true:=by simpa using e
 refine Y7.i0 ?_
 simp only [Y7.t0, ← Y7.p1.eq_1]
 by_cases hne:s=[]
 ·rw [if_neg (fun hh => hh.2 hne)] at hq
  exact aM (by simp [hne]) (aV rfl U1.ext hq)
 rw [if_pos ⟨hp,hne⟩] at hq
 refine aK (by simp [hne]) (aP (aO B hcl.symm hc3 (aZ ?_)))
 refine aJQ U1.ext B hcl hc3 hs hne s 0 0 false [] _ h1 rfl (by omega) (by omega) (fun _=>.inl rfl) (by simp) (by simp) (fY.start 1 h1) ?_
 have:aDK (rU s 0 false) []=(match rU s 0 false with | none=>([],false) | some l=>(uT l,true)):=by
  cases rU s 0 false <;> rfl
 rw [this]; exact hq
end
end Go.Proofs.YtcdkpkkdolmfdaaGreatDoor
namespace Go.Proofs.YtcdkpkkdolmfdaaGreatDoor
open Go.GAM Go.RowKit
section
variable {h0:aA} {Q:AV→aA→Prop}
theorem wQ {f : Nat} {p : UInt8 → Bool} {v : AV} {l : List UInt8} {h : aA} (hf : Nat.blt f yid0 = true) (hc : ∀ (c : UInt8) (h : aA) (K : AV → aA → Prop), K (.b (p c)) h → C f [.i .u8 (c.toNat : Int)] h K) (B : Byt h v l) (hl : l.length ≤ 100000) (hq : Q (.b (l.all p)) h) :
  C Y46.id [v,.fn (.func f) [] []] h Q:=by
 refine Y46.call ?_
 simp only [Y46.t, ← Y46.p0.eq_1]
 refine Rd.len B ?_
 have go:∀ (r:List UInt8) (i:Nat),l.drop i=r→i≤l.length→(l.all p=r.all p)→Y46.p0 (aI h Q) (.fn (.func f) [] []) v l.length i h:=by
  intro r
  induction r with
  | nil =>
   intro i hr hi he
   have:=cA hr
   refine Y46.i0 ?_
   simp only [Y46.t0]
   rw [he] at hq
   exact aK (by simp; omega) (.inl hq)
  | cons c r ih =>
   intro i hr hi he
   have hlt:=cG hr
   have hn:=bU hr
   refine Y46.i0 ?_
   simp only [Y46.t0, ← Y46.p0.eq_1]
   refine aM (by simp; omega) (Rd.byte B (b5 hr) (fW hf (hc c h _ (aX ?_))))
   rw [List.all_cons] at he
   cases hp:p c with
   | false =>
    rw [hp] at he
    rw [he] at hq
    exact aM rfl (.inl hq)
   | true =>
    rw [hp,Bool.true_and] at he
    exact aK rfl (inc (by omega) (ih (i+1) hn (by omega) he))
 exact go l 0 rfl (by omega) rfl
def fQ (c:UInt8):Bool:=decide (32≤c.toNat)&&decide (c.toNat≤126)
def lF (d:Der):List UInt8 × Bool:=if (dB 12 d||(dB 19 d||dB 22 d))=true∧d.data.all fQ=true then (d.data,true) else ([],false)
def aPE (x:List UInt8 × Bool):AV:=.tu [.s x.1,.b x.2]
theorem aLI (c:UInt8) (h:aA) (K:AV→aA→Prop) (hk:K (.b (fQ c)) h):C Y63.id [.i .u8 (c.toNat:Int)] h K:=by
 refine Y63.call ?_
 simp only [Y63.t, ← Y63.p0.eq_1]
 have p0:∀ b,b=fQ c→Y63.p0 (aI h K) b h:=by
  intro b hb
  refine Y63.i0 ?_
  simp only [Y63.t0]
  subst hb
  exact .inl hk
 unfold fQ at p0
 refine aG (fun e=>p0 _ ?_) fun e=>p0 _ ?_
 ·simp only [decide_eq_true_eq] at e
  rw [decide_eq_true (by omega:32≤c.toNat),Bool.true_and,decide_eq_decide]; omega
 ·simp only [decide_eq_false_iff_not] at e
  rw [decide_eq_false (by omega:¬ 32≤c.toNat)] <;> rfl
theorem aNN {d : Der} {cs : List AV} {F : Nat → Prop} {h : aA} (D : DV h F d cs) (hs : d.data.length ≤ 100000) (hq : Q (aPE (lF d)) h) : C Y64.id [.ag cs] h Q := by
 refine Y64.call ?_
 simp only [Y64.t, ← Y64.p0.eq_1]
 refine D.box fun h1 hl1 U1 B D1=>?_
 unfold lF at hq
 have p0:∀ b,b = !(dB 12 d||(dB 19 d||dB 22 d))→Y64.p0 (aI h Q) (.p (some ⟨h.length,5,0⟩)) b h1:=by
  intro b hb
  refine Y64.i0 ?_
  simp only [Y64.t0]
  refine aG (fun e=>?_) fun e=>?_
  ·subst e
   rw [if_neg (fun hh=>by rw [hh.1] at hb; cases hb)] at hq
   exact aV rfl U1.ext hq
  ·subst e
   have hp:(dB 12 d||(dB 19 d||dB 22 d))=true:=by
    revert hb
    generalize (dB 12 d||(dB 19 d||dB 22 d))=x
    cases x <;> simp
   refine aP (aO B D.len.symm D.dat (aZ (Tx.ofStr fun v h2 T=>?_)))
   refine wQ (p:=fQ) rfl aLI T.byt hs (aX ?_)
   have E:=(U1.trans T.upd fun _ _ h=>h).ext
   have B2:=B.upd T.upd fun h=>h
   cases ha:d.data.all fQ with
   | false =>
    rw [if_neg (fun hh=>by rw [ha] at hh; cases hh.2)] at hq
    exact aM rfl (aV rfl E hq)
   | true =>
    rw [if_pos ⟨hp,ha⟩] at hq
    exact aK rfl (aP (aO B2 D.len.symm D.dat (aZ (aV rfl E hq))))
 refine bB B D.len.symm (lZ D1 (aX ?_))
 refine aG (fun e=>bB B D.len.symm (lZ D1 (aX ?_))) fun e=>p0 _ ?_
 ·have e : dB 12 d = false := by simpa using e
  rw [e,Bool.false_or] at p0
  refine aG (fun e=>bB B D.len.symm (lZ D1 (aX (p0 _ ?_)))) fun e=>p0 _ ?_
  ·have e : dB 19 d = false := by simpa using e
   rw [e] <;> rfl
  ·have e : dB 19 d = true := by simpa using e
   rw [e] <;> rfl
 ·have e : dB 12 d = true := by simpa using e
  rw [e] <;> rfl
end
end Go.Proofs.YtcdkpkkdolmfdaaGreatDoor
namespace Go.GAM
end Go.GAM
namespace Go.Proofs.YtcdkpkkdolmfdaaGreatDoor
open Go.GAM Go.RowKit
section
variable {h0:aA} {Q:AV→aA→Prop}
end
end Go.Proofs.YtcdkpkkdolmfdaaGreatDoor
namespace Go.Proofs.YtcdkpkkdolmfdaaGreatDoor
open Go.GAM Go.RowKit
def iH (l:List UInt8):Nat:=l.foldl (fun n c=>n * 256+c.toNat) 0
theorem yX (l:List UInt8) (c:UInt8):iH (l++[c])=iH l * 256+c.toNat:=by simp [iH]
theorem aF0 (l:List UInt8):iH l<256 ^ l.length:=by
 have:∀ n (l:List UInt8),l.length=n→iH l<256 ^ n:=by
  intro n
  induction n with
  | zero=>intro l hl; rw [List.eq_nil_of_length_eq_zero hl]; decide
  | succ n ih =>
   intro l hl
   have hne:l≠[]:=fun h=>by rw [h] at hl; simp at hl
   rw [← List.dropLast_concat_getLast hne,yX]
   have h1:=ih l.dropLast (by rw [List.length_dropLast]; omega)
   have h2:=(l.getLast hne).toNat_lt
   rw [Nat.pow_succ]
   omega
 exact this _ l rfl
theorem aCC {l:List UInt8} (h:l.length≤3):iH l<16777216:=by
 have h1:=aF0 l
 have h2:256 ^ l.length≤256 ^ 3:=Nat.pow_le_pow_right (by omega) h
 omega
def oY : List UInt8 → Except Int (Nat × List UInt8)
 | []=>.error 1
 | c :: r => if c.toNat < 128 then .ok (c.toNat, r) else
  if c.toNat - 128<1∨3<c.toNat - 128 then .error 2 else
  if r.length<c.toNat - 128 then .error 1 else
  if iH (r.take (c.toNat - 128))<128∨iH (r.take (c.toNat - 128))<2 ^ (8 * (c.toNat - 128 - 1)) then .error 2 else .ok (iH (r.take (c.toNat - 128)),r.drop (c.toNat - 128))
theorem mC {s r : List UInt8} {n : Nat} (h : oY s = .ok (n, r)) : r.length < s.length ∧ n < 16777216 := by
 cases s with
 | nil=>cases h
 | cons c s =>
  have hc:=c.toNat_lt
  rw [oY] at h
  split at h
  ·cases h; exact ⟨by simp,by omega⟩
  ·split at h
   ·cases h
   ·split at h
    ·cases h
    ·split at h
     ·cases h
     ·cases h
      exact ⟨by simp only [List.length_drop,List.length_cons]; omega,aCC (by rw [List.length_take]; omega)⟩
def aOP:Except Int (Nat × List UInt8)→AV
 | .error e=>.tu [.i .i64 0,.s [],.i .i64 e]
 | .ok (n,r)=>.tu [.i .i64 (n:Int),.s r,.i .i64 0]
section
variable {s:List UInt8} {h0:aA} {Q:AV→aA→Prop}
theorem aGZ {k : Nat} {h : aA} (hk1 : 1 ≤ k) (hk3 : k ≤ 3) (hkl : k ≤ s.length) (hs : s.length ≤ 100000)
  (hq:Q (aOP (if iH (s.take k)<128∨iH (s.take k)<2 ^ (8 * (k - 1)) then .error 2 else .ok (iH (s.take k),s.drop k))) h) :
  ∀ m i,i+m=k→Y31.p1 (aI h Q) s (iH (s.take i):Nat) k k i h:=by
 intro m
 induction m with
 | zero =>
  intro i hi
  have:i=k:=by omega
  subst this
  have hb:=aCC (l:=s.take i) (by simp; omega)
  refine Y31.i1 ?_
  simp only [Y31.t1, ← Y31.p2.eq_1]
  refine aK (by simp) ?_
  have fin:∀ b,b=decide (iH (s.take i)<128∨iH (s.take i)<2 ^ (8 * (i - 1)))→Y31.p2 (aI h Q) s (iH (s.take i):Nat) i b h:=by
   intro b hb2
   refine Y31.i2 ?_
   simp only [Y31.t2]
   refine aG (fun e=>?_) fun e=>iD (by omega) ?_
   ·subst e
    rw [if_pos (by simpa using hb2.symm)] at hq
    exact .inl hq
   ·subst e
    rw [if_neg (by simpa using hb2.symm)] at hq
    exact .inl hq
  refine aG (fun e=>fin _ ?_) fun e=>?_
  ·have : iH (s.take i) < 128 := by simp only [decide_eq_true_eq] at e; omega
   simp [this]
  ·have h128 : ¬ iH (s.take i) < 128 := by simp only [decide_eq_false_iff_not] at e; omega
   refine aJ (n:=((i - 1:Nat):Int)) (by rw [aL (by omega) (by omega)]; omega) ?_
   refine aJ (n:=((8 * (i - 1):Nat):Int)) (by rw [aL (by omega) (by omega)]; omega) ?_
   refine mN (k:=.i64) (by show 8 * (i - 1)≤64; omega) (fin _ ?_)
   rw [decide_eq_decide]
   have hp:0<2 ^ (8 * (i - 1)):=Nat.two_pow_pos _
   constructor
   ·intro h
    have h':iH (s.take i) / 2 ^ (8 * (i - 1))=0:=by
     generalize iH (s.take i) / 2 ^ (8 * (i - 1))=y at h
     omega
    rcases Nat.div_eq_zero_iff.1 h' with h | h
    ·omega
    ·exact .inr h
   ·intro h
    rw [Nat.div_eq_of_lt (h.resolve_left h128)] <;> rfl
 | succ m ih =>
  intro i hi
  obtain ⟨c,hc⟩:∃ c,s[i]? = some c:=⟨_,List.getElem?_eq_getElem (by omega)⟩
  have hcl:=c.toNat_lt
  have hb:=aF0 (s.take i)
  rw [List.length_take,Nat.min_eq_left (by omega)] at hb
  have hb2:256 ^ i≤256 ^ 2:=Nat.pow_le_pow_right (by omega) (by omega)
  refine Y31.i1 ?_
  simp only [Y31.t1, ← Y31.p1.eq_1]
  refine aM (by simp; omega) ?_
  refine aH3 (b:=8) (by omega) (by omega) (wF hc ?_)
  refine aJ (n:=((iH (s.take (i+1)):Nat):Int)) ?_ (inc (by omega) (ih (i+1) (by omega)))
  rw [cR hc,yX,aL (by omega) (by omega),qT (by omega) (by omega),Nat.mul_comm (iH _) (2 ^ 8), ← Nat.two_pow_add_eq_or_of_lt (show c.toNat<2 ^ 8 by omega),Nat.mul_comm]
theorem aJB {h : aA} (hs : s.length ≤ 100000) (hq : Q (aOP (oY s)) h) : C Y31.id [.s s] h Q := by
 refine Y31.call ?_
 simp only [Y31.t, ← Y31.p0.eq_1]
 cases s with
 | nil=>exact aM rfl (.inl hq)
 | cons c r =>
  have hc:=c.toNat_lt
  rw [oY] at hq
  refine aK (by simp) (cW (i:=0) rfl (iD (lo:=1) (by simp) ?_))
  rw [aL (by omega) (by omega)]
  refine aG (fun e=>?_) fun e=>?_
  ·rw [if_pos (by simp only [decide_eq_true_eq] at e; omega)] at hq
   exact .inl hq
  ·have h128 : ¬ c.toNat < 128 := by simp only [decide_eq_false_iff_not] at e; omega
   rw [if_neg h128] at hq
   refine aJ (n:=((c.toNat - 128:Nat):Int)) (by rw [aL (by omega) (by omega)]; omega) ?_
   generalize hk:c.toNat - 128=k at hq
   have p0:∀ b,b=decide (k<1∨3<k)→Y31.p0 (aI h Q) r k b h:=by
    intro b hb
    refine Y31.i0 ?_
    simp only [Y31.t0, ← Y31.p1.eq_1]
    refine aG (fun e=>?_) fun e=>?_
    ·subst e
     rw [if_pos (by simpa using hb.symm)] at hq
     exact .inl hq
    ·subst e
     have hk13:¬ (k<1∨3<k):=by simpa using hb.symm
     rw [if_neg hk13] at hq
     refine aG (fun e=>?_) fun e=>?_
     ·rw [if_pos (by simp only [decide_eq_true_eq] at e; omega)] at hq
      exact .inl hq
     ·have hkr : ¬ r.length < k := by simp only [decide_eq_false_iff_not] at e; omega
      rw [if_neg hkr] at hq
      exact aGZ (by omega) (by omega) (by omega) (by simp at hs; omega) hq k 0 (by omega)
   refine aG (fun e=>p0 _ ?_) fun e=>p0 _ ?_
   ·have : k < 1 := by simp only [decide_eq_true_eq] at e; omega
    simp [this]
   ·have : ¬ k < 1 := by simp only [decide_eq_false_iff_not] at e; omega
    rw [decide_eq_decide]; omega
end
end Go.Proofs.YtcdkpkkdolmfdaaGreatDoor
namespace Go.Proofs.YtcdkpkkdolmfdaaGreatDoor
open Go.GAM Go.RowKit
mutual
def lP : Nat → Nat → Nat → List UInt8 → Except Int (Der × List UInt8 × Nat)
 | 0,_,_,_=>.error 0
 | f + 1, lvl, n, s => match s with
  | []=>.error 1
  | c :: r => if c.toNat % 32 = 31 then .error 2 else if 24 < lvl then .error 9 else if 256 < n + 1 then .error 3 else
   match oY r with
   | .error e=>.error e
   | .ok (k, t) => if t.length < k then .error 1 else
    if c.toNat / 32 % 2=0 then .ok (.mk (c.toNat / 64:Nat) (c.toNat % 32:Nat) false (t.take k) [],t.drop k,n+1) else
    match kM f lvl (n+1) (t.take k) with
    | .error e=>.error e
    | .ok (ks,n')=>.ok (.mk (c.toNat / 64:Nat) (c.toNat % 32:Nat) true [] ks,t.drop k,n')
def kM : Nat → Nat → Nat → List UInt8 → Except Int (List Der × Nat)
 | 0,_,_,_=>.error 0
 | f + 1, lvl, n, s => match s with
  | []=>.ok ([],n)
  | c :: r => match lP f (lvl + 1) n (c :: r) with
   | .error e=>.error e
   | .ok (d, t, n') => match kM f lvl n' t with
    | .error e=>.error e
    | .ok (ks,n'')=>.ok (d :: ks,n'')
end
def nV (s : List UInt8) : Except Int Der :=
 if 65535<s.length then .error 3 else match lP (2 * s.length+1) 1 0 s with
  | .error e=>.error e
  | .ok (d,r,_)=>if r=[] then .ok d else .error 2
theorem oQ : ∀ f, (∀ lvl n s d r n', lP f lvl n s = .ok (d, r, n') → r.length < s.length ∧ n' ≤ 256 ∧ d.sz + r.length ≤ s.length) ∧ (∀ lvl n s ks n', kM f lvl n s = .ok (ks, n') → (n' ≤ n ∨ n' ≤ 256) ∧ szs ks ≤ s.length) := by
 intro f
 induction f with
 | zero =>
  refine ⟨fun lvl n s d r n' h=>?_,fun lvl n s ks n' h=>?_⟩
  ·unfold lP at h; cases h
  ·unfold kM at h; cases h
 | succ f ih =>
  refine ⟨fun lvl n s d r n' h=>?_,fun lvl n s ks n' h=>?_⟩
  ·unfold lP at h
   cases s with
   | nil=>cases h
   | cons c s =>
    simp only at h
    split at h
    ·cases h
    split at h
    ·cases h
    split at h
    ·cases h
    split at h
    ·cases h
    ·rename_i k t hl
     have hl:=mC hl
     split at h
     ·cases h
     ·split at h
      ·cases h
       refine ⟨by simp only [List.length_drop,List.length_cons]; omega,by omega, ?_⟩
       simp only [Der.sz,szs,List.length_drop,List.length_cons]; omega
      ·split at h
       ·cases h
       ·rename_i ks n2 hk
        cases h
        have:=ih.2 _ _ _ _ _ hk
        have h2:(t.take k).length=k:=by rw [List.length_take]; omega
        refine ⟨by simp only [List.length_drop,List.length_cons]; omega,by omega, ?_⟩
        simp only [Der.sz,List.length_cons,List.length_drop]; omega
  ·unfold kM at h
   cases s with
   | nil=>cases h; simp [szs]
   | cons c s =>
    simp only at h
    split at h
    ·cases h
    ·rename_i d t n2 hv
     have hv:=ih.1 _ _ _ _ _ _ hv
     split at h
     ·cases h
     ·rename_i ks2 n3 hk
      cases h
      have hk:=ih.2 _ _ _ _ _ hk
      refine ⟨by omega, ?_⟩
      simp only [szs]; omega
theorem aB2 {s : List UInt8} {e : Int} (h : oY s = .error e) : e ≠ 0 := by
 cases s with
 | nil=>cases h; decide
 | cons c r =>
  rw [oY] at h
  split at h
  ·cases h
  ·split at h
   ·cases h; decide
   ·split at h
    ·cases h; decide
    ·split at h
     ·cases h; decide
     ·cases h
theorem zS : ∀ f, (∀ lvl n s e, 2 * s.length + 1 ≤ f → lP f lvl n s = .error e → e ≠ 0) ∧ (∀ lvl n s e, 2 * s.length + 2 ≤ f → kM f lvl n s = .error e → e ≠ 0) := by
 intro f
 induction f with
 | zero=>exact ⟨fun lvl n s e h=>by omega,fun lvl n s e h=>by omega⟩
 | succ f ih =>
  refine ⟨fun lvl n s e hf h=>?_,fun lvl n s e hf h=>?_⟩
  ·unfold lP at h
   cases s with
   | nil=>cases h; decide
   | cons c s =>
    simp only at h
    split at h
    ·cases h; decide
    split at h
    ·cases h; decide
    split at h
    ·cases h; decide
    split at h
    ·rename_i hl; cases h; exact aB2 hl
    ·rename_i k t hl
     have hl:=mC hl
     split at h
     ·cases h; decide
     ·split at h
      ·cases h
      ·split at h
       ·rename_i hk; cases h
        exact ih.2 _ _ _ _ (by rw [List.length_take]; simp only [List.length_cons] at hf; omega) hk
       ·cases h
  ·unfold kM at h
   cases s with
   | nil=>cases h
   | cons c s =>
    simp only at h
    split at h
    ·rename_i hv; cases h
     exact ih.1 _ _ _ _ (by omega) hv
    ·rename_i d t n2 hv
     have hv:=(oQ f).1 _ _ _ _ _ _ hv
     split at h
     ·rename_i hk; cases h
      exact ih.2 _ _ _ _ (by omega) hk
     ·cases h
theorem DV.fill {h:aA} {F:Nat→Prop} {d:Der} {cs:List AV} (D:DV h F d cs):fC z5 [(0,5,.ag cs)]=some cs:=by cases D; rfl
theorem DV.cells {h:aA} {F:Nat→Prop} {d:Der} {cs:List AV} (D:DV h F d cs):cs.all AV.cellOK=true:=by
 cases D with
 | mk _ _ _ hc=>simp [AV.cellOK] at hc ⊢; exact hc
theorem Arr.cellOK {sz:Nat} {h:aA} {v:AV} {cs:List AV} {n:Nat} (A:Arr sz h v cs n):v.cellOK=true:=by
 rcases A with ⟨rfl,_⟩ | ⟨id,b,rfl,_⟩ <;> rfl
theorem aPN (c:UInt8):cI .and .i64 (c.toNat:Int) 31=((c.toNat % 32:Nat):Int):=by
 have hc:=c.toNat_lt
 have:=qL (x:=c.toNat) (n:=5) (by omega) (by omega)
 exact this
theorem aPL (c:UInt8):decide (cI .and .i64 (c.toNat:Int) 32=0)=decide (c.toNat / 32 % 2=0):=by
 have h:∀ n:Nat,n<256→decide (cI .and .i64 (n:Int) 32=0)=decide (n / 32 % 2=0):=by decide +kernel
 exact h c.toNat c.toNat_lt
section
variable {h0:aA}
def aOO (id0:Nat) (h:aA) (Q:AV→aA→Prop):Except Int (Der × List UInt8 × Nat)→Prop
 | .error e=>∀ h',Upd (· = id0) h h'→Q (.tu [.ag z5,.s [],.i .i64 e]) h'
 | .ok (d,r,n)=>∀ cs h',Upd (· = id0) h h'→bE h' id0 [.i .i64 (n:Int)]→DV h' (fun i=>h.length≤i) d cs→Q (.tu [.ag cs,.s r,.i .i64 0]) h'
def aPY (id0 i6 i10 base:Nat) (h:aA) (c t:Int) (ks:List Der) (rest:List UInt8) (Q:AV→aA→Prop):Except Int (List Der × Nat)→Prop
 | .error e=>∀ h',Upd (fun i=>i=id0∨i=i6∨i=i10∨base≤i) h h'→Q (.tu [.ag z5,.s [],.i .i64 e]) h'
 | .ok (ks',n)=>∀ cs h',Upd (fun i=>i=id0∨i=i6∨i=i10∨base≤i) h h'→bE h' id0 [.i .i64 (n:Int)]→DV h' (fun i=>base≤i) (.mk c t true [] (ks++ks')) cs→Q (.tu [.ag cs,.s rest,.i .i64 0]) h'
theorem aMR : ∀ f,
  (∀ (lvl n:Nat) (s:List UInt8) (id0:Nat) (h:aA) (Q:AV→aA→Prop),2 * s.length+1≤f→s.length≤100000→lvl≤1000→n≤256→bE h id0 [.i .i64 (n:Int)]→aOO id0 h Q (lP f lvl n s) →
   C Y56.id [.p (some ⟨id0,1,0⟩),.s s,.i .i64 (lvl:Int)] h Q) ∧
  (∀ (lvl n:Nat) (s rest:List UInt8) (ks:List Der) (rows:List (List AV)) (v:AV) (base id0 i6 i10:Nat) (c t:Int) (z:List AV) (h0 h:aA) (Q:AV→aA→Prop),2 * s.length+2≤f→rows.length+s.length≤100000→lvl≤24→n≤256→id0<base→i6<base→i10<base→id0≠i6→id0≠i10→i6≠i10→base≤h.length →
   bE h id0 [.i .i64 (n:Int)]→bE h i6 z→z.length=5→bE h i10 [.i .i64 c,.i .i64 t,.b true,.s [],v]→Arr 5 h v rows.flatten rows.length→(∀ i,bZ v i→base≤i)→DVs h (fun i=>base≤i∧¬ bZ v i) ks rows →
   aPY id0 i6 i10 base h c t ks rest Q (kM f lvl n s) →
   Y56.p0 (aI h0 Q) (.p (some ⟨id0,1,0⟩)) lvl (.p (some ⟨i6,5,0⟩)) (.p (some ⟨i10,5,0⟩)) s rest h):=by
 intro f
 induction f with
 | zero=>exact ⟨fun lvl n s id0 h Q hf=>by omega,fun lvl n s rest ks rows v base id0 i6 i10 c t z h0 h Q hf=>by omega⟩
 | succ f ih =>
  refine ⟨?_, ?_⟩
  ·intro lvl n s id0 h Q hf hs hlv hn R hq
   refine Y56.call ?_
   simp only [Y56.t, ← Y56.p0.eq_1]
   refine b9 fun h1 hl1 U1 R6=>?_
   have R0:=R.upd U1 fun h=>h
   have id0l:=R.lt
   have err:∀ (e:Int) (hx:aA),aOO id0 h Q (.error e)→Upd (· = id0) h hx→bE hx h.length z5 →
     aS 5 (.p (some ⟨h.length,5,0⟩)) (.ag z5) hx fun h4=>aB 5 (.p (some ⟨h.length,5,0⟩)) h4 fun v6=>aI h Q (.tu [v6,.s [],.i .i64 e]) h4:=by
    intro e hx hv U Rx
    refine bA Rx rfl rfl rfl fun h4 hl4 U4 R4=>bB R4 rfl (.inl (hv h4 (U.trans U4 fun i hi he=>absurd he (by omega))))
   unfold lP at hq
   cases s with
   | nil=>exact aM rfl (err 1 h1 hq (U1.mono fun _ _ h=>h.elim) R6)
   | cons c s =>
    have hc:=c.toNat_lt
    simp only [List.length_cons] at hf hs
    refine aK (by simp) (cW (i:=0) rfl ?_)
    rw [aL (by omega) (by omega)]
    refine mN (k:=.i64) (b:=6) (by decide) ?_
    refine aJ (aPN c) (aJ rfl ?_)
    refine b9 fun h2 hl2 U2 R10=>?_
    refine bA R10 rfl rfl rfl fun h3 hl3 U3 R10'=>?_
    have R0:=(R0.upd U2 fun h=>h).upd U3 (by omega)
    have R6:=(R6.upd U2 fun h=>h).upd U3 (by omega)
    refine b8 (aP (aO R0 rfl rfl (aU (inc (by omega) (b8 (aP (cM R0 rfl (by simp) rfl rfl rfl fun h4 hl4 U4 R0=>?_)))))))
    have R0:bE h4 id0 [.i .i64 ((n+1:Nat):Int)]:=R0
    have R6:=R6.upd U4 (by omega)
    have R10:=R10'.upd U4 (by omega)
    have U:Upd (· = id0) h h4:=(((U1.mono fun _ _ h=>h.elim).trans U2 fun _ _ h=>h.elim).trans U3 fun i hi he=>absurd he (by omega)).trans U4 fun _ _ h=>h
    refine aP (aO R10 rfl rfl (aU ?_))
    simp only at hq
    by_cases e31:c.toNat % 32=31
    ·rw [if_pos e31] at hq
     exact aM (by simp; omega) (err 2 h4 hq U R6)
    rw [if_neg e31] at hq
    refine aK (by simp; omega) ?_
    by_cases e24:24<lvl
    ·rw [if_pos e24] at hq
     exact aM (by simp; omega) (err 9 h4 hq U R6)
    rw [if_neg e24] at hq
    refine aK (by simp; omega) (b8 (aP (aO R0 rfl rfl (aU ?_))))
    by_cases e256:256<n+1
    ·rw [if_pos e256] at hq
     exact aM (by simp; omega) (err 3 h4 hq U R6)
    rw [if_neg e256] at hq
    refine aK (by simp; omega) (iD (lo:=1) (by simp) (aJB (by simp; omega) ?_))
    rw [show (c :: s).drop 1=s from rfl]
    cases hl:oY s with
    | error e =>
     rw [hl] at hq
     refine bD (aU (bC (aZ (jD (aU ?_)))))
     exact aM (by simp [aB2 hl]) (err e h4 hq U R6)
    | ok x =>
     obtain ⟨k,t⟩:=x
     rw [hl] at hq
     simp only at hq
     have hsh:=mC hl
     refine bD (aU (bC (aZ (jD (aU (aK (by simp) ?_))))))
     by_cases hk:t.length<k
     ·rw [if_pos hk] at hq
      exact aM (by simp; omega) (err 1 h4 hq U R6)
     rw [if_neg hk] at hq
     refine aK (by simp; omega) (j3 (by omega) (iD (by omega) (aP (aO R10 rfl rfl (aX ?_)))))
     have e32:=aPL c
     by_cases hm:c.toNat / 32 % 2=0
     ·rw [if_pos hm] at hq
      rw [decide_eq_true hm] at e32
      refine aM (by rw [e32] <;> rfl) ?_
      refine aP (cM R10 rfl (by simp) rfl rfl rfl fun h5 hl5 U5 R10=>bB R10 rfl ?_)
      have R6:=R6.upd U5 (by omega)
      have R0:=R0.upd U5 (by omega)
      refine bA R6 rfl rfl (by simp [AV.cellOK]) fun h6 hl6 U6 R6=>bB R6 rfl (.inl ?_)
      have R0:=R0.upd U6 (by omega)
      refine hq _ h6 ((U.trans U5 fun i hi he=>absurd he (by omega)).trans U6 fun i hi he=>absurd he (by omega)) R0 ?_
      rw [e32]
      exact DV.leaf h6 _ _ _ _ _
     ·rw [if_neg hm] at hq
      rw [decide_eq_false hm] at e32
      refine aK (by rw [e32] <;> rfl) ?_
      rw [e32] at R10
      have:=ih.2 lvl (n+1) (t.take k) (t.drop k) [] [] (.sl none 0 none) (h.length+2) id0 h.length (h.length+1) (c.toNat / 64:Nat) (c.toNat % 32:Nat) z5 h h4 Q
       (by rw [List.length_take]; omega) (by rw [List.length_take]; simp; omega) (by omega) (by omega) (by omega) (by omega) (by omega) (by omega) (by omega) (by omega) (by omega) R0 R6 rfl (by rw [← hl1]; exact R10) (Arr.nil 5 h4) (fun i hi=>hi.elim) .nil ?_
      ·rw [← hl1] at this; exact this
      ·cases hd : kM f lvl (n + 1) (t.take k) with
       | error e =>
        rw [hd] at hq
        exact fun h' U'=>hq h' (U.trans U' fun i hi he=>by omega)
       | ok y =>
        obtain ⟨ks,n'⟩:=y
        rw [hd] at hq
        exact fun cs h' U' R' D'=>hq cs h' (U.trans U' fun i hi he=>by omega) R' (D'.upd (Upd.refl (fun _=>False) h') fun i hi _=>⟨fun h=>h,by omega⟩)
  ·intro lvl n s rest ks rows v base id0 i6 i10 c t z h0 h Q hf hs hlv hn b0 b6 b10 n06 n010 n610 hbl R0 R6 hz R10 A hvb D hq
   refine Y56.i0 ?_
   simp only [Y56.t0, ← Y56.p0.eq_1]
   unfold kM at hq
   cases s with
   | nil =>
    refine aK (by simp) (bB R10 rfl (bA R6 hz.symm rfl (by simp [AV.cellOK]; exact Arr.cellOK A) fun h1 hl1 U1 R6=>?_))
    refine bB R6 rfl (.inl (hq _ h1 (U1.mono fun i _ h=>.inr (.inl h)) (R0.upd U1 n06) ?_))
    rw [List.append_nil]
    have A1:=A.upd U1 fun i hi he=>by have:=hvb i hi; omega
    exact .mk (D.upd U1 fun i hi hl=>⟨by omega,hi.1⟩) (.inl A1.rd) (fun i hi=>⟨hvb i hi,A1.rd.lt hi⟩) (Arr.cellOK A)
   | cons x s =>
    simp only [List.length_cons] at hf hs
    simp only at hq
    refine aM (by simp) (b9 fun h1 hl1 U1 R84=>?_)
    refine inc (by omega) ?_
    have R0:=R0.upd U1 fun h=>h
    have R6:=R6.upd U1 fun h=>h
    have R10:=R10.upd U1 fun h=>h
    refine ih.1 (lvl+1) n (x :: s) id0 h1 _ (by simp only [List.length_cons]; omega) (by simp only [List.length_cons]; omega) (by omega) hn R0 ?_
    cases hv:lP f (lvl+1) n (x :: s) with
    | error e =>
     rw [hv] at hq
     have he:=(zS f).1 _ _ _ _ (by simp only [List.length_cons]; omega) hv
     intro h2 U2
     refine bD (bC (aZ (jD (aU ?_))))
     have R84:=R84.upd U2 (by omega)
     have R6:=R6.upd U2 (by omega)
     refine bA R84 rfl rfl rfl fun h3 hl3 U3 _=>?_
     have R6:=R6.upd U3 (by omega)
     refine aM (by simp [he]) (bA R6 hz.symm rfl rfl fun h4 hl4 U4 R6=>bB R6 rfl (.inl (hq h4 ?_)))
     refine (((U1.mono fun _ _ h=>h.elim).trans U2 fun i hi he=>.inl he).trans U3 fun i hi he=>absurd he (by omega)).trans U4 fun i hi he=>.inr (.inl he)
    | ok y =>
     obtain ⟨d,t',n'⟩:=y
     rw [hv] at hq
     simp only at hq
     have hsh:=(oQ f).1 _ _ _ _ _ _ hv
     simp only [List.length_cons] at hsh
     intro cs h2 U2 R0 Dd
     refine bD (bC (aZ (jD (aU ?_))))
     have R84:=R84.upd U2 (by omega)
     have R6:=R6.upd U2 (by omega)
     have R10:=R10.upd U2 (by omega)
     have hvl:∀ i,bZ v i→i<h.length:=fun i hi=>A.rd.lt hi
     have A2:=(A.upd U1 fun _ _ h=>h).upd U2 fun i hi he=>by have:=hvb i hi; omega
     have D2:=(D.upd (F':=fun i=>(base≤i∧¬ bZ v i)∧i<h.length) U1 fun i hi hl=>⟨fun h=>h,hi,hl⟩).upd (F':=fun i=>(base≤i∧¬ bZ v i)∧i<h.length) U2 fun i hi _=>⟨by omega,hi⟩
     refine bA R84 rfl Dd.len Dd.cells fun h3 hl3 U3 R84=>?_
     have R0:=R0.upd U3 (by omega)
     have R6:=R6.upd U3 (by omega)
     have R10:=R10.upd U3 (by omega)
     have A3:=A2.upd U3 fun i hi he=>by have:=hvl i hi; omega
     have D3:=D2.upd (F':=fun i=>base≤i∧¬ bZ v i) U3 fun i hi hl=>⟨by omega,hi.1⟩
     ·have Dd3 := Dd.upd (F' := fun i => h1.length ≤ i) U3 fun i hi _ => ⟨by omega, hi⟩
      refine aK (by simp) (aP (aO R10 rfl rfl (bB R84 Dd.len.symm ?_)))
      refine A3.push (x:=.ag cs) (by decide) Dd.fill Dd.len Dd.cells (by omega) (by omega) fun v' h4 U4 A4 F4=>?_
      have R10:=R10.upd U4 fun hs=>by have:=hvb i10 hs; omega
      have R0:=R0.upd U4 fun hs=>by have:=hvb id0 hs; omega
      have R6:=R6.upd U4 fun hs=>by have:=hvb i6 hs; omega
      have D4:=D3.upd (F':=fun i=>base≤i∧¬ bZ v' i) U4 fun i hi hl=>⟨hi.2,hi.1,fun hs=>by
       rcases F4 i hs with h | h
       ·exact hi.2 h
       ·omega⟩
      have Dd4:=Dd3.upd (F':=fun i=>base≤i∧¬ bZ v' i) U4 fun i hi hl=>⟨fun hs=>by have:=hvl i hs; omega,by omega,fun hs=>by
       rcases F4 i hs with h | h
       ·have:=hvl i h; omega
       ·omega⟩
      refine aP (cM R10 rfl (by simp) (by rcases A4 with ⟨rfl,_⟩ | ⟨_,_,rfl,_⟩ <;> rfl) (by rcases A4 with ⟨rfl,_⟩ | ⟨_,_,rfl,_⟩ <;> rfl) (Arr.cellOK A4) fun h5 hl5 U5 R10=>?_)
      have hv'b:∀ i,bZ v' i→base≤i:=fun i hs=>by
       rcases F4 i hs with h | h
       ·exact hvb i h
       ·have:=U1.1; have:=U2.1; have:=U3.1; omega
      have A5:=A4.upd U5 fun i hi he=>by have:=hv'b i hi; omega
      have D5:=(D4.app Dd4).upd (F':=fun i=>base≤i∧¬ bZ v' i) U5 fun i hi hl=>⟨by omega,hi⟩
      have UU:Upd (fun i=>i=id0∨i=i6∨i=i10∨base≤i) h h5:=((((U1.mono fun _ _ h=>h.elim).trans U2 fun i hi he=>.inl he).trans U3 fun i hi he=>absurd he (by omega)).trans U4 fun i hi he=>.inr (.inr (.inr (hvb i he)))).trans U5 fun i hi he=>.inr (.inr (.inl he))
      refine ih.2 lvl n' t' rest (ks++[d]) (rows++[cs]) v' base id0 i6 i10 c t z h0 h5 Q (by omega) (by simp; omega) hlv (by omega) b0 b6 b10 n06 n010 n610 (by have:=UU.1; omega) (R0.upd U5 n010) (R6.upd U5 n610) hz R10 ?_ hv'b D5 ?_
      ·have A5 : Arr 5 h5 v' (rows.flatten ++ cs) (rows.length + 1) := A5
       simpa using A5
      ·cases hk : kM f lvl n' t' with
       | error e =>
        rw [hk] at hq
        exact fun h' U'=>hq h' (UU.trans U' fun _ _ h=>h)
       | ok y =>
        obtain ⟨ks',n''⟩:=y
        rw [hk] at hq
        exact fun cs' h' U' R' D'=>hq cs' h' (UU.trans U' fun _ _ h=>h) R' (by simpa using D')
end
end Go.Proofs.YtcdkpkkdolmfdaaGreatDoor
namespace Go.Proofs.YtcdkpkkdolmfdaaGreatDoor
open Go.GAM Go.RowKit
section
variable {h0:aA}
def aPZ (h:aA) (Q:AV→aA→Prop):Except Int Der→Prop
 | .error e=>∀ h',Upd (fun _=>False) h h'→Q (.tu [.ag z5,.i .i64 e]) h'
 | .ok d=>∀ cs h',Upd (fun _=>False) h h'→DV h' (fun i=>h.length≤i) d cs→Q (.tu [.ag cs,.i .i64 0]) h'
theorem aCL {s:List UInt8} {h:aA} {Q:AV→aA→Prop} (hq:aPZ h Q (nV s)):C Y34.id [.s s] h Q:=by
 refine Y34.call ?_
 simp only [Y34.t, ← Y34.p0.eq_1]
 refine b9 fun h1 hl1 U1 R0=>?_
 have err:∀ (e:Int) (hx:aA) (K:AV→aA→Prop),(∀ h4,Upd (fun _=>False) h h4→K (.ag z5) h4)→Upd (fun i=>h.length≤i) h1 hx→bE hx h.length z5 →
   aS 5 (.p (some ⟨h.length,5,0⟩)) (.ag z5) hx fun h4=>aB 5 (.p (some ⟨h.length,5,0⟩)) h4 fun v6=>K v6 h4:=by
  intro e hx K hk U Rx
  refine bA Rx rfl rfl rfl fun h4 hl4 U4 R4=>bB R4 rfl (hk h4 ?_)
  exact ((U1.mono (M':=fun i=>h.length≤i) fun _ _ h=>h.elim).trans U fun _ _ h=>h).trans U4 (fun i hi he=>by subst he; exact Nat.le_refl _) |>.mono fun i hi he=>by omega
 unfold nV at hq
 by_cases hl:65535<s.length
 ·rw [if_pos hl] at hq
  exact aM (by simp; omega) (err 3 h1 _ (fun h4 U=>.inl (hq h4 U)) (Upd.refl _ _) R0)
 rw [if_neg hl] at hq
 refine aK (by simp; omega) (d3 rfl fun h2 hl2 U2 R2=>?_)
 have R0:=R0.upd U2 fun h=>h
 refine (aMR (2 * s.length+1)).1 1 0 s h1.length h2 _ (Nat.le_refl _) (by omega) (by omega) (by omega) R2 ?_
 cases hv:lP (2 * s.length+1) 1 0 s with
 | error e =>
  rw [hv] at hq
  have he:=(zS _).1 _ _ _ _ (Nat.le_refl _) hv
  intro h3 U3
  refine bD (bC (aZ (jD (aU (b9 fun h4 hl4 U4 R4=>bA R4 rfl rfl rfl fun h5 hl5 U5 R5=>?_)))))
  have:=U3.1
  have R0:=((R0.upd U3 (by omega)).upd U4 fun h=>h).upd U5 (by omega)
  refine aK (by simp [he]) ?_
  refine Y34.i0 ?_
  simp only [Y34.t0, ← Y34.p1.eq_1]
  refine aK rfl ?_
  refine Y34.i1 ?_
  simp only [Y34.t1]
  refine aM (by simp [he]) (err e h5 _ (fun h6 U=>.inl (hq h6 U)) ?_ R0)
  exact (((U2.mono fun _ _ h=>h.elim).trans U3 fun i hi he=>by omega).trans U4 fun _ _ h=>h.elim).trans U5 fun i hi he=>by omega
 | ok y =>
  obtain ⟨d,r,n'⟩:=y
  rw [hv] at hq
  intro cs h3 U3 _ D
  refine bD (bC (aZ (jD (aU (b9 fun h4 hl4 U4 R4=>bA R4 rfl D.len D.cells fun h5 hl5 U5 R5=>?_)))))
  have:=U3.1
  have R0:=((R0.upd U3 (by omega)).upd U4 fun h=>h).upd U5 (by omega)
  have UU:Upd (fun i=>h.length≤i) h1 h5:=(((U2.mono fun _ _ h=>h.elim).trans U3 fun i hi he=>by omega).trans U4 fun _ _ h=>h.elim).trans U5 fun i hi he=>by omega
  have D5:=(D.upd (F':=fun i=>h2.length≤i∧i<h3.length) U4 fun i hi hl=>⟨fun h=>h,hi,hl⟩).upd (F':=fun i=>h2.length≤i∧i<h3.length) U5 fun i hi _=>⟨by omega,hi⟩
  refine aM (by simp) ?_
  refine Y34.i0 ?_
  simp only [Y34.t0, ← Y34.p1.eq_1]
  refine aG (fun e=>?_) fun e=>?_
  ·have hr : r ≠ [] := by simpa using e
   simp only [if_neg hr] at hq
   refine Y34.i1 ?_
   simp only [Y34.t1]
   exact aM (by simp) (err 2 h5 _ (fun h6 U=>.inl (hq h6 U)) UU R0)
  ·have hr : r = [] := by simpa using e
   simp only [if_pos hr] at hq
   refine Y34.i1 ?_
   simp only [Y34.t1]
   refine aK (by simp) (bB R5 D.len.symm (bA R0 rfl D.len D.cells fun h6 hl6 U6 R6=>bB R6 D.len.symm (.inl (hq cs h6 ?_ ?_))))
   ·exact ((U1.mono (M':=fun i=>h.length≤i) fun _ _ h=>h.elim).trans UU fun _ _ h=>h).trans U6 (fun i hi he=>by omega) |>.mono fun i hi he=>by omega
   ·exact D5.upd U6 fun i hi _=>⟨by omega,by omega⟩
end
end Go.Proofs.YtcdkpkkdolmfdaaGreatDoor
namespace Go.Proofs.YtcdkpkkdolmfdaaGreatDoor
open Go.GAM Go.RowKit
mutual
def d6 : Nat → Nat → Der → Int × Nat
 | lvl, n, .mk c t m s ks => if c < 0 ∨ 3 < c ∨ t < 0 ∨ 30 < t then (4, n + 1) else
  if (m=true∧s≠[])∨(m=false∧ks≠[]) then (13,n+1) else
  if 24<lvl then (9,n+1) else if 256<n+1 then (3,n+1) else gT (lvl+1) (n+1) ks
def gT:Nat→Nat→List Der→Int × Nat
 | _,n,[]=>(0,n)
 | lvl,n,k :: r=>if (d6 lvl n k).1≠0 then d6 lvl n k else gT lvl (d6 lvl n k).2 r
end
theorem aNC : ∀ m, (∀ (d : Der) (lvl n : Nat), d.sz ≤ m → (d6 lvl n d).1 = 0 → (d6 lvl n d).2 ≤ 256) ∧ (∀ (ks : List Der) (lvl n : Nat), szs ks ≤ m → (gT lvl n ks).1 = 0 → (gT lvl n ks).2 ≤ n ∨ (gT lvl n ks).2 ≤ 256) := by
 intro m
 induction m with
 | zero =>
  refine ⟨fun d lvl n hd=>absurd hd (by have:=eX d; omega),fun ks lvl n hk _=>?_⟩
  cases ks with
  | nil=>unfold gT; exact .inl (Nat.le_refl _)
  | cons k r=>have:=eX k; unfold szs at hk; omega
 | succ m ih =>
  have hV:∀ (d:Der) (lvl n:Nat),d.sz≤m+1→(d6 lvl n d).1=0→(d6 lvl n d).2≤256:=by
   intro d lvl n hd h
   obtain ⟨c,t,mm,s,ks⟩:=d
   unfold Der.sz at hd
   unfold d6 at h ⊢
   split at h
   ·cases h
   rename_i c1
   split at h
   ·cases h
   rename_i c2
   split at h
   ·cases h
   rename_i c3
   split at h
   ·cases h
   rename_i c4
   rw [if_neg c1,if_neg c2,if_neg c3,if_neg c4]
   have:=ih.2 ks (lvl+1) (n+1) (by omega) h
   omega
  refine ⟨hV,fun ks=>?_⟩
  induction ks with
  | nil=>intro lvl n _ _; unfold gT; exact .inl (Nat.le_refl _)
  | cons k r ihr =>
   intro lvl n hk h
   unfold szs at hk
   unfold gT at h ⊢
   split at h
   ·rename_i h1; exact absurd h h1
   ·rename_i h1
    rw [if_neg h1]
    have h1:(d6 lvl n k).1=0:=by simpa using h1
    have:=hV k lvl n (by omega) h1
    have:=ihr lvl _ (by omega) h
    omega
section
variable {h0:aA}
theorem qJ {k:Der} {r:List Der} {lvl n:Nat}:gT lvl n (k :: r)=if (d6 lvl n k).1≠0 then d6 lvl n k else gT lvl (d6 lvl n k).2 r:=by
 rw [gT]
theorem aIN : ∀ m, m ≤ 1000000 → ∀ (d : Der) (cs : List AV) (F : Nat → Prop) (lvl n id0 : Nat) (h : aA) (Q : AV → aA → Prop), d.sz ≤ m → lvl ≤ 1000 → n ≤ 256 → bE h id0 [.i .i64 (n : Int)] → DV h F d cs → (∀ i, F i → i ≠ id0) →
  (∀ h',Upd (· = id0) h h'→bE h' id0 [.i .i64 ((d6 lvl n d).2:Int)]→Q (.i .i64 (d6 lvl n d).1) h')→C Y30.id [.p (some ⟨id0,1,0⟩),.ag cs,.i .i64 (lvl:Int)] h Q:=by
 intro m
 induction m with
 | zero=>intro _ d cs F lvl n id0 h Q hd; have:=eX d; omega
 | succ m ih =>
  intro hm d cs F lvl n id0 h Q hd hlv hn R D hF hq
  cases D with
  | @mk c t mm s ks v rows Dk sv fv ov=>
  refine Y30.call ?_
  simp only [Y30.t, ← Y30.p0.eq_1]
  unfold Der.sz at hd
  have hkl:=oW ks
  have hln:=Dk.length
  have id0l:=R.lt
  refine d3 rfl fun h1 hl1 U1 B=>?_
  have R1:=R.upd U1 fun h=>h
  refine b8 (aP (aO R1 rfl rfl (aU (inc (by omega) (b8 (aP (cM R1 rfl (by simp) rfl rfl rfl fun h2 hl2 U2 R2=>?_)))))))
  have R2:bE h2 id0 [.i .i64 ((n+1:Nat):Int)]:=R2
  have B:=B.upd U2 (by omega)
  have U:Upd (· = id0) h h2:=(U1.mono fun _ _ h=>h.elim).trans U2 fun _ _ h=>h
  have S2:=sv.upd U fun i hs _=>hF i (fv i hs).1
  have D2:=Dk.upd (F':=F) U fun i hi _=>⟨hF i hi,hi⟩
  unfold d6 at hq
  have lens:∀ K:Int→Prop,K (ks.length:Int)→bP v K:=fun K hk=>S2.len (by rw [← hln]; exact hk)
  have hks:∀ k∈ks,k.sz≤m:=fun k hk=>by have:=oO hk; omega
  have goK:24<lvl∨∀ (r:List Der) (i n2:Nat) (h2:aA),ks.drop i=r→i≤ks.length→n2≤256→Upd (· = id0) h h2→bE h2 h.length [.i .i64 c,.i .i64 t,.b mm,.s s,v]→bE h2 id0 [.i .i64 (n2:Int)] →
    (∀ h',Upd (· = id0) h h'→bE h' id0 [.i .i64 ((gT (lvl+1) n2 r).2:Int)]→Q (.i .i64 (gT (lvl+1) n2 r).1) h')→Y30.p2 (aI h Q) (.p (some ⟨id0,1,0⟩)) lvl (.p (some ⟨h.length,5,0⟩)) i h2:=by
   by_cases h24:24<lvl
   ·exact .inl h24
   refine .inr ?_
   intro r
   induction r with
   | nil =>
    intro i n2 h2 hr hi hn2 U B R hk
    have hle:=cA hr
    have S2:=sv.upd U fun i hs _=>hF i (fv i hs).1
    refine Y30.i2 ?_
    simp only [Y30.t2, ← Y30.p2.eq_1]
    refine aP (aO B rfl rfl (S2.len (aK (by simp; omega) (.inl ?_))))
    have:=hk h2 U (by unfold gT; exact R)
    unfold gT at this
    exact this
   | cons k r ihr =>
    intro i n2 h2 hr hi hn2 U B R hk
    have hlt:=cG hr
    have hn':=bU hr
    have hki:=b5 hr
    have S2:=sv.upd U fun i hs _=>hF i (fv i hs).1
    have D2:=Dk.upd (F':=F) U fun i hi _=>⟨hF i hi,hi⟩
    obtain ⟨r1,g1,e1⟩:=D2.get hki
    obtain ⟨id1,ver1,off1,cap1,b1,rfl,A1⟩:=S2.at (by omega)
    have q1:=j4 rows i r1 D2.len5 g1
    have hk0:=List.mem_of_getElem? hki
    refine Y30.i2 ?_
    simp only [Y30.t2, ← Y30.p2.eq_1]
    refine aP (aO B rfl rfl (S2.len (aM (by simp; omega) ?_)))
    refine aP (aO B rfl rfl (dE A1 (by omega) (nG A1 (by omega) q1 (inc (by omega) ?_))))
    refine ih (by omega) k r1 F (lvl+1) n2 id0 h2 _ (hks k hk0) (by omega) hn2 R e1 hF fun h3 U3 R3=>aU ?_
    have UU:=U.trans U3 fun _ _ h=>h
    have B:=B.upd U3 (by omega)
    rw [qJ] at hk
    by_cases he:(d6 (lvl+1) n2 k).1≠0
    ·rw [if_pos he] at hk
     exact aM (by simp [he]) (.inl (hk h3 UU R3))
    ·rw [if_neg he] at hk
     have he0:(d6 (lvl+1) n2 k).1=0:=by simpa using he
     refine aK (by simp [he0]) (inc (by omega) ?_)
     exact ihr (i+1) _ h3 hn' (by omega) ((aNC k.sz).1 k _ _ (Nat.le_refl _) he0) UU B R3 hk
  have p1:¬ (c<0∨3<c∨t<0∨30<t)→∀ b,b=decide ((mm=true∧s≠[])∨(mm=false∧ks≠[]))→Y30.p1 (aI h Q) (.p (some ⟨id0,1,0⟩)) lvl (.p (some ⟨h.length,5,0⟩)) b h2:=by
   intro c1 b hb
   rw [if_neg c1] at hq
   refine Y30.i1 ?_
   simp only [Y30.t1, ← Y30.p2.eq_1]
   refine aG (fun e=>?_) fun e=>?_
   ·subst e
    rw [if_pos (by simpa using hb.symm)] at hq
    exact .inl (hq h2 U R2)
   ·subst e
    rw [if_neg (of_decide_eq_false hb.symm)] at hq
    by_cases c3:24<lvl
    ·rw [if_pos c3] at hq
     exact aM (by simp; omega) (.inl (hq h2 U R2))
    rw [if_neg c3] at hq
    refine aK (by simp; omega) (b8 (aP (aO R2 rfl rfl (aU ?_))))
    by_cases c4:256<n+1
    ·rw [if_pos c4] at hq
     exact aM (by simp; omega) (.inl (hq h2 U R2))
    rw [if_neg c4] at hq
    refine aK (by simp; omega) ?_
    exact goK.resolve_left c3 ks 0 (n+1) h2 rfl (by omega) (by omega) U B R2 hq
  have p0 : ∀ b, b = decide (c < 0 ∨ 3 < c ∨ t < 0 ∨ 30 < t) → Y30.p0 (aI h Q) (.p (some ⟨id0, 1, 0⟩)) lvl (.p (some ⟨h.length, 5, 0⟩)) b h2 := by
   intro b hb
   refine Y30.i0 ?_
   simp only [Y30.t0, ← Y30.p1.eq_1]
   refine aG (fun e=>?_) fun e=>?_
   ·subst e
    rw [if_pos (by simpa using hb.symm)] at hq
    exact .inl (hq h2 U R2)
   ·subst e
    have p1:=p1 (of_decide_eq_false hb.symm)
    refine aP (aO B rfl rfl (aX ?_))
    cases mm with
    | true =>
     refine aM rfl (aP (aO B rfl rfl (aZ ?_)))
     refine aG (fun e=>p1 _ ?_) fun e=>aP (aO B rfl rfl (aX (aK rfl (p1 _ ?_))))
     ·have : s ≠ [] := by simpa using e
      simp [this]
     ·have : s = [] := by simpa using e
      simp [this]
    | false =>
     refine aK rfl (aP (aO B rfl rfl (aX (aM rfl (aP (aO B rfl rfl (lens _ (p1 _ ?_))))))))
     rw [decide_eq_decide]
     simp only [Bool.false_eq_true,false_and,true_and,false_or]
     rw [← List.length_pos_iff]; omega
  refine aP (aO B rfl rfl (aU ?_))
  refine aG (fun e=>p0 _ ?_) fun e1=>aP (aO B rfl rfl (aU ?_))
  ·simp only [decide_eq_true_eq] at e
   simp [e]
  refine aG (fun e=>p0 _ ?_) fun e2=>aP (aO B rfl rfl (aU ?_))
  ·simp only [decide_eq_true_eq] at e
   simp [e]
  refine aG (fun e=>p0 _ ?_) fun e3=>aP (aO B rfl rfl (aU (p0 _ ?_)))
  ·simp only [decide_eq_true_eq] at e
   simp [e]
  simp only [decide_eq_false_iff_not] at e1 e2 e3
  rw [decide_eq_decide]; omega
theorem aLJ : ∀ m, m ≤ 1000000 → ∀ (d : Der) (cs : List AV) (F : Nat → Prop) (lvl n id0 : Nat) (h : aA) (Q : AV → aA → Prop), d.sz ≤ m → lvl ≤ 1000 → n ≤ 256 → bE h id0 [.i .i64 (n : Int)] → DV h F d cs → (∀ i, F i → i ≠ id0) →
  (∀ h',Upd (· = id0) h h'→bE h' id0 [.i .i64 ((d6 lvl n d).2:Int)]→Q (.i .i64 (d6 lvl n d).1) h')→C Y39.id [.p (some ⟨id0,1,0⟩),.ag cs,.i .i64 (lvl:Int)] h Q:=by
 intro m
 induction m with
 | zero=>intro _ d cs F lvl n id0 h Q hd; have:=eX d; omega
 | succ m ih =>
  intro hm d cs F lvl n id0 h Q hd hlv hn R D hF hq
  cases D with
  | @mk c t mm s ks v rows Dk sv fv ov=>
  refine Y39.call ?_
  simp only [Y39.t, ← Y39.p0.eq_1]
  unfold Der.sz at hd
  have hkl:=oW ks
  have hln:=Dk.length
  have id0l:=R.lt
  refine d3 rfl fun h1 hl1 U1 BP=>d3 rfl fun h2 hl2 U2 B=>d3 rfl fun h3 hl3 U3 BL=>?_
  have U03:Upd (fun _=>False) h h3:=(U1.trans U2 fun _ _ h=>h).trans U3 fun _ _ h=>h
  have R3:=R.upd U03 fun h=>h
  have BP:=(BP.upd U2 fun h=>h).upd U3 fun h=>h
  have B:=B.upd U3 fun h=>h
  refine aO BP rfl rfl ?_
  refine b8 (aP (aO R3 rfl rfl (aU (inc (by omega) (b8 (aP (cM R3 rfl (by simp) rfl rfl rfl fun h4 hl4 U4 R4=>?_)))))))
  have R4:bE h4 id0 [.i .i64 ((n+1:Nat):Int)]:=R4
  have BP:=BP.upd U4 (by omega)
  have B:=B.upd U4 (by omega)
  have BL:=BL.upd U4 (by omega)
  have U:Upd (· = id0) h h4:=(U03.mono fun _ _ h=>h.elim).trans U4 fun _ _ h=>h
  have S4:=sv.upd U fun i hs _=>hF i (fv i hs).1
  unfold d6 at hq
  have lens:∀ K:Int→Prop,K (ks.length:Int)→bP v K:=fun K hk=>S4.len (by rw [← hln]; exact hk)
  have hks:∀ k∈ks,k.sz≤m:=fun k hk=>by have:=oO hk; omega
  have p1 : ¬ (c < 0 ∨ 3 < c ∨ t < 0 ∨ 30 < t) → ∀ b, b = decide ((mm = true ∧ s ≠ []) ∨ (mm = false ∧ ks ≠ [])) → Y39.p1 (aI h Q) (.p (some ⟨h.length, 1, 0⟩)) (.p (some ⟨h1.length, 5, 0⟩)) (.p (some ⟨h2.length, 1, 0⟩)) b h4 := by
   intro c1 b hb
   rw [if_neg c1] at hq
   refine Y39.i1 ?_
   simp only [Y39.t1]
   refine aG (fun e=>?_) fun e=>?_
   ·subst e
    rw [if_pos (by simpa using hb.symm)] at hq
    exact .inl (hq h4 U R4)
   ·subst e
    rw [if_neg (of_decide_eq_false hb.symm)] at hq
    refine aO BL rfl rfl (aU ?_)
    by_cases c3:24<lvl
    ·rw [if_pos c3] at hq
     exact aM (by simp; omega) (.inl (hq h4 U R4))
    rw [if_neg c3] at hq
    refine aK (by simp; omega) (aO BP rfl rfl (b8 (aP (aO R4 rfl rfl (aU ?_)))))
    by_cases c4:256<n+1
    ·rw [if_pos c4] at hq
     exact aM (by simp; omega) (.inl (hq h4 U R4))
    rw [if_neg c4] at hq
    refine aK (by simp; omega) (b9 fun h5 hl5 U5 RE=>cM RE rfl (by simp) rfl rfl rfl fun h6 hl6 U6 RE=>?_)
    have RE:bE h6 h4.length [.i .i64 0]:=RE
    have BP:=(BP.upd U5 fun h=>h).upd U6 (by omega)
    have B:=(B.upd U5 fun h=>h).upd U6 (by omega)
    have BL:=(BL.upd U5 fun h=>h).upd U6 (by omega)
    have R6:=(R4.upd U5 fun h=>h).upd U6 (by omega)
    have U6:Upd (· = id0) h h6:=(U.trans U5 fun _ _ h=>h.elim).trans U6 fun i hi he=>absurd he (by omega)
    refine aP (aO B rfl rfl ?_)
    have S6:=sv.upd U6 fun i hs _=>hF i (fv i hs).1
    refine Y55.call ?_
    simp only [Y55.t, ← Y55.p0.eq_1]
    refine S6.len ?_
    rw [← hln]
    generalize hK:(fun (v76:AV) (h77:aA)=>asB v76 fun c78=>aC (.p (some ⟨h4.length,1,0⟩)) h77 fun v80=>asI .i64 v80 fun n81=>aI h Q (.i .i64 n81) h77)=K
    have hKe:∀ b (h7:aA) (e:Int) (n':Nat),Upd (· = id0) h h7→bE h7 h4.length [.i .i64 e]→bE h7 id0 [.i .i64 (n':Int)]→(∀ h',Upd (· = id0) h h'→bE h' id0 [.i .i64 (n':Int)]→Q (.i .i64 e) h')→K (.b b) h7:=by
     intro b h7 e n' U7 RE R7 hq
     rw [← hK]
     exact aX (aO RE rfl rfl (aU (.inl (hq h7 U7 R7))))
    clear hK
    have go:∀ (r:List Der) (i n2:Nat) (hh:aA),ks.drop i=r→i≤ks.length→n2≤256→Upd (· = id0) h hh→h6.length≤hh.length→bE hh h.length [.p (some ⟨id0,1,0⟩)]→bE hh h2.length [.i .i64 (lvl:Int)]→bE hh h4.length [.i .i64 0]→bE hh id0 [.i .i64 (n2:Int)] →
      (∀ h',Upd (· = id0) h h'→bE h' id0 [.i .i64 ((gT (lvl+1) n2 r).2:Int)]→Q (.i .i64 (gT (lvl+1) n2 r).1) h') →
      Y55.p0 (aI h6 K) (.fn (.func Y85.id) [] [.p (some ⟨h.length,1,0⟩),.p (some ⟨h2.length,1,0⟩),.p (some ⟨h4.length,1,0⟩)]) v ks.length i hh:=by
     intro r
     induction r with
     | nil =>
      intro i n2 hh hr hi hn2 U hlh BP BL RE R hk
      have hle:=cA hr
      refine Y55.i0 ?_
      simp only [Y55.t0]
      refine aK (by simp; omega) (.inl (hKe true hh 0 n2 U RE R ?_))
      unfold gT at hk
      exact hk
     | cons k r ihr =>
      intro i n2 hh hr hi hn2 U hlh BP BL RE R hk
      have hlt:=cG hr
      have hn':=bU hr
      have hki:=b5 hr
      have S2:=sv.upd U fun i hs _=>hF i (fv i hs).1
      have D2:=Dk.upd (F':=fun i=>F i∧i<h.length) U fun i hi hl=>⟨hF i hi,hi,hl⟩
      obtain ⟨r1,g1,e1⟩:=D2.get hki
      obtain ⟨id1,ver1,off1,cap1,b1,rfl,A1⟩:=S2.at (by omega)
      have q1:=j4 rows i r1 D2.len5 g1
      have hk0:=List.mem_of_getElem? hki
      refine Y55.i0 ?_
      simp only [Y55.t0, ← Y55.p0.eq_1]
      refine aM (by simp; omega) (dE A1 (by omega) (nG A1 (by omega) q1 ?_))
      refine b9 fun g1 gl1 V1 RK=>bA RK rfl e1.len e1.cells fun g2 gl2 V2 RK=>bB RK e1.len.symm ?_
      have V12:Upd (fun _=>False) hh g2:=(V1.mono (M':=fun i=>i=hh.length) fun _ _ h=>h.elim).trans V2 (fun _ _ h=>h) |>.mono fun i hi he=>by omega
      refine fW rfl ?_
      show C Y85.id [.ag r1,.p (some ⟨h.length,1,0⟩),.p (some ⟨h2.length,1,0⟩),.p (some ⟨h4.length,1,0⟩)] g2 _
      refine Y85.call ?_
      simp only [Y85.t]
      refine d3 rfl fun g3 gl3 V3 RB=>?_
      have V13:Upd (fun _=>False) hh g3:=V12.trans V3 fun _ _ h=>h
      have BP3:=BP.upd V13 fun h=>h
      have BL3:=BL.upd V13 fun h=>h
      have RE3:=RE.upd V13 fun h=>h
      have R3:=R.upd V13 fun h=>h
      have e3:=e1.ext V13
      have RB:bE g3 g2.length r1:=RB
      refine aO BP3 rfl rfl ?_
      have eP:(AV.ag r1).parts.length=5:=e1.len
      rw [eP]
      refine bB RB e1.len.symm (aO BL3 rfl rfl (aU (inc (by omega) ?_)))
      refine ih (by omega) k r1 (fun i=>F i∧i<h.length) (lvl+1) n2 id0 g3 _ (hks k hk0) (by omega) hn2 R3 e3 (fun i hi=>hF i hi.1) fun g4 V4 R4=>aU ?_
      have gg:=V4.1
      have RE4:=RE3.upd V4 (by omega)
      refine cM RE4 rfl (by simp) rfl rfl rfl fun g5 gl5 V5 RE5=>aO RE5 rfl rfl (aU (.inl (aX ?_)))
      have RE5:bE g5 h4.length [.i .i64 (d6 (lvl+1) n2 k).1]:=RE5
      have R5:=R4.upd V5 (by omega)
      have BP5:=(BP3.upd V4 (by omega)).upd V5 (by omega)
      have BL5:=(BL3.upd V4 (by omega)).upd V5 (by omega)
      have UU:Upd (· = id0) h g5:=((U.trans V13 fun _ _ h=>h.elim).trans V4 fun _ _ h=>h).trans V5 fun i hi he=>absurd he (by omega)
      have gg2:=V13.1
      rw [qJ] at hk
      by_cases he:(d6 (lvl+1) n2 k).1≠0
      ·rw [if_pos he] at hk
       exact aM (by simp [he]) (.inl (hKe false g5 _ _ UU RE5 R5 hk))
      ·rw [if_neg he] at hk
       have he0:(d6 (lvl+1) n2 k).1=0:=by simpa using he
       rw [he0] at RE5
       refine aK (by simp [he0]) (inc (by omega) ?_)
       exact ihr (i+1) _ g5 hn' (by omega) ((aNC k.sz).1 k _ _ (Nat.le_refl _) he0) UU (by omega) BP5 BL5 RE5 R5 hk
    exact go ks 0 (n+1) h6 rfl (by omega) (by omega) U6 (Nat.le_refl _) BP BL RE R6 hq
  have p0 : ∀ b, b = decide (c < 0 ∨ 3 < c ∨ t < 0 ∨ 30 < t) → Y39.p0 (aI h Q) (.p (some ⟨h.length, 1, 0⟩)) (.p (some ⟨h1.length, 5, 0⟩)) (.p (some ⟨h2.length, 1, 0⟩)) b h4 := by
   intro b hb
   refine Y39.i0 ?_
   simp only [Y39.t0, ← Y39.p1.eq_1]
   refine aG (fun e=>?_) fun e=>?_
   ·subst e
    rw [if_pos (by simpa using hb.symm)] at hq
    exact .inl (hq h4 U R4)
   ·subst e
    have p1:=p1 (of_decide_eq_false hb.symm)
    refine aP (aO B rfl rfl (aX ?_))
    cases mm with
    | true =>
     refine aM rfl (aP (aO B rfl rfl (aZ ?_)))
     refine aG (fun e=>p1 _ ?_) fun e=>aP (aO B rfl rfl (aX (aK rfl (p1 _ ?_))))
     ·have : s ≠ [] := by simpa using e
      simp [this]
     ·have : s = [] := by simpa using e
      simp [this]
    | false =>
     refine aK rfl (aP (aO B rfl rfl (aX (aM rfl (aP (aO B rfl rfl (lens _ (p1 _ ?_))))))))
     rw [decide_eq_decide]
     simp only [Bool.false_eq_true,false_and,true_and,false_or]
     rw [← List.length_pos_iff]; omega
  refine aP (aO B rfl rfl (aU ?_))
  refine aG (fun e=>p0 _ ?_) fun e1=>aP (aO B rfl rfl (aU ?_))
  ·simp only [decide_eq_true_eq] at e
   simp [e]
  refine aG (fun e=>p0 _ ?_) fun e2=>aP (aO B rfl rfl (aU ?_))
  ·simp only [decide_eq_true_eq] at e
   simp [e]
  refine aG (fun e=>p0 _ ?_) fun e3=>aP (aO B rfl rfl (aU (p0 _ ?_)))
  ·simp only [decide_eq_true_eq] at e
   simp [e]
  simp only [decide_eq_false_iff_not] at e1 e2 e3
  rw [decide_eq_decide]; omega
end
end Go.Proofs.YtcdkpkkdolmfdaaGreatDoor
namespace Go.Proofs.YtcdkpkkdolmfdaaGreatDoor
open Go.GAM Go.RowKit
mutual
def wfV:Der→Prop
 | .mk c t m s ks=>(0≤c∧c≤3∧0≤t∧t≤30)∧(m=true→s=[])∧(m=false→ks=[])∧wfK ks
def wfK:List Der→Prop
 | []=>True
 | k :: r=>wfV k∧wfK r
end
mutual
def fN:Der→Nat
 | .mk _ _ _ s ks=>s.length+10+dM ks
def dM:List Der→Nat
 | []=>0
 | k :: r=>fN k+dM r
end
def oZ (n:Nat):List UInt8:=if n<128 then [UInt8.ofNat n] else if n<256 then [129,UInt8.ofNat n] else [130,UInt8.ofNat (n / 256),UInt8.ofNat n]
def hdB (c t:Int) (m:Bool):UInt8:=UInt8.ofNat (c.toNat * 64+t.toNat+if m=true then 32 else 0)
mutual
def cT:Der→List UInt8
 | .mk c t m s ks=>hdB c t m :: oZ (s++cC ks).length++(s++cC ks)
def cC:List Der→List UInt8
 | []=>[]
 | k :: r=>cT k++cC r
end
def eS (d:Der):Except Int (List UInt8):=
 if (d6 1 0 d).1≠0 then .error (d6 1 0 d).1 else if 65535<(cT d).length then .error 3 else .ok (cT d)
theorem aDA (n:Nat):(oZ n).length≤3:=by unfold oZ; split <;> (try split) <;> simp
theorem aE7:∀ m,(∀ d:Der,d.sz≤m→(cT d).length≤fN d)∧∀ ks:List Der,szs ks≤m→(cC ks).length≤dM ks:=by
 intro m
 induction m with
 | zero =>
  refine ⟨fun d hd=>absurd hd (by have:=eX d; omega),fun ks hk=>?_⟩
  cases ks with
  | nil=>simp [cC]
  | cons k r=>have:=eX k; unfold szs at hk; omega
 | succ m ih =>
  have hV:∀ d:Der,d.sz≤m+1→(cT d).length≤fN d:=by
   intro d hd
   obtain ⟨c,t,mm,s,ks⟩:=d
   unfold Der.sz at hd
   have:=ih.2 ks (by omega)
   have:=aDA (s++cC ks).length
   unfold cT fN
   simp only [List.length_cons,List.length_append] at *
   omega
  refine ⟨hV,fun ks=>?_⟩
  induction ks with
  | nil=>intro _; simp [cC]
  | cons k r ihr =>
   intro hk
   unfold szs at hk
   have:=hV k (by omega)
   have:=ihr (by omega)
   unfold cC dM
   rw [List.length_append]; omega
theorem k6 (d:Der):(cT d).length≤fN d:=(aE7 d.sz).1 d (Nat.le_refl _)
theorem j0 (ks:List Der):(cC ks).length≤dM ks:=(aE7 (szs ks)).2 ks (Nat.le_refl _)
theorem pD:∀ (a b:List Der),cC (a++b)=cC a++cC b
 | [],b=>by simp [cC]
 | k :: a,b=>by simp [cC,pD a b]
theorem oT:∀ (a b:List Der),dM (a++b)=dM a+dM b
 | [],b=>by simp [dM]
 | k :: a,b=>by simp [dM,oT a b]; omega
theorem pX (ks:List Der) (i:Nat):dM (ks.take i)≤dM ks:=by
 have:=oT (ks.take i) (ks.drop i)
 rw [List.take_append_drop] at this; omega
theorem sK:∀ {ks:List Der} {k:Der},k∈ks→fN k≤dM ks
 | [],k,h=>by cases h
 | a :: r, k, h => by
  unfold dM
  rcases List.mem_cons.1 h with rfl | h
  ·omega
  ·have:=sK h; omega
theorem uB:∀ {ks:List Der} {k:Der},wfK ks→k∈ks→wfV k
 | [],k,_,h=>by cases h
 | a :: r, k, hw, h => by
  unfold wfK at hw
  rcases List.mem_cons.1 h with rfl | h
  ·exact hw.1
  ·exact uB hw.2 h
theorem aD8 : ∀ m, (∀ (d : Der) (lvl n : Nat), d.sz ≤ m → (d6 lvl n d).1 = 0 → wfV d) ∧ (∀ (ks : List Der) (lvl n : Nat), szs ks ≤ m → (gT lvl n ks).1 = 0 → wfK ks) := by
 intro m
 induction m with
 | zero =>
  refine ⟨fun d lvl n hd=>absurd hd (by have:=eX d; omega),fun ks lvl n hk _=>?_⟩
  cases ks with
  | nil=>unfold wfK; trivial
  | cons k r=>have:=eX k; unfold szs at hk; omega
 | succ m ih =>
  have hV:∀ (d:Der) (lvl n:Nat),d.sz≤m+1→(d6 lvl n d).1=0→wfV d:=by
   intro d lvl n hd h
   obtain ⟨c,t,mm,s,ks⟩:=d
   unfold Der.sz at hd
   unfold d6 at h
   split at h
   ·cases h
   rename_i c1
   split at h
   ·cases h
   rename_i c2
   split at h
   ·cases h
   split at h
   ·cases h
   unfold wfV
   refine ⟨by omega,fun hm=>?_,fun hm=>?_,ih.2 ks _ _ (by omega) h⟩
   ·exact Classical.byContradiction fun hs=>c2 (.inl ⟨hm,hs⟩)
   ·exact Classical.byContradiction fun hs=>c2 (.inr ⟨hm,hs⟩)
  refine ⟨hV,fun ks=>?_⟩
  induction ks with
  | nil=>intro lvl n _ _; unfold wfK; trivial
  | cons k r ihr =>
   intro lvl n hk h
   unfold szs at hk
   unfold gT at h
   unfold wfK
   split at h
   ·rename_i h1; exact absurd h h1
   ·rename_i h1
    exact ⟨hV k lvl n (by omega) (by simpa using h1),ihr _ _ (by omega) h⟩
theorem aOU {c t:Nat} (hc:c<4) (ht:t<31):c * 64 ||| t=c * 64+t∧(c * 64+t) ||| 32=c * 64+t+32:=by
 have:∀ c,c<4→∀ t,t<31→c * 64 ||| t=c * 64+t∧(c * 64+t) ||| 32=c * 64+t+32:=by decide +kernel
 exact this c hc t ht
section
variable {h0:aA} {Q:AV→aA→Prop}
theorem vU {acc l:List UInt8} {v:AV} {h:aA} (T:Tx h0 h v l) (hl:l.length+acc.length≤1000000) (hq:Q (.s (l++acc)) h0):Y19.p3 (aI h0 Q) acc v h:=by
 refine Y19.i3 ?_
 simp only [Y19.t3]
 exact T.str ⟨by omega,aV rfl T.upd.ext hq⟩
theorem aAW {acc:List UInt8} {x:Nat} {h:aA} (U:Upd (fun _=>False) h0 h) (hx:x<256) (hl:acc.length<65536) (hq:Q (.s (UInt8.ofNat x :: oZ acc.length++acc)) h0):Y19.p2 (aI h0 Q) acc x h:=by
 refine Y19.i2 ?_
 simp only [Y19.t2, ← Y19.p3.eq_1]
 rw [cK x,Nat.mod_eq_of_lt hx,show ((x:Nat):Int)=((UInt8.ofNat x).toNat:Int) by rw [UInt8.toNat_ofNat']; omega]
 refine Tx.one U fun v h1 T U1=>?_
 unfold oZ at hq
 by_cases h1:acc.length<128
 ·rw [if_pos h1] at hq
  refine aM (by simp; omega) (aJ (cK _) ?_)
  rw [eN]
  exact T.push (by simp) fun v' h' T'=>vU T' (by simp; omega) (by simpa using hq)
 rw [if_neg h1] at hq
 refine aK (by simp; omega) ?_
 by_cases h2:acc.length<256
 ·rw [if_pos h2] at hq
  refine aM (by simp; omega) (aJ (cK _) ?_)
  rw [eN]
  exact T.push2 (c:=129) (by simp) fun v' h' T'=>vU T' (by simp; omega) (by simpa using hq)
 rw [if_neg h2] at hq
 refine aK (by simp; omega) ?_
 have h3:decide ((acc.length:Int)<65536)=true:=by
  rw [decide_eq_true_eq]; omega
 rw [h3,cond_true]
 refine mN (k:=.i64) (b:=8) (by decide) (aJ (cK _) ?_)
 rw [cK,eN,eN]
 exact T.push3 (c:=130) (by simp) fun v' h' T'=>vU T' (by simp; omega) (by simpa using hq)
theorem aMB : ∀ m, m ≤ 1000000 → ∀ (d : Der) (cs : List AV) (F : Nat → Prop) (h : aA) (Q : AV → aA → Prop), d.sz ≤ m → wfV d → fN d ≤ 60000 → DV h F d cs → Q (.s (cT d)) h → C Y19.id [.ag cs] h Q := by
 intro m
 induction m with
 | zero=>intro _ d cs F h Q hd; have:=eX d; omega
 | succ m ih =>
  intro hm d cs F h Q hd hw hs D hq
  cases D with
  | @mk c t mm s ks v rows Dk sv fv ov=>
  unfold Der.sz at hd
  have hkl:=oW ks
  have hln:=Dk.length
  unfold wfV at hw
  obtain ⟨⟨hc0,hc3,ht0,ht30⟩,hw1,hw2,hw3⟩:=hw
  unfold fN at hs
  obtain ⟨cn,rfl⟩:∃ n:Nat,c=n:=⟨c.toNat,by omega⟩
  obtain ⟨tn,rfl⟩:∃ n:Nat,t=n:=⟨t.toNat,by omega⟩
  refine Y19.call ?_
  simp only [Y19.t, ← Y19.p0.eq_1]
  refine d3 rfl fun h1 hl1 U1 B=>aP (aO B rfl rfl (aZ (aP (aO B rfl rfl ?_))))
  have S1:=sv.upd U1 fun _ _ _ h=>h
  refine S1.len ?_
  rw [← hln]
  have hbl:=j0 ks
  have fin:∀ hh,Upd (fun _=>False) h hh→bE hh h.length [.i .i64 (cn:Int),.i .i64 (tn:Int),.b mm,.s s,v]→Y19.p1 (aI h Q) (.p (some ⟨h.length,5,0⟩)) (s++cC ks) hh:=by
   intro hh U B
   refine Y19.i1 ?_
   simp only [Y19.t1, ← Y19.p2.eq_1]
   obtain ⟨o1,o2⟩:=aOU (c:=cn) (t:=tn) (by omega) (by omega)
   refine aP (aO B rfl rfl (aU (aH3 (b:=6) (by omega) (by omega) ?_)))
   refine aP (aO B rfl rfl (aU (aJ (n:=((cn * 64+tn:Nat):Int)) ?_ ?_)))
   ·rw [qT (by omega) (by omega),show cn * 2 ^ 6=cn * 64 from rfl,o1]
   refine aP (aO B rfl rfl (aX ?_))
   unfold cT hdB at hq
   rw [Int.toNat_natCast,Int.toNat_natCast] at hq
   have hcl:(s++cC ks).length<65536:=by rw [List.length_append]; omega
   cases mm with
   | true =>
    refine aM rfl ?_
    have:=qT (x:=cn * 64+tn) (y:=32) (by omega) (by omega)
    rw [o2] at this
    rw [show cI .or .i64 ((cn * 64+tn:Nat):Int) 32=((cn * 64+tn+32:Nat):Int) from this]
    exact aAW U (by omega) hcl hq
   | false =>
    exact aK rfl (aAW U (by omega) hcl hq)
  have loop:∀ (r:List Der) (i:Nat) (hh:aA),ks.drop i=r→i≤ks.length→Upd (fun _=>False) h hh→bE hh h.length [.i .i64 (cn:Int),.i .i64 (tn:Int),.b mm,.s s,v]→Y19.p0 (aI h Q) (.p (some ⟨h.length,5,0⟩)) (s++cC (ks.take i)) v ks.length i hh:=by
   intro r
   induction r with
   | nil =>
    intro i hh hr hi U B
    have hle:=cA hr
    refine Y19.i0 ?_
    simp only [Y19.t0, ← Y19.p1.eq_1]
    rw [List.take_of_length_le hle]
    exact aK (by simp; omega) (fin hh U B)
   | cons k r ihr =>
    intro i hh hr hi U B
    have hlt:=cG hr
    have hn':=bU hr
    have hki:=b5 hr
    have S2:=sv.upd U fun _ _ _ h=>h
    obtain ⟨r1,g1,e1⟩:=(Dk.upd (F':=F) U fun i hi _=>⟨fun h=>h,hi⟩).get hki
    obtain ⟨id1,ver1,off1,cap1,b1,rfl,A1⟩:=S2.at (by omega)
    have q1:=j4 rows i r1 Dk.len5 g1
    have hk0:=List.mem_of_getElem? hki
    have hsz:=oO hk0
    have hds:=sK hk0
    have hbt:=j0 (ks.take i)
    have hdt:=pX ks i
    have hbk:=k6 k
    refine Y19.i0 ?_
    simp only [Y19.t0, ← Y19.p0.eq_1, ← Y19.p1.eq_1]
    refine aM (by simp; omega) (dE A1 (by omega) (nG A1 (by omega) q1 ?_))
    refine b9 fun g1 gl1 V1 RK=>bA RK rfl e1.len e1.cells fun g2 gl2 V2 RK=>bB RK e1.len.symm ?_
    have V12:Upd (fun _=>False) hh g2:=(V1.mono (M':=fun i=>i=hh.length) fun _ _ h=>h.elim).trans V2 (fun _ _ h=>h) |>.mono fun i hi he=>by omega
    refine ih (by omega) k r1 F g2 _ (by omega) (uB hw3 hk0) (by omega) (e1.ext V12) (aZ ⟨by rw [List.length_append]; omega, ?_⟩)
    have e:s++cC (ks.take i)++cT k=s++cC (ks.take (i+1)):=by
     rw [cR hki,pD,List.append_assoc]
     simp [cC]
    rw [e]
    have hbt2:=j0 (ks.take (i+1))
    have hdt2:=pX ks (i+1)
    refine aK (by rw [List.length_append]; simp; omega) (inc (by omega) ?_)
    exact ihr (i+1) g2 hn' (by omega) (U.trans V12 fun _ _ h=>h) (B.upd V12 fun h=>h)
  have:=loop ks 0 h1 rfl (by omega) U1 B
  rw [List.take_zero,cC,List.append_nil] at this
  exact this
theorem yE {n:Nat} {h:aA} (hn:n<65536) (hq:Q (.s (oZ n)) h):C Y44.id [.i .i64 (n:Int)] h Q:=by
 refine Y44.call ?_
 simp only [Y44.t, ← Y44.p0.eq_1]
 unfold oZ at hq
 have last:∀ (v:AV) (l:List UInt8) (hh:aA),l.length≤10→Tx h hh v l→Q (.s (UInt8.ofNat (128+l.length) :: l)) h→Y44.p0 (aI h Q) v 0 hh:=by
  intro v l hh hl T hq
  refine Y44.i0 ?_
  simp only [Y44.t0]
  refine aK rfl (T.arr.rd.len ?_)
  refine aJ (n:=((128+l.length:Nat):Int)) (by rw [aL (by omega) (by omega)]; omega) ?_
  rw [cK,eN]
  refine Tx.one T.upd fun v2 h2 T2 U2=>T2.str ((T.ext U2).str ⟨by simp; omega,aV rfl T2.upd.ext ?_⟩)
  simpa using hq
 have step:∀ (v:AV) (l:List UInt8) (x:Nat) (hh:aA),0<x→x<65536→l.length≤10→Tx h hh v l→(∀ v' h',Tx h h' v' (UInt8.ofNat x :: l)→Y44.p0 (aI h Q) v' ((x / 256:Nat):Int) h')→Y44.p0 (aI h Q) v x hh:=by
  intro v l x hh hx0 hx hl T hk
  refine Y44.i0 ?_
  simp only [Y44.t0, ← Y44.p0.eq_1]
  refine aM (by simp; omega) ?_
  rw [cK,eN]
  refine Tx.one T.upd fun v2 h2 T2 U2=>?_
  refine T2.app (T.ext U2).byt (by simp; omega) fun v3 h3 T3 _=>mN (k:=.i64) (b:=8) (by decide) ?_
  exact hk v3 h3 (by simpa using T3)
 by_cases h1:n<128
 ·rw [if_pos h1] at hq
  refine aM (by simp; omega) ?_
  rw [cK,eN]
  refine Tx.one (Upd.refl _ _) fun v2 h2 T2 U2=>T2.ret hq
 rw [if_neg h1] at hq
 refine aK (by simp; omega) ?_
 refine step _ [] n h (by omega) hn (by simp) (Tx.start h) fun v1 h1 T1=>?_
 by_cases h2:n<256
 ·rw [if_pos h2] at hq
  rw [show n / 256=0 by omega]
  exact last v1 _ h1 (by simp) T1 hq
 ·rw [if_neg h2] at hq
  refine step _ _ (n / 256) h1 (by omega) (by omega) (by simp) T1 fun v2 h2 T2=>?_
  rw [show n / 256 / 256=0 by omega]
  exact last v2 _ h2 (by simp) T2 hq
theorem aBG {l:List UInt8} {h:aA} (E:Ext h0 h) (hq:Q (.s l) h0):Y29.p2 (aI h0 Q) l h:=by
 refine Y29.i2 ?_
 simp only [Y29.t2]
 exact aV rfl E hq
theorem aAR {acc:List UInt8} {x:Nat} {h:aA} (U:Upd (fun _=>False) h0 h) (hx:x<256) (hl:acc.length<65536) (hq:Q (.s (UInt8.ofNat x :: oZ acc.length++acc)) h0):Y29.p1 (aI h0 Q) x acc h:=by
 have h3:=aDA acc.length
 refine Y29.i1 ?_
 simp only [Y29.t1, ← Y29.p2.eq_1]
 rw [cK x,Nat.mod_eq_of_lt hx,show ((x:Nat):Int)=((UInt8.ofNat x).toNat:Int) by rw [UInt8.toNat_ofNat']; omega]
 refine ⟨?_, ?_⟩
 ·refine Tx.one U fun v h1 T U1 => T.str (yE hl (aZ (T.str ⟨rfl, ⟨by simp; omega, ⟨by simp; omega, aBG T.upd.ext ?_⟩⟩⟩)))
  simpa using hq
 ·refine yE hl (aZ (Tx.one U fun v h1 T U1 => T.str ⟨by simp; omega, ⟨by simp; omega, aBG T.upd.ext ?_⟩⟩))
  simpa using hq
theorem aKR : ∀ m, m ≤ 1000000 → ∀ (d : Der) (cs : List AV) (F : Nat → Prop) (h : aA) (Q : AV → aA → Prop), d.sz ≤ m → wfV d → fN d ≤ 60000 → DV h F d cs → Q (.s (cT d)) h → C Y29.id [.ag cs] h Q := by
 intro m
 induction m with
 | zero=>intro _ d cs F h Q hd; have:=eX d; omega
 | succ m ih =>
  intro hm d cs F h Q hd hw hs D hq
  cases D with
  | @mk c t mm s ks v rows Dk sv fv ov=>
  unfold Der.sz at hd
  have hkl:=oW ks
  have hln:=Dk.length
  unfold wfV at hw
  obtain ⟨⟨hc0,hc3,ht0,ht30⟩,hw1,hw2,hw3⟩:=hw
  unfold fN at hs
  obtain ⟨cn,rfl⟩:∃ n:Nat,c=n:=⟨c.toNat,by omega⟩
  obtain ⟨tn,rfl⟩:∃ n:Nat,t=n:=⟨t.toNat,by omega⟩
  have hbl:=j0 ks
  have hcl:(s++cC ks).length<65536:=by rw [List.length_append]; omega
  unfold cT hdB at hq
  rw [Int.toNat_natCast,Int.toNat_natCast] at hq
  refine Y29.call ?_
  simp only [Y29.t, ← Y29.p0.eq_1, ← Y29.p1.eq_1]
  refine d3 rfl fun h1 hl1 U1 B=>aP (aO B rfl rfl (aU ?_))
  refine aJ (n:=((64 * cn:Nat):Int)) (by rw [aL (by omega) (by omega)]; omega) (aP (aO B rfl rfl (aU ?_)))
  refine aJ (n:=((cn * 64+tn:Nat):Int)) (by rw [aL (by omega) (by omega)]; omega) (aP (aO B rfl rfl (aZ (aP (aO B rfl rfl (aX ?_))))))
  cases mm with
  | false =>
   have:ks=[]:=hw2 rfl
   subst this
   refine aK rfl (aAR U1 (by omega) ?_ ?_)
   ·simpa [cC] using hcl
   ·simpa [cC] using hq
  | true =>
   refine aM rfl (aJ (n:=((cn * 64+tn+32:Nat):Int)) (by rw [aL (by omega) (by omega)]; omega) ?_)
   have loop:∀ (r:List Der) (i:Nat),ks.drop i=r→i≤ks.length→Y29.p0 (aI h Q) (.p (some ⟨h.length,5,0⟩)) ((cn * 64+tn+32:Nat):Int) (s++cC (ks.take i)) i h1:=by
    intro r
    induction r with
    | nil =>
     intro i hr hi
     have hle:=cA hr
     have S1:=sv.upd U1 fun _ _ _ h=>h
     refine Y29.i0 ?_
     simp only [Y29.t0, ← Y29.p1.eq_1]
     rw [List.take_of_length_le hle]
     refine aP (aO B rfl rfl (S1.len (aK (by simp; omega) ?_)))
     exact aAR U1 (by omega) hcl hq
    | cons k r ihr =>
     intro i hr hi
     have hlt:=cG hr
     have hn':=bU hr
     have hki:=b5 hr
     have S2:=sv.upd U1 fun _ _ _ h=>h
     obtain ⟨r1,g1,e1⟩:=(Dk.upd (F':=F) U1 fun i hi _=>⟨fun h=>h,hi⟩).get hki
     obtain ⟨id1,ver1,off1,cap1,b1,rfl,A1⟩:=S2.at (by omega)
     have q1:=j4 rows i r1 Dk.len5 g1
     have hk0:=List.mem_of_getElem? hki
     have hsz:=oO hk0
     have hds:=sK hk0
     have hbt:=j0 (ks.take i)
     have hdt:=pX ks i
     have hbk:=k6 k
     refine Y29.i0 ?_
     simp only [Y29.t0, ← Y29.p0.eq_1]
     refine aP (aO B rfl rfl (S2.len (aM (by simp; omega) ?_)))
     refine aP (aO B rfl rfl (dE A1 (by omega) (nG A1 (by omega) q1 ?_)))
     refine ih (by omega) k r1 F h1 _ (by omega) (uB hw3 hk0) (by omega) e1 (aZ ⟨by rw [List.length_append]; omega,inc (by omega) ?_⟩)
     have e:s++cC (ks.take i)++cT k=s++cC (ks.take (i+1)):=by
      rw [cR hki,pD,List.append_assoc]
      simp [cC]
     rw [e]
     exact ihr (i+1) hn' (by omega)
   have:=loop ks 0 rfl (by omega)
   rw [List.take_zero,cC,List.append_nil] at this
   exact this
def mW:Except Int (List UInt8)→AV
 | .error e=>.tu [.s [],.i .i64 e]
 | .ok l=>.tu [.s l,.i .i64 0]
theorem aA4 {d:Der} {cs:List AV} {F:Nat→Prop} {h:aA} {Q:AV→aA→Prop} (hsz:d.sz≤100000) (hs:fN d≤60000) (D:DV h F d cs) (hF:∀ i,F i→i<h.length) (hq:Q (mW (eS d)) h):C Y80.id [.ag cs] h Q:=by
 refine Y80.call ?_
 simp only [Y80.t]
 refine d3 rfl fun h1 hl1 U1 B=>d3 rfl fun h2 hl2 U2 R=>?_
 have B:bE h1 h.length cs:=B
 have B2:=B.upd U2 fun h=>h
 have hp:(AV.ag cs).parts.length=5:=D.len
 rw [hp]
 have D2:=(D.ext U1).ext U2
 unfold eS at hq
 refine bB B2 D.len.symm (aLJ d.sz (by omega) d cs F 1 0 h1.length h2 _ (Nat.le_refl _) (by omega) (by omega) R D2 (fun i hi=>by have:=hF i hi; omega) fun h3 U3 R3=>aU ?_)
 have E:Ext h h3:=((((U1.mono (M':=fun i=>h.length≤i) fun _ _ h=>h.elim).trans U2 fun _ _ h=>h.elim).trans U3 fun i hi he=>by omega).mono (M':=fun i=>False) fun i hi he=>by omega).ext
 by_cases he:(d6 1 0 d).1≠0
 ·rw [if_pos he] at hq
  exact aM (by simp [he]) (aV rfl E hq)
 ·rw [if_neg he] at hq
  have he0:(d6 1 0 d).1=0:=by simpa using he
  have hw:=(aD8 d.sz).1 d 1 0 (Nat.le_refl _) he0
  have D3:=D2.upd (F':=F) U3 fun i hi _=>⟨by have:=hF i hi; omega,hi⟩
  have B3:=B2.upd U3 (by omega)
  have hbl:=k6 d
  refine aK (by simp [he0]) (bB B3 D.len.symm (aMB d.sz (by omega) d cs F h3 _ (Nat.le_refl _) hw hs D3 (aZ ?_)))
  rw [if_neg (by omega)] at hq
  exact aK (by simp; omega) (aV rfl E hq)
theorem sU {d:Der} {cs:List AV} {F:Nat→Prop} {h:aA} {Q:AV→aA→Prop} (hsz:d.sz≤100000) (hs:fN d≤60000) (D:DV h F d cs) (hF:∀ i,F i→i<h.length) (hq:Q (mW (eS d)) h):C Y77.id [.ag cs] h Q:=by
 refine Y77.call ?_
 simp only [Y77.t]
 refine d3 rfl fun h1 hl1 U1 B=>d3 rfl fun h2 hl2 U2 R=>?_
 have B:bE h1 h.length cs:=B
 have B2:=B.upd U2 fun h=>h
 have hp:(AV.ag cs).parts.length=5:=D.len
 rw [hp]
 have D2:=(D.ext U1).ext U2
 unfold eS at hq
 refine bB B2 D.len.symm (aIN d.sz (by omega) d cs F 1 0 h1.length h2 _ (Nat.le_refl _) (by omega) (by omega) R D2 (fun i hi=>by have:=hF i hi; omega) fun h3 U3 R3=>aU ?_)
 have E:Ext h h3:=((((U1.mono (M':=fun i=>h.length≤i) fun _ _ h=>h.elim).trans U2 fun _ _ h=>h.elim).trans U3 fun i hi he=>by omega).mono (M':=fun i=>False) fun i hi he=>by omega).ext
 by_cases he:(d6 1 0 d).1≠0
 ·rw [if_pos he] at hq
  exact aM (by simp [he]) (aV rfl E hq)
 ·rw [if_neg he] at hq
  have he0:(d6 1 0 d).1=0:=by simpa using he
  have hw:=(aD8 d.sz).1 d 1 0 (Nat.le_refl _) he0
  have D3:=D2.upd (F':=F) U3 fun i hi _=>⟨by have:=hF i hi; omega,hi⟩
  have B3:=B2.upd U3 (by omega)
  have hbl:=k6 d
  refine aK (by simp [he0]) (bB B3 D.len.symm (aKR d.sz (by omega) d cs F h3 _ (Nat.le_refl _) hw hs D3 (aZ ?_)))
  rw [if_neg (by omega)] at hq
  exact aK (by simp; omega) (aV rfl E hq)
end
end Go.Proofs.YtcdkpkkdolmfdaaGreatDoor
namespace Go.Proofs.YtcdkpkkdolmfdaaGreatDoor
open Go.GAM Go.RowKit
section
variable {h0:aA} {Q:AV→aA→Prop}
def rY (s:List UInt8):Bool:=match s with
 | []=>true
 | [_]=>false
 | a :: b :: r=>decide (6<(a :: b :: r).length)||((decide (a.toNat=0)&&decide (b.toNat<128))||(decide (a.toNat=255)&&decide (128≤b.toNat)))
theorem aBO (a b:UInt8) (r:List UInt8):rY (a :: b :: r)=(decide (6<(a :: b :: r).length)||((decide (a.toNat=0)&&decide (b.toNat<128))||(decide (a.toNat=255)&&decide (128≤b.toNat)))):=rfl
def aOQ (n:Int) (l:List UInt8):Int:=l.foldl (fun n c=>n * 256+(c.toNat:Int)) n
def aOZ:List UInt8→Int
 | []=>0
 | a :: r=>aOQ (if a.toNat<128 then (a.toNat:Int) else (a.toNat:Int) - 256) r
def aGW (d:Der):Int × Bool:=if dB 2 d=true∧rY d.data=false then (aOZ d.data,true) else (0,false)
theorem aNQ {s:List UInt8} {h:aA} {v:Int} (hs:s.length≤6) (hq:Q (.tu [.i .i64 v,.b true]) h) {h1:aA} (E:Ext h h1):∀ (r:List UInt8) (i:Nat) (n:Int),s.drop i=r→i≤6 → -((256 ^ i:Nat):Int)≤n→n<((256 ^ i:Nat):Int)→aOQ n r=v→Y22.p2 (aI h Q) s n i h1:=by
 intro r
 induction r with
 | nil =>
  intro i n hr hi h0 h2 hv
  have:=cA hr
  refine Y22.i2 ?_
  simp only [Y22.t2]
  have:n=v:=hv
  subst this
  exact aK (by simp; omega) (aV rfl E hq)
 | cons c r ih =>
  intro i n hr hi h0 h2 hv
  have hlt:=cG hr
  have hn:=bU hr
  have hc:=c.toNat_lt
  have hp:256 ^ i≤256 ^ 5:=Nat.pow_le_pow_right (by omega) (by omega)
  have e:256 ^ (i+1)=256 ^ i * 256:=Nat.pow_succ ..
  refine Y22.i2 ?_
  simp only [Y22.t2, ← Y22.p2.eq_1]
  refine aM (by simp; omega) ?_
  refine iY (n:=n * 256) (b:=8) (by omega) rfl (by omega) (by omega) (cW hr ?_)
  refine aJ (n:=n * 256+(c.toNat:Int)) (by rw [aL (by omega) (by omega),aNO (by omega) (by omega) (by omega)]) (inc (by omega) ?_)
  exact ih (i+1) _ hn (by omega) (by omega) (by omega) hv
def aPU (x:Int × Bool):AV:=.tu [.i .i64 x.1,.b x.2]
theorem aO6 {d : Der} {cs : List AV} {F : Nat → Prop} {h : aA} (D : DV h F d cs) (hs : d.data.length ≤ 100000) (hq : Q (aPU (aGW d)) h) : C Y22.id [.ag cs] h Q := by
 refine Y22.call ?_
 simp only [Y22.t, ← Y22.p0.eq_1]
 refine D.box fun h1 hl1 U1 B D1=>aP (aO B D.len.symm D.dat (aZ (bB B D.len.symm (lZ D1 (aX ?_)))))
 have E:=U1.ext
 unfold aGW at hq
 generalize d.data=s at *
 have p1:∀ b,b=true→(b=rY s∨dB 2 d=false)→Y22.p0 (aI h Q) s b h1:=by
  intro b hb hp
  subst hb
  refine Y22.i0 ?_
  simp only [Y22.t0]
  rw [if_neg (by rcases hp with h | h <;> simp [h] <;> simp [← h])] at hq
  exact aM rfl (aV rfl E hq)
 have p2:rY s=false→dB 2 d=true→s.length≤6→∀ a r,s=a :: r→Y22.p1 (aI h Q) s false h1:=by
  intro hb hp hl a r hsr
  have ha:=a.toNat_lt
  rw [if_pos ⟨hp,hb⟩] at hq
  refine Y22.i1 ?_
  simp only [Y22.t1, ← Y22.p2.eq_1]
  refine aK rfl (cW (i:=0) hsr ?_)
  rw [aMZ]
  have hw : -128≤(if a.toNat<128 then (a.toNat:Int) else (a.toNat:Int) - 256)∧(if a.toNat<128 then (a.toNat:Int) else (a.toNat:Int) - 256)<128:=by split <;> omega
  refine aJ (aL (by omega) (by omega)) ?_
  refine aNQ (v:=aOZ s) hl hq E r 1 _ (by rw [hsr] <;> rfl) (by omega) ?_ ?_ (by rw [hsr] <;> rfl)
  ·rw [Nat.pow_one]; omega
  ·rw [Nat.pow_one]; omega
 refine aG (fun e=>p1 _ rfl (.inr (by simpa using e))) fun e=>?_
 have hp:dB 2 d=true:=by simpa using e
 obtain hs2 | ⟨a,r,hs2⟩:s=[]∨∃ a r,s=a :: r:=by
  cases s with
  | nil=>exact .inl rfl
  | cons a r=>exact .inr ⟨a,r,rfl⟩
 ·exact aM (by rw [hs2] <;> rfl) (p1 _ rfl (.inl (by rw [hs2] <;> rfl)))
 ·
  refine aK (by rw [hs2] <;> rfl) ?_
  by_cases hl:6<s.length
  ·rw [decide_eq_true (show (6 : Int) < s.length by omega)]
   refine p1 _ rfl (.inl ?_)
   rw [hs2] at hl ⊢
   cases r with
   | nil=>simp at hl
   | cons b r=>rw [aBO,decide_eq_true hl] <;> rfl
  rw [decide_eq_false (show ¬ (6:Int)<s.length by omega)]
  refine Y22.i0 ?_
  simp only [Y22.t0, ← Y22.p1.eq_1]
  refine aK rfl ?_
  have q1:∀ b,b=rY s→Y22.p1 (aI h Q) s b h1:=by
   intro b hb
   cases b with
   | false=>exact p2 hb.symm hp (by omega) a r hs2
   | true =>
    refine Y22.i1 ?_
    simp only [Y22.t1]
    rw [if_neg (by simp [← hb])] at hq
    exact aM rfl (aV rfl E hq)
  cases hr2:r with
  | nil =>
   refine aK (by rw [hs2,hr2] <;> rfl) (q1 _ ?_)
   rw [hs2,hr2] <;> rfl
  | cons b r' =>
   have hs3:s=a :: b :: r':=by rw [hs2,hr2]
   have hb:rY s=((decide (a.toNat=0)&&decide (b.toNat<128))||(decide (a.toNat=255)&&decide (128≤b.toNat))):=by
    rw [hs3] at hl ⊢
    rw [aBO,decide_eq_false hl] <;> rfl
   rw [hb] at q1
   have d0:s.drop 0=a :: b :: r':=hs3
   have d1:s.drop 1=b :: r':=by rw [hs3] <;> rfl
   refine aM (by rw [hs3]; simp; omega) (cW (i:=0) d0 ?_)
   refine aG (fun e1=>cW (i:=1) d1 ?_) fun e1=>cW (i:=0) d0 ?_
   ·simp only [decide_eq_true_eq] at e1
    have a0:a.toNat=0:=by omega
    refine aG (fun e2=>q1 _ ?_) fun e2=>cW (i:=0) d0 ?_
    ·simp only [decide_eq_true_eq] at e2
     have:b.toNat<128:=by omega
     simp [a0,this]
    ·simp only [decide_eq_false_iff_not] at e2
     have:¬ b.toNat<128:=by omega
     refine aK (by simp; omega) (q1 _ (by simp [a0,this]))
   ·simp only [decide_eq_false_iff_not] at e1
    have a0:a.toNat≠0:=by omega
    refine aG (fun e2=>cW (i:=1) d1 (q1 _ ?_)) fun e2=>q1 _ ?_
    ·simp only [decide_eq_true_eq] at e2
     have:a.toNat=255:=by omega
     simp [this]
     omega
    ·simp only [decide_eq_false_iff_not] at e2
     have:a.toNat≠255:=by omega
     simp [a0,this]
end
end Go.Proofs.YtcdkpkkdolmfdaaGreatDoor
namespace Go.Proofs.YtcdkpkkdolmfdaaGreatDoor
open Go.GAM Go.RowKit
def beI:Nat→Int→List UInt8
 | 0,_=>[]
 | k+1,n=>UInt8.ofNat ((n / ((2 ^ (8 * k):Nat):Int)) % 256).toNat :: beI k n
def qI (k:Nat) (n:Int):Prop:=-((2 ^ (8 * k - 1):Nat):Int)≤n∧n<((2 ^ (8 * k - 1):Nat):Int)
instance (k:Nat) (n:Int):Decidable (qI k n):=by unfold qI; infer_instance
def kI (n:Int):Nat:=if qI 1 n then 1 else if qI 2 n then 2 else if qI 3 n then 3 else if qI 4 n then 4 else if qI 5 n then 5 else 6
def j6 (n:Int):Prop:=n < -140737488355328∨140737488355328≤n
instance (n:Int):Decidable (j6 n):=by unfold j6; infer_instance
def rX (n:Int):List AV:=if j6 n then bF 0 0 false [] else bF 0 2 false (beI (kI n) n)
theorem aF2 (n:Int):1≤kI n∧kI n≤6:=by
 unfold kI
 repeat' split
 all_goals omega
theorem aJO {n:Int} (h:¬ j6 n):qI (kI n) n:=by
 unfold kI
 repeat' split
 all_goals first | assumption | skip
 unfold j6 at h
 unfold qI
 omega
theorem aAZ {n:Int} {j:Nat} (h1:1≤j) (h2:j<kI n):¬ qI j n:=by
 unfold kI at h2
 split at h2
 ·omega
 rename_i f1
 by_cases e1:j=1
 ·subst e1; exact f1
 split at h2
 ·omega
 rename_i f2
 by_cases e2:j=2
 ·subst e2; exact f2
 split at h2
 ·omega
 rename_i f3
 by_cases e3:j=3
 ·subst e3; exact f3
 split at h2
 ·omega
 rename_i f4
 by_cases e4:j=4
 ·subst e4; exact f4
 split at h2
 ·omega
 rename_i f5
 have:j=5:=by omega
 subst this; exact f5
section
variable {h0:aA} {Q:AV→aA→Prop}
theorem aL5 {k:Nat} (h:k≤6):2 ^ (8 * k - 1)≤140737488355328∧0<2 ^ (8 * k - 1):=by
 have:(2:Nat) ^ (8 * k - 1)≤2 ^ 47:=Nat.pow_le_pow_right (by omega) (by omega)
 exact ⟨by simpa using this,Nat.two_pow_pos _⟩
theorem iE {h h1 hx:aA} {id:Nat} {z:List AV} {c t:Int} {s:List UInt8} (hz:z.length=5) (R:bE hx id z) (hid:h.length≤id) (U:Upd (fun _=>False) h hx) (hq:Q (.ag (bF c t false s)) h) :
  aS 5 (.p (some ⟨id,5,0⟩)) (.ag [.i .i64 c,.i .i64 t,.b false,.s s,.sl none 0 none]) hx fun h5=>aB 5 (.p (some ⟨id,5,0⟩)) h5 fun v7=>aI h Q v7 h5:=by
 refine bA R hz.symm rfl rfl fun h5 hl5 U5 R5=>bB R5 rfl (aV rfl ?_ hq)
 exact ((U.trans U5 fun i hi he=>absurd he (by omega)):Upd (fun _=>False) h h5).ext
theorem aI8 {n:Int} {h h1:aA} {id:Nat} (hid:h.length≤id) (U1:Upd (fun _=>False) h h1) (R:bE h1 id z5):∀ (m:Nat) (v:AV) (l:List UInt8) (hx:aA),m≤6→l.length+m≤10→Tx h1 hx v l→Q (.ag (bF 0 2 false (l++beI m n))) h →
  Y13.p3 (aI h Q) n (.p (some ⟨id,5,0⟩)) v ((m:Int) - 1) hx:=by
 intro m
 induction m with
 | zero =>
  intro v l hx hm hl T hq
  refine Y13.i3 ?_
  simp only [Y13.t3]
  refine aK (by simp) (T.str ?_)
  exact iE (h1:=h1) rfl (R.upd T.upd fun h=>h) hid (U1.trans T.upd fun _ _ h=>h) (by simpa [beI] using hq)
 | succ m ih =>
  intro v l hx hm hl T hq
  refine Y13.i3 ?_
  simp only [Y13.t3, ← Y13.p3.eq_1]
  have e1:((m+1:Nat):Int) - 1=(m:Int):=by omega
  rw [e1]
  refine aM (by simp) (aJ (n:=((8 * m:Nat):Int)) (by rw [aL (by omega) (by omega)]; omega) (aFF (by omega) rfl ?_))
  rw [s9]
  refine T.push (by omega) fun v' h' T'=>aJ (aL (by omega) (by omega)) (ih v' _ h' (by omega) (by simp; omega) T' ?_)
  simpa [beI] using hq
theorem aL9 {n : Int} {h : aA} (hq : Q (.ag (rX n)) h) : C Y13.id [.i .i64 n] h Q := by
 refine Y13.call ?_
 simp only [Y13.t, ← Y13.p0.eq_1]
 refine b9 fun h1 hl1 U1 R=>?_
 unfold rX at hq
 have p1:¬ j6 n→∀ m k,k+m=kI n→1≤k→Y13.p1 (aI h Q) n (.p (some ⟨h.length,5,0⟩)) k h1:=by
  intro hb m
  rw [if_neg hb] at hq
  have hkb:=aF2 n
  induction m with
  | zero =>
   intro k hk h1k
   have hk:k=kI n:=by omega
   have hf:=aJO hb
   rw [← hk] at hf hq hkb
   unfold qI at hf
   have hp:=aL5 hkb.2
   generalize hy:2 ^ (8 * k - 1)=y at hf hp
   refine Y13.i1 ?_
   simp only [Y13.t1, ← Y13.p2.eq_1]
   refine aJ (n:=((8 * k:Nat):Int)) (by rw [aL (by omega) (by omega)]; omega) ?_
   refine aJ (n:=((8 * k - 1:Nat):Int)) (by rw [aL (by omega) (by omega)]; omega) ?_
   refine iY (n:=-(y:Int)) (by omega) (by rw [← hy]; simp) (by omega) (by omega) ?_
   refine aK (by simp; omega) ?_
   refine aJ (n:=((8 * k:Nat):Int)) (by rw [aL (by omega) (by omega)]; omega) ?_
   refine aJ (n:=((8 * k - 1:Nat):Int)) (by rw [aL (by omega) (by omega)]; omega) ?_
   refine iY (n:=(y:Int)) (by omega) (by rw [← hy]; simp) (by omega) (by omega) ?_
   rw [decide_eq_false (by omega)]
   refine Y13.i2 ?_
   simp only [Y13.t2, ← Y13.p3.eq_1]
   refine aK rfl (aJ (aL (by omega) (by omega)) ?_)
   exact aI8 (h1:=h1) (Nat.le_refl _) U1 R k _ [] h1 (by omega) (by simp; omega) (Tx.start h1) hq
  | succ m ih =>
   intro k hk h1k
   have hf:=aAZ (n:=n) (j:=k) h1k (by omega)
   unfold qI at hf
   have hp:=aL5 (k:=k) (by omega)
   generalize hy:2 ^ (8 * k - 1)=y at hf hp
   have next:Y13.p2 (aI h Q) n (.p (some ⟨h.length,5,0⟩)) k true h1:=by
    refine Y13.i2 ?_
    simp only [Y13.t2, ← Y13.p1.eq_1]
    exact aM rfl (inc (by omega) (ih (k+1) (by omega) (by omega)))
   refine Y13.i1 ?_
   simp only [Y13.t1, ← Y13.p2.eq_1]
   refine aJ (n:=((8 * k:Nat):Int)) (by rw [aL (by omega) (by omega)]; omega) ?_
   refine aJ (n:=((8 * k - 1:Nat):Int)) (by rw [aL (by omega) (by omega)]; omega) ?_
   refine iY (n:=-(y:Int)) (by omega) (by rw [← hy]; simp) (by omega) (by omega) ?_
   refine aG (fun e=>next) fun e=>?_
   simp only [decide_eq_false_iff_not] at e
   refine aJ (n:=((8 * k:Nat):Int)) (by rw [aL (by omega) (by omega)]; omega) ?_
   refine aJ (n:=((8 * k - 1:Nat):Int)) (by rw [aL (by omega) (by omega)]; omega) ?_
   refine iY (n:=(y:Int)) (by omega) (by rw [← hy]; simp) (by omega) (by omega) ?_
   rw [decide_eq_true (by omega)]
   exact next
 have p0:∀ b,b=decide (j6 n)→Y13.p0 (aI h Q) n (.p (some ⟨h.length,5,0⟩)) b h1:=by
  intro b hb
  refine Y13.i0 ?_
  simp only [Y13.t0, ← Y13.p1.eq_1]
  refine aG (fun e=>?_) fun e=>?_
  ·subst e
   rw [if_pos (by simpa using hb.symm)] at hq
   exact iE (h1:=h1) rfl R (Nat.le_refl _) U1 hq
  ·subst e
   exact p1 (of_decide_eq_false hb.symm) (kI n - 1) 1 (by have:=aF2 n; omega) (by omega)
 refine aG (fun e=>p0 _ ?_) fun e=>p0 _ ?_
 ·simp only [decide_eq_true_eq] at e
  symm; rw [decide_eq_true_eq]; exact .inl e
 ·simp only [decide_eq_false_iff_not] at e
  rw [decide_eq_decide]; unfold j6; omega
theorem aHQ {n:Int} {h h1:aA} {id:Nat} (hid:h.length≤id) (U1:Upd (fun _=>False) h h1) (R:bE h1 id z5):∀ (m:Nat) (v:AV) (l:List UInt8) (hx:aA),m≤6→l.length+m≤10→Tx h1 hx v l→Q (.ag (bF 0 2 false (l++beI m n))) h →
  Y14.p3 (aI h Q) n (.p (some ⟨id,5,0⟩)) v ((m:Int) - 1) hx:=by
 intro m
 induction m with
 | zero =>
  intro v l hx hm hl T hq
  refine Y14.i3 ?_
  simp only [Y14.t3]
  refine aK (by simp) (T.str ?_)
  exact iE (h1:=h1) rfl (R.upd T.upd fun h=>h) hid (U1.trans T.upd fun _ _ h=>h) (by simpa [beI] using hq)
 | succ m ih =>
  intro v l hx hm hl T hq
  refine Y14.i3 ?_
  simp only [Y14.t3, ← Y14.p3.eq_1]
  have e1:((m+1:Nat):Int) - 1=(m:Int):=by omega
  rw [e1]
  refine aM (by simp) (aJ (n:=((8 * m:Nat):Int)) (by rw [aL (by omega) (by omega)]; omega) ?_)
  rw [vX (by omega) (by omega)]
  refine aFF (by omega) rfl ?_
  rw [s9]
  refine T.push (by omega) fun v' h' T'=>aJ (aL (by omega) (by omega)) (ih v' _ h' (by omega) (by simp; omega) T' ?_)
  simpa [beI] using hq
theorem aH0 {n : Int} {h : aA} (hq : Q (.ag (rX n)) h) : C Y14.id [.i .i64 n] h Q := by
 refine Y14.call ?_
 simp only [Y14.t, ← Y14.p0.eq_1]
 refine b9 fun h1 hl1 U1 R=>?_
 unfold rX at hq
 have p1:¬ j6 n→∀ m k,k+m=kI n→1≤k→Y14.p1 (aI h Q) n (.p (some ⟨h.length,5,0⟩)) k h1:=by
  intro hb m
  rw [if_neg hb] at hq
  have hkb:=aF2 n
  induction m with
  | zero =>
   intro k hk h1k
   have hk:k=kI n:=by omega
   have hf:=aJO hb
   rw [← hk] at hf hq hkb
   unfold qI at hf
   have hp:=aL5 hkb.2
   generalize hy:2 ^ (8 * k - 1)=y at hf hp
   refine Y14.i1 ?_
   simp only [Y14.t1, ← Y14.p2.eq_1]
   refine aM (by simp; omega) (aJ (n:=((8 * k:Nat):Int)) (by rw [aL (by omega) (by omega)]; omega) ?_)
   refine aJ (n:=((8 * k - 1:Nat):Int)) (by rw [aL (by omega) (by omega)]; omega) ?_
   rw [vX (by omega) (by omega)]
   refine iY (n:=(y:Int)) (by omega) (by rw [← hy]; simp) (by omega) (by omega) ?_
   refine aJ (n:=-(y:Int)) (by rw [aL (by omega) (by omega)]; omega) ?_
   refine aK (by simp; omega) ?_
   rw [decide_eq_false (by omega)]
   refine Y14.i2 ?_
   simp only [Y14.t2, ← Y14.p3.eq_1]
   refine aK rfl (aJ (aL (by omega) (by omega)) ?_)
   exact aHQ (h1:=h1) (Nat.le_refl _) U1 R k _ [] h1 (by omega) (by simp; omega) (Tx.start h1) hq
  | succ m ih =>
   intro k hk h1k
   have hf:=aAZ (n:=n) (j:=k) h1k (by omega)
   unfold qI at hf
   have hp:=aL5 (k:=k) (by omega)
   generalize hy:2 ^ (8 * k - 1)=y at hf hp
   have next:Y14.p2 (aI h Q) n (.p (some ⟨h.length,5,0⟩)) k true h1:=by
    refine Y14.i2 ?_
    simp only [Y14.t2, ← Y14.p1.eq_1]
    exact aM rfl (inc (by omega) (ih (k+1) (by omega) (by omega)))
   refine Y14.i1 ?_
   simp only [Y14.t1, ← Y14.p2.eq_1]
   refine aM (by simp; omega) (aJ (n:=((8 * k:Nat):Int)) (by rw [aL (by omega) (by omega)]; omega) ?_)
   refine aJ (n:=((8 * k - 1:Nat):Int)) (by rw [aL (by omega) (by omega)]; omega) ?_
   rw [vX (by omega) (by omega)]
   refine iY (n:=(y:Int)) (by omega) (by rw [← hy]; simp) (by omega) (by omega) ?_
   refine aJ (n:=-(y:Int)) (by rw [aL (by omega) (by omega)]; omega) ?_
   refine aG (fun e=>next) fun e=>?_
   simp only [decide_eq_false_iff_not] at e
   rw [decide_eq_true (by omega)]
   exact next
 have p0:∀ b,b=decide (j6 n)→Y14.p0 (aI h Q) n (.p (some ⟨h.length,5,0⟩)) b h1:=by
  intro b hb
  refine Y14.i0 ?_
  simp only [Y14.t0, ← Y14.p1.eq_1]
  refine aG (fun e=>?_) fun e=>?_
  ·subst e
   rw [if_pos (by simpa using hb.symm)] at hq
   exact iE (h1:=h1) rfl R (Nat.le_refl _) U1 hq
  ·subst e
   exact p1 (of_decide_eq_false hb.symm) (kI n - 1) 1 (by have:=aF2 n; omega) (by omega)
 refine aG (fun e=>p0 _ ?_) fun e=>p0 _ ?_
 ·simp only [decide_eq_true_eq] at e
  symm; rw [decide_eq_true_eq]; exact .inl e
 ·simp only [decide_eq_false_iff_not] at e
  rw [decide_eq_decide]; unfold j6; omega
end
end Go.Proofs.YtcdkpkkdolmfdaaGreatDoor
namespace Go.Proofs.YtcdkpkkdolmfdaaGreatDoor
open Go.GAM Go.RowKit
def o3 (y:Nat):Bool:=decide (y % 4=0)&&(!decide (y % 100=0)||decide (y % 400=0))
def kL (y m:Nat):Nat:=if m=2 then (if o3 y=true then 29 else 28) else if m=4∨m=6∨m=9∨m=11 then 30 else 31
def oF (y:Nat):Nat:=if o3 y=true then 366 else 365
def d9 (y:Nat):Nat:=365 * (y - 1970)+((y - 1) / 4+(y - 1) / 400) - (y - 1) / 100 - 477
def eK (y:Nat):Nat→Nat
 | 0=>0
 | k+1=>eK y k+if k=0 then 0 else kL y k
theorem nB {y:Nat} (h:1970≤y):d9 (y+1)=d9 y+oF y:=by
 unfold d9 oF o3
 by_cases h4:y % 4=0
 ·by_cases h100 : y % 100 = 0
  ·by_cases h400 : y % 400 = 0
   ·simp [h4,h100,h400]; omega
   ·simp [h4,h100,h400]; omega
  ·simp [h4,h100]; omega
 ·simp [h4]; omega
theorem aFC:d9 1970=0:=by decide
theorem aC9 (y:Nat):365≤oF y∧oF y≤366:=by unfold oF; split <;> omega
theorem jW (y m:Nat):28≤kL y m∧kL y m≤31:=by
 unfold kL
 repeat' split
 all_goals omega
theorem oE {y m:Nat} (h:1≤m):eK y (m+1)=eK y m+kL y m:=by
 show eK y m+(if m=0 then 0 else kL y m)=_
 rw [if_neg (by omega)]
theorem aF7 (y:Nat):eK y 1=0:=rfl
theorem aNS (y:Nat):eK y 13=oF y:=by
 simp only [eK,kL,oF]
 cases o3 y <;> rfl
theorem aBL {y a b:Nat} (h:1≤a) (hab:a≤b):eK y a≤eK y b:=by
 obtain ⟨k,rfl⟩:∃ k,b=a+k:=⟨b - a,by omega⟩
 clear hab
 induction k with
 | zero=>exact Nat.le_refl _
 | succ k ih =>
  have:=oE (y:=y) (m:=a+k) (by omega)
  rw [show a+(k+1)=a+k+1 by omega]; omega
theorem nX {a b:Nat} (h:1970≤a) (hab:a≤b):d9 a+365 * (b - a)≤d9 b:=by
 obtain ⟨k,rfl⟩:∃ k,b=a+k:=⟨b - a,by omega⟩
 clear hab
 induction k with
 | zero=>simp
 | succ k ih =>
  have:=nB (y:=a+k) (by omega)
  have:=(aC9 (a+k)).1
  rw [show a+(k+1)=a+k+1 by omega]; omega
theorem aKF {a b:Nat} (h:1970≤a) (hab:a≤b):d9 b≤d9 a+366 * (b - a):=by
 obtain ⟨k,rfl⟩:∃ k,b=a+k:=⟨b - a,by omega⟩
 clear hab
 induction k with
 | zero=>simp
 | succ k ih =>
  have:=nB (y:=a+k) (by omega)
  have:=(aC9 (a+k)).2
  rw [show a+(k+1)=a+k+1 by omega]; omega
section
variable {h0:aA} {Q:AV→aA→Prop}
theorem fO {a b:Nat} {K:Int→Prop} (hb:b≠0) (hk:K ((a % b:Nat):Int)):iJ (a:Int) (b:Int) K:=
 aJY (by omega) (by rw [Int.tmod_eq_emod_of_nonneg (by omega)] <;> rfl) hk
theorem aN9 {y:Nat} {h:aA} (hq:Q (.b (o3 y)) h):C Y61.id [.i .i64 (y:Int)] h Q:=by
 refine Y61.call ?_
 simp only [Y61.t, ← Y61.p0.eq_1]
 have p0:∀ b,b=o3 y→Y61.p0 (aI h Q) b h:=by
  intro b hb
  refine Y61.i0 ?_
  simp only [Y61.t0]
  subst hb
  exact .inl hq
 unfold o3 at p0
 refine fO (b:=4) (by omega) (aG (fun e1=>fO (b:=100) (by omega) ?_) fun e1=>p0 _ ?_)
 ·simp only [decide_eq_true_eq] at e1
  rw [decide_eq_true (by omega:y % 4=0),Bool.true_and] at p0
  refine aG (fun e2=>p0 _ ?_) fun e2=>fO (b:=400) (by omega) (p0 _ ?_)
  ·have e2 : ((y % 100 : Nat) : Int) ≠ 0 := by simpa using e2
   rw [decide_eq_false (by omega:¬ y % 100=0)] <;> rfl
  ·have e2 : ((y % 100 : Nat) : Int) = 0 := by simpa using e2
   rw [decide_eq_true (by omega:y % 100=0)]
   show decide _=decide _
   rw [decide_eq_decide]; omega
 ·simp only [decide_eq_false_iff_not] at e1
  rw [decide_eq_false (by omega:¬ y % 4=0)] <;> rfl
theorem z8 {y:Nat} {h:aA} (hq:Q (.b (o3 y)) h):C Y58.id [.i .i64 (y:Int)] h Q:=by
 refine Y58.call ?_
 simp only [Y58.t, ← Y58.p0.eq_1]
 have p0:∀ b,b=o3 y→Y58.p0 (aI h Q) b h:=by
  intro b hb
  refine Y58.i0 ?_
  simp only [Y58.t0]
  subst hb
  exact .inl hq
 unfold o3 at p0
 refine fO (b:=4) (by omega) (aG (fun e1=>fO (b:=100) (by omega) ?_) fun e1=>p0 _ ?_)
 ·simp only [decide_eq_true_eq] at e1
  rw [decide_eq_true (by omega:y % 4=0),Bool.true_and] at p0
  refine aG (fun e2=>p0 _ ?_) fun e2=>fO (b:=400) (by omega) (p0 _ ?_)
  ·have e2 : ((y % 100 : Nat) : Int) ≠ 0 := by simpa using e2
   rw [decide_eq_false (by omega:¬ y % 100=0)] <;> rfl
  ·have e2 : ((y % 100 : Nat) : Int) = 0 := by simpa using e2
   rw [decide_eq_true (by omega:y % 100=0)]
   show decide _=decide _
   rw [decide_eq_decide]; omega
 ·simp only [decide_eq_false_iff_not] at e1
  rw [decide_eq_false (by omega:¬ y % 4=0)] <;> rfl
theorem wY {y m:Nat} {h:aA} (hq:Q (.i .i64 (kL y m:Nat)) h):C Y47.id [.i .i64 (y:Int),.i .i64 (m:Int)] h Q:=by
 refine Y47.call ?_
 simp only [Y47.t, ← Y47.p0.eq_1]
 unfold kL at hq
 have p0:m≠2→∀ b,b=decide (m=4∨m=6∨m=9∨m=11)→Y47.p0 (aI h Q) b h:=by
  intro h2 b hb
  rw [if_neg h2] at hq
  refine Y47.i0 ?_
  simp only [Y47.t0]
  refine aG (fun e=>?_) fun e=>?_
  ·subst e; rw [if_pos (by simpa using hb.symm)] at hq; exact .inl hq
  ·subst e; rw [if_neg (of_decide_eq_false hb.symm)] at hq; exact .inl hq
 refine aG (fun e=>aN9 (aX ?_)) fun e=>?_
 ·rw [if_pos (by simp only [decide_eq_true_eq] at e; omega)] at hq
  refine aG (fun e=>?_) fun e=>?_
  ·rw [if_pos e] at hq; exact .inl hq
  ·rw [if_neg (by rw [e]; simp)] at hq; exact .inl hq
 have p0:=p0 (by simp only [decide_eq_false_iff_not] at e; omega)
 have fin:∀ b:Bool,(b=true↔(m=4∨m=6∨m=9∨m=11))→Y47.p0 (aI h Q) b h:=fun b hb=>p0 b (by
  cases b with
  | true=>rw [decide_eq_true (hb.1 rfl)]
  | false=>rw [decide_eq_false (fun hh=>by have:=hb.2 hh; cases this)])
 refine aG (fun e1=>fin _ ?_) fun e1=>aG (fun e2=>fin _ ?_) fun e2=>aG (fun e3=>fin _ ?_) fun e3=>fin _ ?_
 all_goals (simp only [decide_eq_true_eq,decide_eq_false_iff_not] at *; omega)
theorem zT {y m:Nat} {h:aA} (hq:Q (.i .i64 (kL y m:Nat)) h):C Y52.id [.i .i64 (y:Int),.i .i64 (m:Int)] h Q:=by
 refine Y52.call ?_
 simp only [Y52.t, ← Y52.p0.eq_1]
 unfold kL at hq
 have p0:m≠2→∀ b,b=decide (m=4∨m=6∨m=9∨m=11)→Y52.p0 (aI h Q) b h:=by
  intro h2 b hb
  rw [if_neg h2] at hq
  refine Y52.i0 ?_
  simp only [Y52.t0]
  refine aG (fun e=>?_) fun e=>?_
  ·subst e; rw [if_pos (by simpa using hb.symm)] at hq; exact .inl hq
  ·subst e; rw [if_neg (of_decide_eq_false hb.symm)] at hq; exact .inl hq
 refine aG (fun e=>z8 (aX ?_)) fun e=>?_
 ·rw [if_pos (by simp only [decide_eq_true_eq] at e; omega)] at hq
  refine aG (fun e=>?_) fun e=>?_
  ·rw [if_pos e] at hq; exact .inl hq
  ·rw [if_neg (by rw [e]; simp)] at hq; exact .inl hq
 have p0:=p0 (by simp only [decide_eq_false_iff_not] at e; omega)
 have fin:∀ b:Bool,(b=true↔(m=4∨m=6∨m=9∨m=11))→Y52.p0 (aI h Q) b h:=fun b hb=>p0 b (by
  cases b with
  | true=>rw [decide_eq_true (hb.1 rfl)]
  | false=>rw [decide_eq_false (fun hh=>by have:=hb.2 hh; cases this)])
 refine aG (fun e1=>fin _ ?_) fun e1=>aG (fun e2=>fin _ ?_) fun e2=>aG (fun e3=>fin _ ?_) fun e3=>fin _ ?_
 all_goals (simp only [decide_eq_true_eq,decide_eq_false_iff_not] at *; omega)
theorem aKC {k:Nat} {h:aA} (hk:k≤100000) (hq:Q (.i .i64 ((k / 4+k / 400 - k / 100:Nat):Int)) h):C Y83.id [.i .i64 (k:Int)] h Q:=by
 refine Y83.call ?_
 simp only [Y83.t]
 refine gN (b:=4) (by omega) (by omega) (gN (b:=100) (by omega) (by omega) ?_)
 refine aJ (n:=((k / 4 - k / 100:Nat):Int)) (by rw [aL (by omega) (by omega)]; omega) (gN (b:=400) (by omega) (by omega) ?_)
 refine aJ (n:=((k / 4+k / 400 - k / 100:Nat):Int)) (by rw [aL (by omega) (by omega)]; omega) (.inl hq)
theorem oD {y:Nat} {h:aA} (h1:1970≤y) (h2:y≤90000) (hq:Q (.i .i64 (d9 y:Nat)) h):C Y76.id [.i .i64 (y:Int)] h Q:=by
 refine Y76.call ?_
 simp only [Y76.t]
 unfold d9 at hq
 refine aJ (n:=((y - 1970:Nat):Int)) (by rw [aL (by omega) (by omega)]; omega) ?_
 refine aJ (n:=((365 * (y - 1970):Nat):Int)) (by rw [aL (by omega) (by omega)]; omega) ?_
 refine aJ (n:=((y - 1:Nat):Int)) (by rw [aL (by omega) (by omega)]; omega) ?_
 refine fW rfl (aKC (by omega) (aU ?_))
 refine aJ (n:=((365 * (y - 1970)+((y - 1) / 4+(y - 1) / 400 - (y - 1) / 100):Nat):Int)) (by rw [aL (by omega) (by omega)]; omega) ?_
 refine fW rfl (aKC (k:=1969) (by omega) (aU ?_))
 refine aJ (n:=((365 * (y - 1970)+((y - 1) / 4+(y - 1) / 400) - (y - 1) / 100 - 477:Nat):Int)) (by rw [aL (by omega) (by omega)]; omega) (.inl hq)
def gU (k:Nat):List UInt8:=[UInt8.ofNat (48+k / 10 % 10),UInt8.ofNat (48+k % 10)]
theorem Tx.two {h0 h:aA} (U:Upd (fun _=>False) h0 h) {c d:UInt8} {K:AV→aA→Prop} (hk:∀ v h',Tx h0 h' v [c,d]→K v h'):aN 1 2 [.i .u8 0,.i .u8 0] [(0,1,.i .u8 (c.toNat:Int)),(1,1,.i .u8 (d.toNat:Int))] h K:=by
 refine ⟨rfl,hk _ _ ⟨U.trans (Upd.app _ _) fun _ _ h=>h,.inr ⟨h.length,bR [byteAV c,byteAV d] 1 true,rfl,by simp [byteAV]; rfl,rfl,rfl,rfl,Nat.le_refl _,rfl,rfl⟩,fun i hi=>?_⟩⟩
 cases hi; exact U.1
theorem vI {k:Nat} {h:aA} (hk:k<100) (hq:Q (.s (gU k)) h):C Y73.id [.i .i64 (k:Int)] h Q:=by
 refine Y73.call ?_
 simp only [Y73.t]
 refine gN (b:=10) (by omega) (by omega) ?_
 refine aJ (n:=((48+k / 10 % 10:Nat):Int)) (by rw [aL (by omega) (by omega)]; omega) (fO (b:=10) (by omega) ?_)
 refine aJ (n:=((48+k % 10:Nat):Int)) (by rw [aL (by omega) (by omega)]; omega) ?_
 rw [cK,cK,eN,eN]
 exact Tx.two (Upd.refl _ _) fun v h' T=>T.ret hq
theorem pJ {k:Nat} {h:aA} (hk:k<1000000) (hq:Q (.s (gU k)) h):C Y72.id [.i .i64 (k:Int)] h Q:=by
 refine Y72.call ?_
 simp only [Y72.t]
 refine gN (b:=10) (by omega) (by omega) (fO (b:=10) (by omega) ?_)
 refine aJ (n:=((48+k / 10 % 10:Nat):Int)) (by rw [aL (by omega) (by omega)]; omega) (fO (b:=10) (by omega) ?_)
 refine aJ (n:=((48+k % 10:Nat):Int)) (by rw [aL (by omega) (by omega)]; omega) ?_
 rw [cK,cK,eN,eN]
 exact Tx.two (Upd.refl _ _) fun v h' T=>T.ret hq
theorem aMY (y:Nat):gU (y % 100)=gU y:=by
 unfold gU
 rw [show y % 100 / 10 % 10=y / 10 % 10 by omega,show y % 100 % 10=y % 10 by omega]
structure aAQ (day y m d:Nat):Prop where
 y0:1970≤y
 y1:d9 y≤day
 y2:day<d9 (y+1)
 m0:1≤m
 m1:m≤12
 d0:day=d9 y+eK y m+d
 d1:d<kL y m
theorem aMC (day : Nat) : ∃ y m d, aAQ day y m d := by
 have hy : ∃ y, 1970 ≤ y ∧ d9 y ≤ day ∧ day < d9 (y + 1) := by
  have go:∀ k,(∃ y,1970≤y∧d9 y≤day∧day<d9 (y+1))∨d9 (1970+k)≤day:=by
   intro k
   induction k with
   | zero=>right; rw [Nat.add_zero,aFC]; omega
   | succ k ih =>
    rcases ih with h | h
    ·exact .inl h
    ·by_cases hd : day < d9 (1970 + k + 1)
     ·exact .inl ⟨1970+k,by omega,h,hd⟩
     ·exact .inr (by rw [show 1970+(k+1)=1970+k+1 by omega]; omega)
  rcases go (day+1) with h | h
  ·exact h
  ·have := nX (a := 1970) (b := 1970 + (day + 1)) (by omega) (by omega)
   omega
 obtain ⟨y,h1,h2,h3⟩:=hy
 have hb:=nB h1
 have hm : ∃ m, 1 ≤ m ∧ m ≤ 12 ∧ eK y m ≤ day - d9 y ∧ day - d9 y < eK y (m + 1) := by
  have go:∀ k,k≤12→(∃ m,1≤m∧m≤12∧eK y m≤day - d9 y∧day - d9 y<eK y (m+1))∨eK y (1+k)≤day - d9 y:=by
   intro k
   induction k with
   | zero=>intro _; right; rw [Nat.add_zero,aF7]; omega
   | succ k ih =>
    intro hk
    rcases ih (by omega) with h | h
    ·exact .inl h
    ·by_cases hd : day - d9 y < eK y (1 + k + 1)
     ·exact .inl ⟨1+k,by omega,by omega,h,hd⟩
     ·exact .inr (by rw [show 1+(k+1)=1+k+1 by omega]; omega)
  rcases go 12 (by omega) with h | h
  ·exact h
  ·have := aNS y
   rw [show 1+12=13 from rfl] at h
   omega
 obtain ⟨m,m0,m1,m2,m3⟩:=hm
 have:=oE (y:=y) m0
 exact ⟨y,m,day - d9 y - eK y m,h1,h2,h3,m0,m1,by omega,by omega⟩
def jS (y m d r:Nat):List UInt8:=gU y++gU m++gU (d+1)++gU (r / 3600)++gU (r / 60 % 60)++gU (r % 60)++[90]
def iW (y m d r:Nat):List AV:=if y<2050 then bF 0 23 false (jS y m d r) else bF 0 24 false (gU (y / 100)++jS y m d r)
theorem d4 (k:Nat):(gU k).length=2:=rfl
theorem aAQ.y4 {day y m d:Nat} (D:aAQ day y m d) (h:day≤2932896):y≤9999:=by
 have h1:=D.y1
 have h2:d9 10000=2932897:=by decide
 rcases Nat.lt_or_ge y 10000 with h | h
 ·omega
 ·have:=nX (a:=10000) (by omega) h; omega
theorem aBM {n y m d : Nat} {h : aA} (hn : n ≤ 253402300799) (D : aAQ (n / 86400) y m d) (hq : Q (.ag (iW y m d (n % 86400))) h) : C Y21.id [.i .i64 (n : Int)] h Q := by
 have hday:n / 86400≤2932896:=by omega
 have hy:=D.y4 hday
 have hr:n % 86400<86400:=Nat.mod_lt _ (by omega)
 refine Y21.call ?_
 simp only [Y21.t, ← Y21.p0.eq_1]
 refine b9 fun h1 hl1 U1 R=>?_
 refine aK (by simp) (gN (b:=86400) (by omega) (by omega) (oD (y:=10000) (by omega) (by omega) (aU ?_)))
 rw [decide_eq_false (by rw [show d9 10000=2932897 by decide]; omega)]
 refine Y21.i0 ?_
 simp only [Y21.t0, ← Y21.p1.eq_1]
 refine aK rfl (gN (b:=86400) (by omega) (by omega) (fO (b:=86400) (by omega) ?_))
 generalize n / 86400=day at *
 generalize n % 86400=r at *
 refine gN (b:=366) (by omega) (by omega) ?_
 refine aJ (n:=((1970+day / 366:Nat):Int)) (by rw [aL (by omega) (by omega)]; omega) ?_
 obtain ⟨y0,y1,y2,m0,m1,d0,d1⟩:=D
 have p2:∀ k m',m'+k=m→1≤m'→Y21.p2 (aI h Q) (.p (some ⟨h.length,5,0⟩)) ((eK y m+d - eK y m':Nat):Int) r y m' h1:=by
  intro k
  induction k with
  | zero =>
   intro m' hm' _
   have:m'=m:=by omega
   subst this
   refine Y21.i2 ?_
   simp only [Y21.t2]
   refine wY (aU (aK (by rw [decide_eq_false_iff_not]; omega) ?_))
   have hd31:=jW y m'
   refine fO (b:=100) (by omega) (fW rfl (vI (by omega) (aZ (fW rfl (vI (by omega) (aZ ⟨by simp [d4], ?_⟩))))))
   refine aJ (n:=((d+1:Nat):Int)) (by rw [aL (by omega) (by omega)]; omega) (fW rfl (vI (by omega) (aZ ⟨by simp [d4], ?_⟩)))
   refine gN (b:=3600) (by omega) (by omega) (fW rfl (vI (by omega) (aZ ⟨by simp [d4], ?_⟩)))
   refine gN (b:=60) (by omega) (by omega) (fO (b:=60) (by omega) (fW rfl (vI (by omega) (aZ ⟨by simp [d4], ?_⟩))))
   refine fO (b:=60) (by omega) (fW rfl (vI (by omega) (aZ ⟨by simp [d4],⟨by simp [d4], ?_⟩⟩)))
   rw [aMY]
   unfold iW at hq
   by_cases hy50:y<2050
   ·rw [if_pos hy50] at hq
    exact aM (by rw [decide_eq_true_eq]; omega) (iE (h1:=h1) rfl R (Nat.le_refl _) U1 hq)
   ·rw [if_neg hy50] at hq
    refine aK (by rw [decide_eq_false_iff_not]; omega) (gN (b:=100) (by omega) (by omega) (fW rfl (vI (by omega) (aZ ⟨by simp [d4], ?_⟩))))
    exact iE (h1:=h1) rfl R (Nat.le_refl _) U1 hq
  | succ k ih =>
   intro m' hm' h1m
   have hms:=oE (y:=y) h1m
   have hmm:=aBL (y:=y) (a:=m'+1) (b:=m) (by omega) (by omega)
   refine Y21.i2 ?_
   simp only [Y21.t2, ← Y21.p2.eq_1]
   refine wY (aU (aM (by rw [decide_eq_true_eq]; omega) (wY (aU ?_))))
   refine aJ (n:=((eK y m+d - eK y (m'+1):Nat):Int)) (by rw [aL (by omega) (by omega)]; omega) (inc (by omega) ?_)
   exact ih (m'+1) (by omega) (by omega)
 have p1:∀ k y',y'+k=y→1970≤y'→Y21.p1 (aI h Q) (.p (some ⟨h.length,5,0⟩)) day r y' h1:=by
  intro k
  induction k with
  | zero =>
   intro y' hy' _
   have:y'=y:=by omega
   subst this
   refine Y21.i1 ?_
   simp only [Y21.t1, ← Y21.p2.eq_1]
   refine inc (by omega) (oD (by omega) (by omega) (aU (aK (by rw [decide_eq_false_iff_not]; omega) (oD (by omega) (by omega) (aU ?_)))))
   refine aJ (n:=((eK y' m+d - eK y' 1:Nat):Int)) (by rw [aL (by omega) (by omega),aF7]; omega) ?_
   exact p2 (m - 1) 1 (by omega) (by omega)
  | succ k ih =>
   intro y' hy' h1y
   have:=nX (a:=y'+1) (b:=y) (by omega) (by omega)
   refine Y21.i1 ?_
   simp only [Y21.t1, ← Y21.p1.eq_1]
   refine inc (by omega) (oD (by omega) (by omega) (aU (aM (by rw [decide_eq_true_eq]; omega) ?_)))
   exact inc (by omega) (ih (y'+1) (by omega) (by omega))
 have hle:1970+day / 366≤y:=by
  have h1:=aKF (a:=1970) (b:=1970+day / 366) (by omega) (by omega)
  rw [aFC] at h1
  rcases Nat.lt_or_ge y (1970+day / 366) with h2 | h2
  ·have := nX (a := y + 1) (b := 1970 + day / 366) (by omega) (by omega)
   omega
  ·exact h2
 exact p1 (y - (1970+day / 366)) (1970+day / 366) (by omega) (by omega)
theorem y5 {n y m d : Nat} {h : aA} (hn : n ≤ 253402300799) (D : aAQ (n / 86400) y m d) (hq : Q (.ag (iW y m d (n % 86400))) h) : C Y9.id [.i .i64 (n : Int)] h Q := by
 have hday:n / 86400≤2932896:=by omega
 have hy:=D.y4 hday
 have hr:n % 86400<86400:=Nat.mod_lt _ (by omega)
 refine Y9.call ?_
 simp only [Y9.t, ← Y9.p0.eq_1]
 refine b9 fun h1 hl1 U1 R=>?_
 refine aK (by simp) ?_
 rw [decide_eq_false (by omega)]
 refine Y9.i0 ?_
 simp only [Y9.t0, ← Y9.p1.eq_1]
 refine aK rfl (gN (b:=86400) (by omega) (by omega) ?_)
 obtain ⟨y0,y1,y2,m0,m1,d0,d1⟩:=D
 generalize hD:n / 86400=day at *
 have p2:∀ k m',m'+k=m→1≤m'→Y9.p3 (aI h Q) n (.p (some ⟨h.length,5,0⟩)) ((eK y m+d - eK y m':Nat):Int) y m' h1:=by
  intro k
  induction k with
  | zero =>
   intro m' hm' _
   have:m'=m:=by omega
   subst this
   refine Y9.i3 ?_
   simp only [Y9.t3]
   refine zT (aU (aK (by rw [decide_eq_false_iff_not]; omega) ?_))
   have hd31:=jW y m'
   refine fO (b:=86400) (by omega) ?_
   generalize n % 86400=r at *
   refine pJ (by omega) (aZ (pJ (by omega) (aZ ⟨by simp [d4], ?_⟩)))
   refine aJ (n:=((d+1:Nat):Int)) (by rw [aL (by omega) (by omega)]; omega) (pJ (by omega) (aZ ⟨by simp [d4], ?_⟩))
   refine gN (b:=3600) (by omega) (by omega) (pJ (by omega) (aZ ⟨by simp [d4], ?_⟩))
   refine gN (b:=60) (by omega) (by omega) (fO (b:=60) (by omega) (pJ (by omega) (aZ ⟨by simp [d4], ?_⟩)))
   refine fO (b:=60) (by omega) (pJ (by omega) (aZ ⟨by simp [d4],⟨by simp [d4], ?_⟩⟩))
   unfold iW at hq
   by_cases hy50:y<2050
   ·rw [if_pos hy50] at hq
    exact aK (by rw [decide_eq_false_iff_not]; omega) (iE (h1:=h1) rfl R (Nat.le_refl _) U1 hq)
   ·rw [if_neg hy50] at hq
    refine aM (by rw [decide_eq_true_eq]; omega) (gN (b:=100) (by omega) (by omega) (pJ (by omega) (aZ ⟨by simp [d4], ?_⟩)))
    exact iE (h1:=h1) rfl R (Nat.le_refl _) U1 hq
  | succ k ih =>
   intro m' hm' h1m
   have hms:=oE (y:=y) h1m
   have hmm:=aBL (y:=y) (a:=m'+1) (b:=m) (by omega) (by omega)
   refine Y9.i3 ?_
   simp only [Y9.t3, ← Y9.p3.eq_1]
   refine zT (aU (aM (by rw [decide_eq_true_eq]; omega) (zT (aU ?_))))
   refine aJ (n:=((eK y m+d - eK y (m'+1):Nat):Int)) (by rw [aL (by omega) (by omega)]; omega) (inc (by omega) ?_)
   exact ih (m'+1) (by omega) (by omega)
 have p1:∀ k y',y'+k=y→1970≤y'→Y9.p1 (aI h Q) n (.p (some ⟨h.length,5,0⟩)) ((day - d9 y':Nat):Int) y' h1:=by
  intro k
  induction k with
  | zero =>
   intro y' hy' _
   have:y'=y:=by omega
   subst this
   have hb:=nB y0
   have go:∀ x:Nat,x=oF y'→Y9.p2 (aI h Q) n (.p (some ⟨h.length,5,0⟩)) ((day - d9 y':Nat):Int) y' x h1:=by
    intro x hx
    refine Y9.i2 ?_
    simp only [Y9.t2, ← Y9.p3.eq_1]
    refine aM (by rw [decide_eq_true_eq]; omega) ?_
    have:=p2 (m - 1) 1 (by omega) (by omega)
    rw [aF7,show eK y' m+d - 0=day - d9 y' by omega] at this
    exact this
   unfold oF at go
   refine Y9.i1 ?_
   simp only [Y9.t1, ← Y9.p2.eq_1]
   refine z8 (aX (aG (fun e=>go 366 ?_) fun e=>go 365 ?_))
   ·rw [if_pos e]
   ·rw [if_neg (by rw [e]; simp)]
  | succ k ih =>
   intro y' hy' h1y
   have hb:=nB h1y
   have:=nX (a:=y'+1) (b:=y) (by omega) (by omega)
   have go:∀ x:Nat,x=oF y'→Y9.p2 (aI h Q) n (.p (some ⟨h.length,5,0⟩)) ((day - d9 y':Nat):Int) y' x h1:=by
    intro x hx
    refine Y9.i2 ?_
    simp only [Y9.t2, ← Y9.p1.eq_1]
    refine aK (by rw [decide_eq_false_iff_not]; omega) ?_
    refine aJ (n:=((day - d9 (y'+1):Nat):Int)) (by rw [aL (by omega) (by omega)]; omega) (inc (by omega) (ih (y'+1) (by omega) (by omega)))
   unfold oF at go
   refine Y9.i1 ?_
   simp only [Y9.t1, ← Y9.p2.eq_1]
   refine z8 (aX (aG (fun e=>go 366 ?_) fun e=>go 365 ?_))
   ·rw [if_pos e]
   ·rw [if_neg (by rw [e]; simp)]
 have:=p1 (y - 1970) 1970 (by omega) (by omega)
 rw [aFC,Nat.sub_zero] at this
 exact this
end
end Go.Proofs.YtcdkpkkdolmfdaaGreatDoor
namespace Go.GAM
end Go.GAM
namespace Go.Proofs.YtcdkpkkdolmfdaaGreatDoor
open Go.GAM Go.RowKit
def dA:List UInt8→List Nat
 | a :: b :: r=>((a.toNat - 48) * 10+(b.toNat - 48)) :: dA r
 | _=>[]
def aMN (y mo da h mi s:Nat):Nat:=(d9 y+eK y mo+da - 1) * 86400+h * 3600+mi * 60+s
def aA7 (y mo da h mi s:Nat):Prop:=y<1970∨mo<1∨12<mo∨da<1∨kL y mo<da∨23<h∨59<mi∨59<s
instance (y mo da h mi s:Nat):Decidable (aA7 y mo da h mi s):=by unfold aA7; infer_instance
def aBB (y mo da h mi s:Nat):Int × Bool:=if aA7 y mo da h mi s then (0,false) else ((aMN y mo da h mi s:Nat),true)
def aAH (p:List Nat):Int × Bool:=match p with
 | [a,b,mo,da,h,mi,s]=>aBB (100 * a+b) mo da h mi s
 | _=>(0,false)
def s8 (d:Der):Option (List UInt8):=
 if dB 24 d=true then (if d.data.length=15 then some d.data else none) else
 if dB 23 d=true then (if d.data.length=13 then some ((if 53≤(d.data.getD 0 0).toNat then [49,57] else [50,48])++d.data) else none) else none
def dQ (d:Der):Int × Bool:=match s8 d with
 | none=>(0,false)
 | some s=>if s.getD 14 0=90∧(s.take 14).all eQ=true then aAH (dA (s.take 14)) else (0,false)
theorem aFW (y m:Nat):eK y m≤31 * m:=by
 induction m with
 | zero=>simp [eK]
 | succ k ih =>
  have:=jW y k
  show eK y k+(if k=0 then 0 else kL y k)≤_
  split <;> omega
theorem aJS {y:Nat} (h:1970≤y) (h2:y≤89999):d9 y≤40000000:=by
 have:=aKF (a:=1970) (b:=y) (by omega) h
 rw [aFC] at this; omega
section
variable {h0:aA} {Q:AV→aA→Prop}
theorem aL4 (c:UInt8) (h:aA) (K:AV→aA→Prop) (hk:K (.b (eQ c)) h):C Y62.id [.i .u8 (c.toNat:Int)] h K:=by
 refine Y62.call ?_
 simp only [Y62.t, ← Y62.p0.eq_1]
 have p0:∀ b,b=eQ c→Y62.p0 (aI h K) b h:=by
  intro b hb
  refine Y62.i0 ?_
  simp only [Y62.t0]
  subst hb
  exact .inl hk
 unfold eQ at p0
 refine aG (fun e=>p0 _ ?_) fun e=>p0 _ ?_
 ·simp only [decide_eq_true_eq] at e
  rw [decide_eq_true (by omega:48≤c.toNat),Bool.true_and,decide_eq_decide]; omega
 ·simp only [decide_eq_false_iff_not] at e
  rw [decide_eq_false (by omega:¬ 48≤c.toNat)] <;> rfl
def aEY (x:Int × Bool):AV:=.tu [.i .i64 x.1,.b x.2]
theorem aL3 {h hx:aA} {v:AV} {y x mo da hh mi s:Nat} (E:Ext h hx) (R:Rd 1 hx v ([x,mo,da,hh,mi,s].map num) 6) (hy:1970≤y) (hy2:y≤89999) (hmo:mo≤12) (hda:1≤da∧da≤31) (h23:hh≤99) (h59:mi≤99) (h60:s≤99)
  (hq:Q (.tu [.i .i64 (aMN y mo da hh mi s:Nat),.b true]) h):∀ k m',m'+k=mo→1≤m'→Y4.p5 (aI h Q) v y ((d9 y+eK y m'+da - 1:Nat):Int) m' hx:=by
 have hb:=aJS hy hy2
 intro k
 induction k with
 | zero =>
  intro m' hm h1
  have:m'=mo:=by omega
  subst this
  have hm:=aFW y m'
  refine Y4.i5 ?_
  simp only [Y4.t5]
  refine R.nat (i:=1) (by omega) rfl (aK (by rw [decide_eq_false_iff_not]; omega) ?_)
  unfold aMN at hq
  refine aJ (n:=(((d9 y+eK y m'+da - 1) * 86400:Nat):Int)) (by rw [aL (by omega) (by omega)]; omega) (R.nat (i:=3) (by omega) rfl ?_)
  refine aJ (n:=((hh * 3600:Nat):Int)) (by rw [aL (by omega) (by omega)]; omega) ?_
  refine aJ (n:=(((d9 y+eK y m'+da - 1) * 86400+hh * 3600:Nat):Int)) (by rw [aL (by omega) (by omega)]; omega) (R.nat (i:=4) (by omega) rfl ?_)
  refine aJ (n:=((mi * 60:Nat):Int)) (by rw [aL (by omega) (by omega)]; omega) ?_
  refine aJ (n:=(((d9 y+eK y m'+da - 1) * 86400+hh * 3600+mi * 60:Nat):Int)) (by rw [aL (by omega) (by omega)]; omega) (R.nat (i:=5) (by omega) rfl ?_)
  refine aJ (n:=(((d9 y+eK y m'+da - 1) * 86400+hh * 3600+mi * 60+s:Nat):Int)) (by rw [aL (by omega) (by omega)]; omega) (aV rfl E hq)
 | succ k ih =>
  intro m' hm h1
  have hms:=oE (y:=y) h1
  have hmb:=aFW y m'
  have hdb:=jW y m'
  refine Y4.i5 ?_
  simp only [Y4.t5, ← Y4.p5.eq_1]
  refine R.nat (i:=1) (by omega) rfl (aM (by rw [decide_eq_true_eq]; omega) (wY (aU ?_)))
  refine aJ (n:=((d9 y+eK y (m'+1)+da - 1:Nat):Int)) (by rw [aL (by omega) (by omega)]; omega) (inc (by omega) ?_)
  exact ih (m'+1) (by omega) (by omega)
theorem zF {h hx:aA} {v:AV} {y x mo da hh mi s:Nat} (E:Ext h hx) (R:Rd 1 hx v ([x,mo,da,hh,mi,s].map num) 6) (hy2:y≤89999) (hmo2:mo≤99) (hda2:da≤99) (h23:hh≤99) (h59:mi≤99) (h60:s≤99)
  (hq:Q (aEY (aBB y mo da hh mi s)) h):Y4.p3 (aI h Q) v y hx:=by
 obtain ⟨id,ver,off,cap,b,rfl,A⟩:=R.at (by omega)
 have R:=A.rd cap
 unfold aBB aEY at hq
 have p4:∀ b:Bool,(b=true↔aA7 y mo da hh mi s)→Y4.p4 (aI h Q) (.sl (some ⟨id,ver,off⟩) 6 cap) y b hx:=by
  intro b hb
  refine Y4.i4 ?_
  simp only [Y4.t4, ← Y4.p5.eq_1]
  refine aG (fun e=>?_) fun e=>?_
  ·rw [if_pos (hb.1 e)] at hq
   exact aV rfl E hq
  ·have hg : ¬ aA7 y mo da hh mi s := fun hh => by have := hb.2 hh; rw [e] at this; cases this
   rw [if_neg hg] at hq
   unfold aA7 at hg
   have hdd:=jW y mo
   have hbb:=aJS (y:=y) (by omega) hy2
   refine dE A (i:=2) (by omega) (d7 A (by omega) rfl (oD (by omega) (by omega) (aU (d7 A (by omega) rfl ⟨rfl,dE A (i:=2) (by omega) ⟨rfl, ?_⟩⟩))))
   refine aJ (n:=((d9 y+da:Nat):Int)) (by rw [aL (by omega) (by omega)]; omega) ?_
   refine aJ (n:=((d9 y+eK y 1+da - 1:Nat):Int)) (by rw [aF7,aL (by omega) (by omega)]; omega) ?_
   exact aL3 E R (by omega) hy2 (by omega) (by omega) h23 h59 h60 hq (mo - 1) 1 (by omega) (by omega)
 have hdd:=jW y mo
 unfold aA7 at p4
 refine Y4.i3 ?_
 simp only [Y4.t3, ← Y4.p4.eq_1]
 refine aG (fun e1=>p4 _ ?_) fun e1=>dE A (i:=1) (by omega) (d7 A (by omega) rfl ?_)
 ·simp only [decide_eq_true_eq] at e1; simp; omega
 refine aG (fun e2=>p4 _ ?_) fun e2=>dE A (i:=1) (by omega) (d7 A (by omega) rfl ?_)
 ·simp only [decide_eq_true_eq] at e2; simp; omega
 refine aG (fun e3=>p4 _ ?_) fun e3=>dE A (i:=2) (by omega) (d7 A (by omega) rfl ?_)
 ·simp only [decide_eq_true_eq] at e3; simp; omega
 refine aG (fun e4=>p4 _ ?_) fun e4=>dE A (i:=2) (by omega) (d7 A (by omega) rfl (dE A (i:=1) (by omega) (d7 A (by omega) rfl (wY (aU ?_)))))
 ·simp only [decide_eq_true_eq] at e4; simp; omega
 simp only [decide_eq_false_iff_not] at e1 e2 e3 e4
 refine dE A (i:=1) (by omega) ⟨rfl,d7 A (by omega) rfl ⟨rfl,dE A (i:=2) (by omega) ⟨rfl,d7 A (by omega) rfl ⟨rfl,dE A (i:=2) (by omega) ⟨rfl,d7 A (by omega) rfl ⟨rfl,dE A (i:=1) (by omega) ⟨rfl,d7 A (by omega) rfl ⟨rfl,dE A (i:=1) (by omega) ⟨rfl, ?_⟩⟩⟩⟩⟩⟩⟩⟩⟩
 refine aG (fun e5=>p4 _ ?_) fun e5=>R.nat (i:=3) (by omega) rfl ?_
 ·simp only [decide_eq_true_eq] at e5; simp; omega
 refine aG (fun e6=>p4 _ ?_) fun e6=>R.nat (i:=4) (by omega) rfl ?_
 ·simp only [decide_eq_true_eq] at e6; simp; omega
 refine aG (fun e7=>p4 _ ?_) fun e7=>R.nat (i:=5) (by omega) rfl (p4 _ ?_)
 ·simp only [decide_eq_true_eq] at e7; simp; omega
 simp only [decide_eq_false_iff_not] at e5 e6 e7
 rw [decide_eq_true_eq]; omega
theorem yR:∀ (l:List UInt8),l.all eQ=true→∀ n∈dA l,n≤99
 | [],_,n,hn=>by simp [dA] at hn
 | [a],_,n,hn=>by simp [dA] at hn
 | a :: b :: r, h, n, hn => by
  simp only [List.all_cons,Bool.and_eq_true] at h
  have:=iB h.1
  have:=iB h.2.1
  simp only [dA,List.mem_cons] at hn
  rcases hn with rfl | hn
  ·omega
  ·exact yR r h.2.2 n hn
theorem wS:∀ l:List UInt8,(dA l).length=l.length / 2
 | []=>by simp [dA]
 | [a]=>by simp [dA]
 | a :: b :: r => by
  have:=wS r
  simp only [dA,List.length_cons,this]; omega
theorem aOX {α:Type} {l:List α} (h:l.length=7):∃ a b c d e f g,l=[a,b,c,d,e,f,g]:=by
 match l,h with
 | [a,b,c,d,e,f,g],_=>exact ⟨a,b,c,d,e,f,g,rfl⟩
theorem aOV {α:Type} {l:List α} (h:l.length=6):∃ a b c d e f,l=[a,b,c,d,e,f]:=by
 match l,h with
 | [a,b,c,d,e,f],_=>exact ⟨a,b,c,d,e,f,rfl⟩
theorem aME {h hx0:aA} {sz:Nat}:∀ (k:Nat) (ds:List UInt8) (done:List Nat) (v:AV) (hx:aA),ds.length=2 * k→k≤100→done.length+k≤100→ds.all eQ=true→eT hx0 hx v (done.map num) →
  (∀ v hx,eT hx0 hx v ((done++dA ds).map num)→Y4.p2 (aI h Q) sz [] v hx)→Y4.p2 (aI h Q) sz ds v hx:=by
 intro k
 induction k with
 | zero =>
  intro ds done v hx hl _ _ _ S fin
  have:ds=[]:=List.eq_nil_of_length_eq_zero (by omega)
  subst this
  exact fin v hx (by simpa [dA] using S)
 | succ k ih =>
  intro ds done v hx hl hk hd hall S fin
  match ds,hl with
  | [],hl=>simp at hl
  | [a],hl=>simp at hl; omega
  | a :: b :: r, hl =>
   simp only [List.all_cons,Bool.and_eq_true] at hall
   have ha:=iB hall.1
   have hb:=iB hall.2.1
   refine Y4.i2 ?_
   simp only [Y4.t2, ← Y4.p2.eq_1]
   refine aM (by simp) (cW (i:=0) rfl ?_)
   refine aJ (n:=((a.toNat - 48:Nat):Int)) (by rw [gO (by omega) (by omega)]; omega) ?_
   refine aJ (n:=(((a.toNat - 48) * 10:Nat):Int)) (by rw [aL (n:=((a.toNat - 48:Nat):Int)) (by omega) (by omega),aL (by omega) (by omega)]; omega) (cW (i:=1) rfl ?_)
   refine aJ (n:=((b.toNat - 48:Nat):Int)) (by rw [gO (by omega) (by omega)]; omega) ?_
   refine aJ (n:=(((a.toNat - 48) * 10+(b.toNat - 48):Nat):Int)) (by rw [aL (n:=((b.toNat - 48:Nat):Int)) (by omega) (by omega),aL (by omega) (by omega)]; omega) ?_
   refine S.push rfl rfl (by simp; omega) (by simp; omega) fun v' h' S' _ _=>iD (lo:=2) (by simp) ?_
   refine ih r (done++[(a.toNat - 48) * 10+(b.toNat - 48)]) v' h' (by simp at hl; omega) (by omega) (by simp; omega) hall.2.2 (by rw [List.map_append]; exact S') fun v2 h2 S2=>fin v2 h2 ?_
   simpa [dA] using S2
theorem aG5 {l:List UInt8} {n:Nat} (h:l.length=n+1):∃ c,l[n]? = some c∧l.getD n 0=c:=by
 obtain ⟨c,hc⟩:∃ c,l[n]? = some c:=⟨_,List.getElem?_eq_getElem (by omega)⟩
 exact ⟨c,hc,getD_some hc⟩
theorem aI3 {d : Der} {cs : List AV} {F : Nat → Prop} {h : aA} (D : DV h F d cs) (hs : d.data.length ≤ 100000) (hq : Q (aEY (dQ d)) h) : C Y4.id [.ag cs] h Q := by
 refine Y4.call ?_
 simp only [Y4.t, ← Y4.p0.eq_1]
 refine D.box fun h1 hl1 U1 B D1=>bB B D.len.symm (lZ D1 (aX ?_))
 have p1bad:∀ sz:Nat,dQ d=(0,false)→Y4.p1 (aI h Q) (.p (some ⟨h.length,5,0⟩)) sz true h1:=by
  intro sz he
  rw [he] at hq
  refine Y4.i1 ?_
  simp only [Y4.t1]
  exact aM rfl (aV rfl U1.ext hq)
 have p1 : ∀ n : Nat, (n = 12 ∨ n = 14) → d.data.length = n + 1 →
   (dQ d=if (d.data.take n).all eQ=true then (if n=14 then aAH (dA (d.data.take 14)) else aAH ((if 50≤(dA (d.data.take 12)).getD 0 0 then 19 else 20) :: dA (d.data.take 12))) else (0,false)) →
   Y4.p1 (aI h Q) (.p (some ⟨h.length,5,0⟩)) ((n+1:Nat):Int) false h1:=by
  intro n hn hl he
  rw [he] at hq
  refine Y4.i1 ?_
  simp only [Y4.t1, ← Y4.p2.eq_1]
  refine aK rfl (aP (aO B D.len.symm D.dat (aZ ?_)))
  refine aJ (n:=(n:Int)) (by rw [aL (by omega) (by omega)]; omega) (j3 (by omega) (Tx.ofStr fun v h2 T=>?_))
  have E2:=(U1.trans T.upd fun _ _ h=>h)
  refine wQ (p:=eQ) rfl aL4 T.byt (by simp; omega) (aX ?_)
  cases ha:(d.data.take n).all eQ with
  | false =>
   rw [ha,if_neg (by simp)] at hq
   exact aM rfl (aV rfl E2.ext hq)
  | true =>
   rw [ha,if_pos rfl] at hq
   refine aK rfl ?_
   have hbd:=yR _ ha
   have hpl:=wS (d.data.take n)
   rw [List.length_take,Nat.min_eq_left (by omega)] at hpl
   refine aME (sz:=n+1) (n / 2) (d.data.take n) [] _ h2 (by rw [List.length_take]; omega) (by omega) (by simp; omega) ha (eT.start h2) fun v hx S=>?_
   rw [List.nil_append] at S
   have E:Ext h hx:=(E2.trans S.upd fun _ _ h=>h).ext
   have R:=S.stk.rd
   rw [List.length_map] at R
   refine Y4.i2 ?_
   simp only [Y4.t2, ← Y4.p3.eq_1]
   refine aK (by simp) ?_
   rcases hn with rfl | rfl
   ·rw [if_neg (by omega)] at hq
    obtain ⟨b,mo,da,hh,mi,s,hp⟩:=aOV hpl
    rw [hp] at hq R hbd
    have bb:=hbd b (by simp)
    refine R.nat (i:=0) (by simp) rfl ?_
    refine aJ (n:=((b+2000:Nat):Int)) (by rw [aL (by omega) (by omega)]; omega) (aK (by simp) (R.nat (i:=0) (by simp) rfl ?_))
    have hq:Q (aEY (aBB ((if 50≤b then 1900 else 2000)+b) mo da hh mi s)) h:=by
     have e:aAH ((if 50≤b then 19 else 20) :: [b,mo,da,hh,mi,s])=aBB ((if 50≤b then 1900 else 2000)+b) mo da hh mi s:=by
      unfold aAH
      simp only
      congr 1
      split <;> omega
     rw [← e]; exact hq
    refine aG (fun e=>R.nat (i:=0) (by simp) rfl ?_) fun e=>?_
    ·rw [if_pos (by simp only [decide_eq_true_eq] at e; omega)] at hq
     refine aJ (n:=((1900+b:Nat):Int)) (by rw [aL (by omega) (by omega)]; omega) ?_
     exact zF E R (by omega) (hbd _ (by simp)) (hbd _ (by simp)) (hbd _ (by simp)) (hbd _ (by simp)) (hbd _ (by simp)) hq
    ·rw [if_neg (by simp only [decide_eq_false_iff_not] at e; omega)] at hq
     rw [Nat.add_comm]
     exact zF E R (by omega) (hbd _ (by simp)) (hbd _ (by simp)) (hbd _ (by simp)) (hbd _ (by simp)) (hbd _ (by simp)) hq
   ·rw [if_pos rfl] at hq
    obtain ⟨a,b,mo,da,hh,mi,s,hp⟩:=aOX hpl
    rw [hp] at hq R hbd
    have ba:=hbd a (by simp)
    have bb:=hbd b (by simp)
    refine R.nat (i:=0) (by simp) rfl ?_
    refine aJ (n:=((a+2000:Nat):Int)) (by rw [aL (by omega) (by omega)]; omega) (aM (by simp) (R.nat (i:=0) (by simp) rfl ?_))
    refine aJ (n:=((100 * a:Nat):Int)) (by rw [aL (by omega) (by omega)]; omega) (R.nat (i:=1) (by simp) rfl ?_)
    refine aJ (n:=((100 * a+b:Nat):Int)) (by rw [aL (by omega) (by omega)]; omega) (R.dropAt Nat.one_pos (lo:=1) (by simp) fun v' R'=>?_)
    exact zF E R' (by omega) (hbd _ (by simp)) (hbd _ (by simp)) (hbd _ (by simp)) (hbd _ (by simp)) (hbd _ (by simp)) hq
 have p0:∀ n:Nat,(n=12∨n=14)→(d.data.length≠n+1→dQ d=(0,false)) →
   (d.data.length=n+1→dQ d=if d.data.getD n 0=90∧(d.data.take n).all eQ=true then (if n=14 then aAH (dA (d.data.take 14)) else aAH ((if 50≤(dA (d.data.take 12)).getD 0 0 then 19 else 20) :: dA (d.data.take 12))) else (0,false)) →
   Y4.p0 (aI h Q) (.p (some ⟨h.length,5,0⟩)) ((n+1:Nat):Int) h1:=by
  intro n hn he1 he2
  refine Y4.i0 ?_
  simp only [Y4.t0, ← Y4.p1.eq_1]
  refine aP (aO B D.len.symm D.dat (aZ ?_))
  by_cases hl:d.data.length=n+1
  ·refine aK (by rw [hl]; simp) (aP (aO B D.len.symm D.dat (aZ ?_)))
   refine aJ (n:=(n:Int)) (by rw [aL (by omega) (by omega)]; omega) ?_
   obtain ⟨c,hc1,hc2⟩:=aG5 hl
   have he2:=he2 hl
   rw [hc2] at he2
   refine wF hc1 ?_
   rw [show (90:Int)=(((90:UInt8).toNat:Nat):Int) from rfl,iA]
   by_cases h90:c=90
   ·rw [decide_eq_true h90]
    refine p1 n hn hl ?_
    rw [he2]
    simp [h90]
   ·rw [decide_eq_false h90]
    refine p1bad _ ?_
    rw [he2,if_neg (fun hh=>h90 hh.1)]
  ·refine aM (by simp; omega) (p1bad _ (he1 hl))
 refine aG (fun e=>p0 14 (.inr rfl) (fun hl=>?_) fun hl=>?_) fun e=>bB B D.len.symm (lZ D1 (aX ?_))
 ·unfold dQ s8
  rw [if_pos e,if_neg hl]
 ·unfold dQ s8
  rw [if_pos e,if_pos hl]
  simp only [if_true]
 ·refine aG (fun e2 => ?_) fun e2 => p0 12 (.inl rfl) (fun hl => ?_) fun hl => ?_
  ·have : dQ d = (0, false) := by
    unfold dQ s8
    rw [if_neg (by rw [e]; simp),if_neg (by have:=e2; simp at this; rw [this]; simp)]
   rw [this] at hq
   exact aV rfl U1.ext hq
  ·unfold dQ s8
   rw [if_neg (by rw [e]; simp),if_pos (by simpa using e2),if_neg hl]
  ·have hp : dB 23 d = true := by simpa using e2
   obtain ⟨c0,r,hd⟩:∃ c0 r,d.data=c0 :: r:=by
    cases hd:d.data with
    | nil=>rw [hd] at hl; cases hl
    | cons a r=>exact ⟨a,r,rfl⟩
   obtain ⟨c1,r',hr⟩:∃ c1 r',r=c1 :: r':=by
    cases r with
    | nil=>rw [hd] at hl; cases hl
    | cons a r=>exact ⟨a,r,rfl⟩
   unfold dQ s8
   rw [if_neg (by rw [e]; simp),if_pos hp,if_pos hl]
   simp only
   have h0:d.data.getD 0 0=c0:=by rw [hd] <;> rfl
   have t12:d.data.take 12=c0 :: c1 :: r'.take 10:=by rw [hd,hr] <;> rfl
   rw [h0]
   have key:∀ x y:UInt8,eQ x=true→eQ y=true→(([x,y]++d.data).getD 14 0=d.data.getD 12 0)∧(([x,y]++d.data).take 14).all eQ=(d.data.take 12).all eQ∧dA (([x,y]++d.data).take 14)=((x.toNat - 48) * 10+(y.toNat - 48)) :: dA (d.data.take 12):=by
    intro x y hx hy
    exact ⟨rfl,by simp [hx,hy],rfl⟩
   by_cases h53:53≤c0.toNat
   ·rw [if_pos h53]
    obtain ⟨k1,k2,k3⟩:=key 49 57 (by decide) (by decide)
    rw [k1,k2,k3]
    by_cases hc:d.data.getD 12 0=90∧(d.data.take 12).all eQ=true
    ·rw [if_pos hc, if_pos hc]
     simp only [if_neg (show ¬ (12=14) by omega)]
     have hg:(dA (d.data.take 12)).getD 0 0=(c0.toNat - 48) * 10+(c1.toNat - 48):=by rw [t12] <;> rfl
     rw [hg,if_pos (by omega)] <;> rfl
    ·rw [if_neg hc,if_neg hc]
   ·rw [if_neg h53]
    obtain ⟨k1,k2,k3⟩:=key 50 48 (by decide) (by decide)
    rw [k1,k2,k3]
    by_cases hc:d.data.getD 12 0=90∧(d.data.take 12).all eQ=true
    ·rw [if_pos hc, if_pos hc]
     simp only [if_neg (show ¬ (12=14) by omega)]
     have hg:(dA (d.data.take 12)).getD 0 0=(c0.toNat - 48) * 10+(c1.toNat - 48):=by rw [t12] <;> rfl
     have hall:=hc.2
     rw [t12] at hall
     simp only [List.all_cons,Bool.and_eq_true] at hall
     have:=iB hall.1
     have:=iB hall.2.1
     rw [hg,if_neg (by omega)] <;> rfl
    ·rw [if_neg hc,if_neg hc]
end
end Go.Proofs.YtcdkpkkdolmfdaaGreatDoor
namespace Go.GAM
end Go.GAM
namespace Go.Proofs.YtcdkpkkdolmfdaaGreatDoor
open Go.GAM Go.RowKit
section
variable {h0:aA} {Q:AV→aA→Prop}
end
end Go.Proofs.YtcdkpkkdolmfdaaGreatDoor
namespace Go.GAM
end Go.GAM
namespace Go.Proofs.YtcdkpkkdolmfdaaGreatDoor
open Go.GAM Go.RowKit
instance (s:List UInt8):Decidable (nO s):=by unfold nO; infer_instance
section
variable {h0:aA} {Q:AV→aA→Prop}
end
end Go.Proofs.YtcdkpkkdolmfdaaGreatDoor
