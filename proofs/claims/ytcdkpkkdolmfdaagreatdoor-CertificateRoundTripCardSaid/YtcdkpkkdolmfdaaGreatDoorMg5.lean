/- Lemmas (several texts in one). -/
import Derived.Shelf.Strings.OnBuilder
import Derived.Shelf.Strconv.Itoa3
import Derived.Test.YtcdkpkkdolmfdaaGreatDoorProg
import Derived.Test.YtcdkpkkdolmfdaaGreatDoorRows
import Derived.Lib.LaidTab
import Derived.Lib.AppendIntMem
import Derived.Lib.ItoaNum
import Derived.ChangeArms
import Derived.Test.YtcdkpkkdolmfdaaGreatDoorMg4
namespace Go.Proofs
open Go.Shelf
def Tryz.lays156_ren:Go.Shelf.Ren:=⟨fun | 156=>90 | 165=>117 | 166=>118 | 169=>85 | 240=>112 | 241=>132 | 276=>127 | 277=>145 | n=>n,fun | 31=>23 | 9=>9 | 3=>3 | 4=>4 | 0=>0 | 20=>20 | 72=>110 | 76=>152 | 70=>108 | 37=>91 | 75=>112 | 127=>133 | 164=>155 | 5=>5 | 80=>114 | n=>n,fun | n=>n⟩
theorem Tryz.lays156:Go.Proofs.Lays.n156 Tryz.prog Tryz.lays156_ren:={
  mixed:=by kernel_rfl
  f156:=Tryz.func90.trans (congrArg some (by kernel_rfl))
  f165:=Tryz.func117.trans (congrArg some (by kernel_rfl))
  f166:=Tryz.func118.trans (congrArg some (by kernel_rfl))
  f169:=Tryz.func85.trans (congrArg some (by kernel_rfl))
  f240:=Tryz.func112.trans (congrArg some (by kernel_rfl))
  f241:=Tryz.func132.trans (congrArg some (by kernel_rfl))
  f276:=Tryz.func127.trans (congrArg some (by kernel_rfl))
  f277:=Tryz.func145.trans (congrArg some (by kernel_rfl))
  t0:=Tryz.underlying0
  a0:=Tryz.isAgg0
  z0:=Tryz.sizeOf0
  v0:=Tryz.zeroValue0
  t3:=Tryz.underlying3
  a3:=Tryz.isAgg3
  z3:=Tryz.sizeOf3
  v3:=Tryz.zeroValue3
  t4:=Tryz.underlying4
  a4:=Tryz.isAgg4
  z4:=Tryz.sizeOf4
  v4:=Tryz.zeroValue4
  t9:=Tryz.underlying9
  a9:=Tryz.isAgg9
  z9:=Tryz.sizeOf9
  v9:=Tryz.zeroValue9
  t20:=Tryz.underlying20
  a20:=Tryz.isAgg20
  z20:=Tryz.sizeOf20
  v20:=Tryz.zeroValue20
  t31:=Tryz.underlying23
  a31:=Tryz.isAgg23
  z31:=Tryz.sizeOf23
  v31:=Tryz.zeroValue23
  t37:=Tryz.underlying91
  a37:=Tryz.isAgg91
  z37:=Tryz.sizeOf91
  v37:=Tryz.zeroValue91
  t70:=Tryz.underlying108
  a70:=Tryz.isAgg108
  z70:=Tryz.sizeOf108
  v70:=Tryz.zeroValue108
  t72:=Tryz.underlying110
  a72:=Tryz.isAgg110
  z72:=Tryz.sizeOf110
  v72:=Tryz.zeroValue110
  t75:=Tryz.underlying112
  a75:=Tryz.isAgg112
  z75:=Tryz.sizeOf112
  v75:=Tryz.zeroValue112
  t76:=Tryz.underlying152
  a76:=Tryz.isAgg152
  z76:=Tryz.sizeOf152
  v76:=Tryz.zeroValue152
  t127:=Tryz.underlying133
  a127:=Tryz.isAgg133
  z127:=Tryz.sizeOf133
  v127:=Tryz.zeroValue133
  t164:=Tryz.underlying155
  a164:=Tryz.isAgg155
  z164:=Tryz.sizeOf155
  v164:=Tryz.zeroValue155 }
theorem Tryz.Builder_Extra_156:Builder.Extra Tryz.prog Tryz.lays156_ren:={
  sizeBuilder:=by kernel_rfl
  liesBuilder:=by kernel_rfl
  t5:=Tryz.underlying5
  a5:=Tryz.isAgg5
  z5:=Tryz.sizeOf5
  v5:=Tryz.zeroValue5
  infoByte:=by kernel_rfl
  cellsByte:=by kernel_rfl
  sizeByte:=by kernel_rfl
  neB5:=by decide }
open Go.RowKit in
theorem Tryz.strings_Join_none (a:Option Addr) (c:Nat) (sep:ByteArray) (w:World) :
    Calls Tryz.prog 90 #[.slice a 0 c,.string sep] w fun e w'=>e = .returned (.string ⟨#[]⟩)∧w'=w:=Any.strings_Join_none Tryz.lays156 Tryz.Builder_Extra_156 a c sep w
open Go.RowKit in
theorem Tryz.strings_Join (bk o c:Nat) (xs:List ByteArray) (sep:ByteArray) (w:World) (hcells:∀ (j:Nat) x,xs[j]? = some x→w.cell? ⟨bk,o+j,none⟩=some (.string x)) (hbk:bk<w.heap.size) (hN:xs.length≤140737488355328) (hcap:xs.length≤c) (hlen:(Lib.join (xs.map (·.data.toList)) sep.data.toList).length≤140737488355328) :
    Calls Tryz.prog 90 #[.slice (some ⟨bk,o,none⟩) xs.length c,.string sep] w fun e w'=>e = .returned (.string ⟨(Lib.join (xs.map (·.data.toList)) sep.data.toList).toArray⟩)∧Below w.heap.size w w':=Any.strings_Join Tryz.lays156 Tryz.Builder_Extra_156 bk o c xs sep w hcells hbk hN hcap hlen
def Tryz.laysM171_ren:Go.Shelf.Ren:=⟨fun | 171=>113 | 243=>128 | 246=>138 | 283=>147 | 284=>148 | 285=>149 | 286=>150 | 129=>158 | 317=>157 | 318=>159 | 319=>160 | 320=>161 | 337=>171 | 338=>172 | n=>n,fun | 3=>3 | 9=>9 | 2=>2 | 4=>4 | 171=>181 | 0=>0 | 53=>182 | 37=>91 | 5=>5 | 173=>185 | 212=>205 | 51=>137 | 20=>20 | 213=>206 | 46=>84 | 232=>221 | 233=>222 | n=>n,fun | 17=>13 | 18=>14 | 19=>15 | n=>n⟩
theorem Tryz.laysM171:Go.Proofs.LaysM.n171 Tryz.prog Tryz.laysM171_ren:={
  mixed:=by kernel_rfl
  f129:=Tryz.func158.trans (congrArg some (by kernel_rfl))
  f171:=Tryz.func113.trans (congrArg some (by kernel_rfl))
  f243:=Tryz.func128.trans (congrArg some (by kernel_rfl))
  f246:=Tryz.func138.trans (congrArg some (by kernel_rfl))
  f283:=Tryz.func147.trans (congrArg some (by kernel_rfl))
  f284:=Tryz.func148.trans (congrArg some (by kernel_rfl))
  f285:=Tryz.func149.trans (congrArg some (by kernel_rfl))
  f286:=Tryz.func150.trans (congrArg some (by kernel_rfl))
  f317:=Tryz.func157.trans (congrArg some (by kernel_rfl))
  f318:=Tryz.func159.trans (congrArg some (by kernel_rfl))
  f319:=Tryz.func160.trans (congrArg some (by kernel_rfl))
  f320:=Tryz.func161.trans (congrArg some (by kernel_rfl))
  f337:=Tryz.func171.trans (congrArg some (by kernel_rfl))
  f338:=Tryz.func172.trans (congrArg some (by kernel_rfl))
  t0:=Tryz.underlying0
  a0:=Tryz.isAgg0
  z0:=Tryz.sizeOf0
  v0:=Tryz.zeroValue0
  t2:=Tryz.underlying2
  a2:=Tryz.isAgg2
  z2:=Tryz.sizeOf2
  v2:=Tryz.zeroValue2
  t3:=Tryz.underlying3
  a3:=Tryz.isAgg3
  z3:=Tryz.sizeOf3
  v3:=Tryz.zeroValue3
  t4:=Tryz.underlying4
  a4:=Tryz.isAgg4
  z4:=Tryz.sizeOf4
  v4:=Tryz.zeroValue4
  t5:=Tryz.underlying5
  a5:=Tryz.isAgg5
  z5:=Tryz.sizeOf5
  v5:=Tryz.zeroValue5
  t9:=Tryz.underlying9
  a9:=Tryz.isAgg9
  z9:=Tryz.sizeOf9
  v9:=Tryz.zeroValue9
  t20:=Tryz.underlying20
  a20:=Tryz.isAgg20
  z20:=Tryz.sizeOf20
  v20:=Tryz.zeroValue20
  t37:=Tryz.underlying91
  a37:=Tryz.isAgg91
  z37:=Tryz.sizeOf91
  v37:=Tryz.zeroValue91
  t46:=Tryz.underlying84
  a46:=Tryz.isAgg84
  z46:=Tryz.sizeOf84
  v46:=Tryz.zeroValue84
  t51:=Tryz.underlying137
  a51:=Tryz.isAgg137
  z51:=Tryz.sizeOf137
  v51:=Tryz.zeroValue137
  t53:=Tryz.underlying182
  a53:=Tryz.isAgg182
  z53:=Tryz.sizeOf182
  v53:=Tryz.zeroValue182
  t171:=Tryz.underlying181
  a171:=Tryz.isAgg181
  z171:=Tryz.sizeOf181
  v171:=Tryz.zeroValue181
  t173:=Tryz.underlying185
  a173:=Tryz.isAgg185
  z173:=Tryz.sizeOf185
  v173:=Tryz.zeroValue185
  t212:=Tryz.underlying205
  a212:=Tryz.isAgg205
  z212:=Tryz.sizeOf205
  v212:=Tryz.zeroValue205
  t213:=Tryz.underlying206
  a213:=Tryz.isAgg206
  z213:=Tryz.sizeOf206
  t232:=Tryz.underlying221
  a232:=Tryz.isAgg221
  z232:=Tryz.sizeOf221
  v232:=Tryz.zeroValue221
  t233:=Tryz.underlying222
  a233:=Tryz.isAgg222
  z233:=Tryz.sizeOf222
  v233:=Tryz.zeroValue222
  g17:=by kernel_rfl
  g18:=by kernel_rfl
  g19:=by kernel_rfl
  i0:=by kernel_rfl
  i2:=by kernel_rfl
  i3:=by kernel_rfl
  i4:=by kernel_rfl
  i5:=by kernel_rfl
  i9:=by kernel_rfl
  i20:=by kernel_rfl
  i37:=by kernel_rfl
  i46:=by kernel_rfl
  i51:=by kernel_rfl
  i53:=by kernel_rfl
  i171:=by kernel_rfl
  i173:=by kernel_rfl
  i212:=by kernel_rfl
  i232:=by kernel_rfl
  i233:=by kernel_rfl
  m17:=by kernel_rfl
  m18:=by kernel_rfl
  m19:=by kernel_rfl }
open Go.RowKit Go.Sort Go.Lib in
theorem Tryz.strconv_Itoa (n:Int) (h0 : -9223372036854775808≤n) (h1:n≤9223372036854775807) (w:World) (htab:Lib.TabIs Tryz.prog w "internal/strconv.uint64pow10" .u64 Lib.pow10Tab) :
    Calls Tryz.prog 113 #[.int .i64 n] w fun e w'=>e = .returned (.string ⟨(Lib.itoa n).toArray⟩)∧∃ k os,w'=grow (w.drewN k) os:=Any.strconv_Itoa Tryz.laysM171 n h0 h1 w htab
end Go.Proofs
set_option linter.unusedVariables false
set_option linter.unusedSimpArgs false
set_option linter.unusedSectionVars false
set_option maxRecDepth 20000
namespace Go.Proofs.YtcdkpkkdolmfdaaGreatDoor
open Go.GAM Go.RowKit
def libX:CallR:=fun f args h K=>
  (f=Y88.id∧∃ n:Int,args=[.i .i64 n] ∧ -9223372036854775808≤n∧n≤9223372036854775807∧K (.s (Lib.itoa n)) h) ∨
  (f=Y92.id∧∃ (v:AV) (ls:List (List UInt8)) (sep:List UInt8),args=[v,.s sep]∧Rd 1 h v (ls.map .s) ls.length∧(Lib.join ls sep).length≤1000000000∧ls.length≤1000000000∧K (.s (Lib.join ls sep)) h)
theorem okIt:bodyOK prog Y88.id=true:=by kernel_rfl
theorem okJn:bodyOK prog Y92.id=true:=by kernel_rfl
theorem rd_strs {w w0:World} {Fz:Nat→Prop} {μ:Mu} {own:Nat→Option Nat} {h:AHeap} (R:Rel w0 Fz μ own h w) {v:AV} {cv:Value} {ls:List (List UInt8)} (hv:VRel μ v cv) (hr:Rd 1 h v (ls.map .s) ls.length) :
    ∃ a c,cv = .slice a ls.length c∧(ls≠[]→∃ B o,a=some ⟨B,o,none⟩∧B<w.heap.size∧ls.length≤c∧∀ (j:Nat) x,(ls.map fun l=>(⟨l.toArray⟩:ByteArray))[j]? = some x→w.cell? ⟨B,o+j,none⟩=some (.string x)):=by
  rcases hr with ⟨rfl,h1,h2⟩ | ⟨id,ver,off,cap,b,rfl,h2,h3,h4,h5,h6,h7⟩
  · have : ls = [] := by simpa using h1
    subst this
    cases hv
    exact ⟨none,0,rfl,fun h=>absurd rfl h⟩
  · cases hv with | sl _ _ _ c addr l hl hle hf hc hs ha =>
    refine ⟨some addr,c,rfl,fun hne=>?_⟩
    have hlp:=List.length_pos_iff.2 hne
    have hadr:=ha (by omega)
    have hrd:=R.read (a:=⟨id,ver,off⟩) (n:=ls.length) h2 ⟨h4,h5,by simpa using h6⟩ hl
    obtain ⟨cv0,e0,_⟩:=hrd 0 hlp
    refine ⟨l.B,l.base+off,by rw [hadr],World.block_lt_of_cell? w _ e0,hle,fun j x hj=>?_⟩
    have hjl:j<ls.length:=by have:=lt_of_some hj; simpa using this
    obtain ⟨cv,e1,e2⟩:=hrd j hjl
    have hcell:b.cells.getD (off+j) .u = .s ls[j]:=by
      have:(ls.map AV.s)[j]? = some (.s ls[j]):=by simp [hjl]
      rw [← h7,List.getElem?_take_of_lt (by omega),List.getElem?_drop] at this
      rw [List.getD_eq_getElem?_getD,this] <;> rfl
    simp only at e1 e2
    rw [hcell] at e2
    rw [Nat.add_assoc,e1]
    cases e2 with | s _ y hy=>
    have:x=y:=by
      simp [hjl] at hj
      subst hj
      obtain ⟨d⟩:=y
      simp only at hy
      congr 1
      apply Array.ext'
      rw [← hy]
    rw [this]
theorem libX_sound {W:World} (ht:Lib.TabIs prog W "internal/strconv.uint64pow10" .u64 Lib.pow10Tab):SoundAt prog W (fun B=>B<W.heap.size) (fun _ _=>none) libX:=by
  rintro f args h K (⟨rfl,n,rfl,h0,h1,hk⟩ | ⟨rfl,v,ls,sep,rfl,hr,hl,hn,hk⟩) μ own w cargs hsb R hc
  · rw [if_pos (by decide)]
    obtain ⟨rfl⟩:cargs=[.int .i64 n]:=by
      cases hc with | cons _ _ _ _ a b=>cases a; cases b; rfl
    have ht':Lib.TabIs prog w "internal/strconv.uint64pow10" .u64 Lib.pow10Tab:=by
      have hB:Below W.heap.size W w:=⟨R.os,R.tape,R.output,R.size0,fun k hk=>(R.fz k hk).2⟩
      exact Lib.tabBelow_of_tabIs ht w hB
    exact x_calls okIt R ((Tryz.strconv_Itoa n h0 h1 w ht').mono fun e w' ⟨he,k,os,hw⟩=>⟨he,hw ▸ Lib.below_grow _ w (Nat.le_refl _) k os⟩) (.s _ _ (by simp)) hk
  · rw [if_pos (by decide)]
    cases hc with | cons _ cv _ _ hv t=>
    cases t with | cons _ _ _ _ hs t=>
    cases t
    cases hs with | s _ sx hsx=>
    obtain ⟨a,c,rfl,hne⟩:=rd_strs R hv hr
    have e1:((ls.map fun l=>(⟨l.toArray⟩:ByteArray)).map (·.data.toList))=ls:=by
      rw [List.map_map]
      conv=>rhs; rw [← List.map_id ls]
      exact List.map_congr_left fun l _=>by simp
    by_cases h0:ls=[]
    · subst h0
      refine x_calls okJn R ((Tryz.strings_Join_none a c sx w).mono fun e w' ⟨he,hw⟩=>⟨he,hw ▸ Below.refl _ _⟩) (.s _ _ rfl) ?_
      simpa [Lib.join] using hk
    · obtain ⟨B, o, rfl, hB, hlc, hcells⟩ := hne h0
      have hj:=Tryz.strings_Join B o c (ls.map fun l=>(⟨l.toArray⟩:ByteArray)) sx w hcells hB (by simp; omega) (by simpa using hlc) (by rw [e1,hsx]; omega)
      rw [e1,hsx,List.length_map] at hj
      exact x_calls okJn R hj (.s _ _ (by simp)) hk
theorem tab_ok {W:World} {l:List (String × DataW Unit)} (hm:("internal/strconv.uint64pow10",Rows.laid_internal_strconv_uint64pow10)∈l) (hL:laidMet Tryz.prog l W):Lib.TabIs prog W "internal/strconv.uint64pow10" .u64 Lib.pow10Tab:=by
  obtain ⟨g,t,cs,fuel,p,hg,ht,hv,hd⟩:=laid_shape hm hL
  obtain rfl:=Option.some.inj ((show Tryz.prog.globalNamed "internal/strconv.uint64pow10" = some 13 by kernel_rfl).symm.trans hg)
  obtain rfl:=Option.some.inj ((show (Tryz.prog.globals[13]?).map (·.type)=some 205 by kernel_rfl).symm.trans ht)
  have e:(Rows.laid_internal_strconv_uint64pow10:DataW Unit)=Lib.tabData .u64 Lib.pow10Tab:=by rfl
  rw [e] at hd
  have:=Lib.cells_of_tab (n:=20) Tryz.underlying205 (show Tryz.prog.underlying 182=some (.int .u64) from Tryz.underlying182) (by kernel_rfl) (by kernel_rfl) hd
  show W.var? Tryz.prog _=_
  rw [hv, ← this]
noncomputable instance xr1:XR:=⟨orR (orR (tabX extT) (aFD prog (@C xr0))) libX⟩
theorem soundX {W:World} (ht:Lib.TabIs prog W "internal/strconv.uint64pow10" .u64 Lib.pow10Tab):SoundAt prog W (fun B=>B<W.heap.size) (fun _ _=>none) (@X xr1):=fun f args h K hk=>
  hk.elim (orR_sound base_sound (aFD_sound mixedOK sizeOK (acall_sound mixedOK sizeOK base_sound)) _ _ _ f args h K) (libX_sound ht f args h K)
theorem C_up {f:FuncId} {args:List AV} {h:AHeap} {K:AV→AHeap→Prop} (hk : @C xr0 f args h K):C f args h K:=acall_up (fun _ _ _ _ h=>.inl (.inl h)) hk
theorem row_c {f:FuncId} {Y:CallX} {args:List AV} {h:AHeap} {K:AV→AHeap→Prop} (hm:(f,Y)∈extT) (hk:Y args h K):C f args h K:=acall_x (.inl (.inl (tabX_c hm hk)))
theorem slow_c {f:FuncId} {args:List AV} {h:AHeap} {K:AV→AHeap→Prop} (hk:aFD prog (@C xr0) f args h K):C f args h K:=acall_x (.inl (.inr hk))
theorem itoa_c {n:Nat} {h:AHeap} {K:AV→AHeap→Prop} (hn:n<9223372036854775808) (hk:K (.s (Lib.decDigits n)) h):C Y88.id [.i .i64 (n:Int)] h K:=
  acall_x (.inr (.inl ⟨rfl,(n:Int),rfl,by omega,by omega,by rw [Lib.itoa_nonneg]; exact hk⟩))
theorem join_c {v:AV} {ls:List (List UInt8)} {sep:List UInt8} {h:AHeap} {K:AV→AHeap→Prop} (hr:Rd 1 h v (ls.map .s) ls.length) (hl:(Lib.join ls sep).length≤1000000000) (hn:ls.length≤1000000000) (hk:K (.s (Lib.join ls sep)) h):C Y92.id [v,.s sep] h K:=
  acall_x (.inr (.inr ⟨rfl,v,ls,sep,rfl,hr,hl,hn,hk⟩))
theorem ixb_c {l:List UInt8} {c:UInt8} {h:AHeap} {K:AV→AHeap→Prop} (hk:K (.i .i64 (Lib.indexByte l c)) h):C Y83.id [.s l,.i .u8 (c.toNat:Int)] h K:=row_c Y83.row ⟨l,c,rfl,hk⟩
theorem ctb_c {l:List UInt8} {c:UInt8} {h:AHeap} {K:AV→AHeap→Prop} (hk:K (.i .i64 (Lib.countByte l c:Nat)) h):C Y82.id [.s l,.i .u8 (c.toNat:Int)] h K:=row_c Y82.row ⟨l,c,rfl,hk⟩
section
variable {h:AHeap} {Q:AV→AHeap→Prop}
theorem ct_c {l:List UInt8} {c:UInt8} (hk:Q (.i .i64 (Lib.countByte l c:Nat)) h):C Y47.id [.s l,.s [c]] h Q:=by
  refine Y47.call ?_
  simp only [Y47.t,Y47.j0]
  refine bif_f rfl ?_
  refine bif_t rfl (st_at (i:=0) rfl (ctb_c (st_asI (.inl hk))))
def escS (sp:List UInt8) (s:List UInt8):List UInt8:=s.flatMap fun c=>if c∈sp then [92,c] else [c]
theorem escS_nil {sp:List UInt8}:escS sp []=[]:=rfl
theorem escS_app {sp a b:List UInt8}:escS sp (a++b)=escS sp a++escS sp b:=by simp [escS]
theorem escS_one {sp:List UInt8} {c:UInt8}:escS sp [c]=if c∈sp then [92,c] else [c]:=by simp [escS]
theorem escS_no {sp:List UInt8}:∀ {s:List UInt8},(s.any fun c=>decide (c∈sp))=false→escS sp s=s
  | [],_=>rfl
  | c :: r, h => by
    simp only [List.any_cons,Bool.or_eq_false_iff,decide_eq_false_iff_not] at h
    show (if c∈sp then [92,c] else [c])++escS sp r=_
    rw [if_neg h.1,escS_no h.2] <;> rfl
def sumC (l s:List UInt8):Nat:=(l.map fun d=>Lib.countByte s d).sum
theorem sumC_nil:∀ l:List UInt8,sumC l []=0
  | []=>rfl
  | d :: l => by
    have:sumC (d :: l) []=Lib.countByte [] d+sumC l []:=rfl
    rw [this,sumC_nil l] <;> rfl
theorem sumC_cons (c:UInt8) (r:List UInt8):∀ {l:List UInt8},l.Nodup→sumC l (c :: r)=sumC l r+if c∈l then 1 else 0
  | [],_=>rfl
  | d :: l, hn => by
    obtain ⟨h1,h2⟩:=List.nodup_cons.1 hn
    have ih:=sumC_cons c r h2
    have e1:sumC (d :: l) (c :: r)=Lib.countByte (c :: r) d+sumC l (c :: r):=rfl
    have e2:sumC (d :: l) r=Lib.countByte r d+sumC l r:=rfl
    have e3:Lib.countByte (c :: r) d=Lib.countByte r d+if c=d then 1 else 0:=by
      unfold Lib.countByte
      rw [List.count_cons]
      simp
    rw [e1,e2,e3,ih]
    by_cases e:c=d
    · subst e
      rw [if_pos rfl,if_neg h1,if_pos (List.mem_cons_self ..)]; omega
    · rw [if_neg e]
      have:(c∈d :: l)↔c∈l:=by simp [e]
      simp only [this]; omega
theorem escS_len {sp:List UInt8} (hn:sp.Nodup):∀ s:List UInt8,(escS sp s).length=s.length+sumC sp s
  | []=>by rw [sumC_nil] <;> rfl
  | c :: r => by
    rw [sumC_cons c r hn]
    show ((if c∈sp then [92,c] else [c])++escS sp r).length=_
    rw [List.length_append,escS_len hn r,List.length_cons]
    split <;> simp <;> omega
theorem sumC_any {s : List UInt8} : ∀ {l : List UInt8}, decide (sumC l s ≠ 0) = (s.any fun c => decide (c ∈ l))
  | []=>by simp [sumC]
  | d :: l => by
    have ih:=sumC_any (s:=s) (l:=l)
    rw [Bool.eq_iff_iff] at ih ⊢
    simp only [decide_eq_true_eq,List.any_eq_true,List.mem_cons] at ih ⊢
    have e:sumC (d :: l) s=Lib.countByte s d+sumC l s:=rfl
    have e2:Lib.countByte s d≠0↔d∈s:=by
      unfold Lib.countByte
      rw [Nat.ne_zero_iff_zero_lt,List.count_pos_iff]
    constructor
    · intro h
      by_cases h0:Lib.countByte s d=0
      · obtain ⟨c, h1, h2⟩ := ih.1 (by omega)
        exact ⟨c,h1,.inr h2⟩
      · exact ⟨d,e2.1 h0,.inl rfl⟩
    · rintro ⟨c, h1, rfl | h2⟩
      · have:=e2.2 h1; omega
      · have:=ih.2 ⟨c,h1,h2⟩; omega
theorem sumC_rev (l s:List UInt8):sumC l.reverse s=sumC l s:=by
  unfold sumC; rw [List.map_reverse,List.sum_reverse]
theorem sumC_le {l:List UInt8} (hn:l.Nodup):∀ s:List UInt8,sumC l s≤s.length
  | []=>by rw [sumC_nil]; exact Nat.le_refl _
  | c :: r => by
    rw [sumC_cons c r hn]
    have:=sumC_le hn r
    rw [List.length_cons]
    split <;> omega
theorem Tx.cutCopy {h0:AHeap} {v:AV} {l:List UInt8} {j:Nat} {x y:UInt8} (A:Tx h0 h v l) (hj:j+2≤l.length):∃ z,(∀ K:AV→Prop,K z→pSliceSl 1 v (some (.i .i64 (j:Int))) none none h K) ∧
    ∀ (w:AV) (K:AV→AHeap→Prop),Byt h w [x,y]→(∀ h',Tx h0 h' v ((l.set j x).set (j+1) y)→K (.i .i64 2) h')→pCopy 1 z w h K:=by
  rcases A.arr with ⟨rfl,_,h0⟩ | ⟨id,b,rfl,hb,hbc,h4,h5,h6,h7,h8⟩
  · omega
  have hbl:b.cells.length=l.length:=by rw [hbc]; simp
  have hidl:=lt_of_some hb
  refine ⟨.sl (some ⟨id,(l.map byteAV).length,0+j * 1⟩) (l.length - j) none,fun K hk=>?_,fun w K B hk=>?_⟩
  · refine ⟨by decide, by simp, ?_⟩
    refine ⟨by omega, ?_⟩
    simp only [Int.toNat_natCast]
    refine ⟨by omega,b,hb,by rw [hbc]; exact h6,h6,.inl h5,.inl (Nat.le_refl _), ?_⟩
    exact hk
  · refine ⟨by decide, Rd.news B ?_⟩
    have hm:min [x,y].length (l.length - j)=2:=by simp; omega
    refine ⟨b,hb,h5,⟨h6,by show (l.map byteAV).length≤_; rw [hbc]; exact Nat.le_refl _,by show 0+j * 1+(l.length - j) * 1≤(l.map byteAV).length; rw [List.length_map]; omega⟩,h7,by show (l.map byteAV).length=_; rw [hbc],by rw [hm] <;> rfl, ?_⟩
    rw [hm]
    have ew:wr b.cells (0+j * 1) (([x,y].map byteAV).take (2 * 1))=((l.set j x).set (j+1) y).map byteAV:=by
      rw [hbc]
      show ((l.map byteAV).set (0+j * 1) (byteAV x)).set (0+j * 1+1) (byteAV y)=_
      rw [Nat.zero_add,Nat.mul_one, ← List.map_set, ← List.map_set]
    refine hk _ ⟨A.upd.trans (Upd.set _ _ _) fun i hi e=>?_,.inr ⟨id,{ b with cells:=wr b.cells (0+j * 1) (([x,y].map byteAV).take (2 * 1)),floor:=b.cells.length }, ?_,List.getElem?_set_self hidl,ew, ?_,h5, ?_,h7,h8⟩,A.new⟩
    · have h9 := A.new id rfl
      have e:i=id:=e
      omega
    · simp
    · simp
    · show b.cells.length ≤ _
      rw [hbl]; simp
variable {sp s:List UInt8} {idR lo:Nat}
theorem RepAt.look {c:UInt8} {k:Int} (R:RepAt lo h idR sp) (hk':k=(c.toNat:Int)) {K:AV→Prop} (hno:c ∉ sp→K (.sl none 0 none)) (hyes:∀ a,c∈sp→Byt h (.sl (some a) 2 none) [92,c]→K (.sl (some a) 2 none)) :
    pNil (.p (some ⟨idR,257,0⟩)) fun v=>pFieldAddr 0 v fun v=>pIdxAddrArr 256 1 v (.i .u8 k) fun v=>pLoad1 v h K:=by
  subst hk'
  obtain ⟨cs,tr,h1,h2,h3,h4,h5,h6,h7⟩:=R.cells
  have hc:=c.toNat_lt
  refine st_nil (st_fld ⟨by omega,by omega, ?_⟩)
  simp only [Int.toNat_natCast,Nat.zero_add,Nat.mul_one]
  by_cases hcs:c∈sp
  · obtain ⟨a, g1, g2, _⟩ := h7 c hcs
    exact st_load h1 h2.symm g1 (hyes a hcs g2)
  · exact st_load h1 h2.symm (h6 c hcs) (hno hcs)
theorem neNil {K:AV→Prop} {t:TypeId} (ht:isSl prog t=true) (hk:K (.b false)):pBin prog .neq t (.sl none 0 none) (.sl none 0 none) K:=by
  simp only [pBin,ht,cond_true]; exact hk
theorem neSome {K:AV→Prop} {t:TypeId} {a:AA} {n:Nat} {c:Option Nat} (ht:isSl prog t=true) (hk:K (.b true)):pBin prog .neq t (.sl (some a) n c) (.sl none 0 none) K:=by
  simp only [pBin,ht,cond_true]; exact hk
theorem rep_p5 {h0 : AHeap} (R0 : RepAt lo h0 idR sp) (hs : s.length ≤ 100000000) (hn : sp.Nodup) (hq : Q (.s (escS sp s)) h) (U0 : Upd (fun _ => False) h h0) :
    ∀ (k i:Nat) (v:AV) (hx:AHeap),s.length=i+k→Tx h0 hx v (escS sp (s.take i)++List.replicate ((escS sp s).length - (escS sp (s.take i)).length) 0) →
    Y1.p5 (kRet h Q) (.p (some ⟨idR,257,0⟩)) s v ((escS sp (s.take i)).length:Int) (i:Int) hx:=by
  have hel:∀ t:List UInt8,t.length≤100000000→(escS sp t).length≤200000000:=fun t ht=>by
    have:=escS_len hn t
    have:=sumC_le hn t
    omega
  intro k
  induction k with
  | zero =>
    intro i v hx hi T
    refine Y1.i5 ?_
    simp only [Y1.t5]
    refine bif_f (decide_eq_false (by omega)) ?_
    rw [List.take_of_length_le (by omega)] at T
    simp only [Nat.sub_self,List.replicate_zero,List.append_nil] at T
    refine Tx.str T ?_
    exact kRet_pure rfl (U0.trans T.upd fun _ _ h=>h).ext hq
  | succ k ih =>
    intro i v hx hi T
    obtain ⟨c,hc⟩:∃ c,s[i]? = some c:=⟨s[i],List.getElem?_eq_getElem (by omega)⟩
    have htk:=take_snoc hc
    have hle:(escS sp (s.take (i+1))).length≤(escS sp s).length:=by
      conv=>rhs; rw [← List.take_append_drop (i+1) s,escS_app,List.length_append]
      omega
    have hbig:=hel s hs
    have he1:escS sp (s.take (i+1))=escS sp (s.take i)++(if c∈sp then [92,c] else [c]):=by rw [htk,escS_app,escS_one]
    refine Y1.i5 ?_
    simp only [Y1.t5,Y1.j6]
    refine bif_t (decide_eq_true (by omega)) ?_
    refine st_at (drop_of_at hc) ?_
    have Rx:RepAt lo hx idR sp:=R0.upd T.upd fun _ _ h=>h
    have nxt:∀ (v:AV) (hy:AHeap),Tx h0 hy v (escS sp (s.take (i+1))++List.replicate ((escS sp s).length - (escS sp (s.take (i+1))).length) 0) →
        Y1.p6 (kRet h Q) (.p (some ⟨idR,257,0⟩)) s v ((escS sp (s.take (i+1))).length:Int) (i:Int) hy:=by
      intro v hy Ty
      refine Y1.i6 ?_
      simp only [Y1.t6,Y1.j5]
      exact inc (by omega) (ih (i+1) v hy (by omega) Ty)
    refine Rx.look rfl (fun hcs=>?_) fun a hcs B=>?_
    · rw [if_neg hcs] at he1
      refine neNil (by kernel_rfl) (st_asB (bif_f rfl ?_))
      have hl1:(escS sp (s.take (i+1))).length=(escS sp (s.take i)).length+1:=by rw [he1]; simp
      refine Tx.store T (by simp; omega) fun hy Ty=>?_
      refine inc (by omega) ?_
      rw [← hl1]
      refine nxt v hy ?_
      have e:(escS sp (s.take i)++List.replicate ((escS sp s).length - (escS sp (s.take i)).length) 0).set (escS sp (s.take i)).length c=escS sp (s.take (i+1))++List.replicate ((escS sp s).length - (escS sp (s.take (i+1))).length) 0:=by
        obtain ⟨m,hm⟩:∃ m,(escS sp s).length - (escS sp (s.take i)).length=m+1:=⟨(escS sp s).length - (escS sp (s.take i)).length - 1,by omega⟩
        have hm2:(escS sp s).length - (escS sp (s.take (i+1))).length=m:=by omega
        rw [hm,hm2,he1,List.replicate_succ,List.set_append_right _ _ (Nat.le_refl _),Nat.sub_self]
        simp
      rw [e] at Ty
      exact Ty
    · rw [if_pos hcs] at he1
      refine neSome (by kernel_rfl) (st_asB (bif_t rfl ?_))
      have hl1:(escS sp (s.take (i+1))).length=(escS sp (s.take i)).length+2:=by rw [he1]; simp
      obtain ⟨z,hz1,hz2⟩:=Tx.cutCopy (x:=92) (y:=c) (j:=(escS sp (s.take i)).length) T (by simp; omega)
      refine hz1 _ ?_
      refine Rx.look rfl (fun hcs'=>absurd hcs hcs') fun a' _ B'=>?_
      refine hz2 _ _ B' fun hy Ty=>st_asI ?_
      refine inc2 (by omega) ?_
      rw [← hl1]
      refine nxt v hy ?_
      have e:((escS sp (s.take i)++List.replicate ((escS sp s).length - (escS sp (s.take i)).length) 0).set (escS sp (s.take i)).length 92).set ((escS sp (s.take i)).length+1) c=escS sp (s.take (i+1))++List.replicate ((escS sp s).length - (escS sp (s.take (i+1))).length) 0:=by
        obtain ⟨m,hm⟩:∃ m,(escS sp s).length - (escS sp (s.take i)).length=m+2:=⟨(escS sp s).length - (escS sp (s.take i)).length - 2,by omega⟩
        have hm2:(escS sp s).length - (escS sp (s.take (i+1))).length=m:=by omega
        rw [hm,hm2,he1,List.replicate_succ,List.replicate_succ,List.set_append_right _ _ (Nat.le_refl _),Nat.sub_self,List.set_append_right _ _ (by omega)]
        simp
      rw [e] at Ty
      exact Ty
theorem rep_p4 (R0:RepAt lo h idR sp) (hs:s.length≤100000000) (hn:sp.Nodup) (hq:Q (.s (escS sp s)) h) {x5:Int} {x6:Bool} (h5:x5=((escS sp s).length:Nat)) (h6:x6=(s.any fun c=>decide (c∈sp))) :
    Y1.p4 (kRet h Q) (.p (some ⟨idR,257,0⟩)) s x5 x6 h:=by
  have hel:(escS sp s).length≤200000000:=by
    have:=escS_len hn s
    have:=sumC_le hn s
    omega
  refine Y1.i4 ?_
  simp only [Y1.t4,Y1.j5]
  subst h5; subst h6
  cases ha:s.any fun c=>decide (c∈sp) with
  | false =>
    refine bif_t rfl (.inl ?_)
    rw [escS_no ha] at hq; exact hq
  | true =>
    refine bif_f rfl ?_
    refine st_make (by omega) (by omega) fun v h1 A=>?_
    have e:(List.replicate (escS sp s).length (AV.i .u8 0))=(List.replicate (escS sp s).length (0:UInt8)).map byteAV:=by simp [byteAV]
    have T:Tx h h1 v (escS sp (s.take 0)++List.replicate ((escS sp s).length - (escS sp (s.take 0)).length) 0):=by
      rw [List.take_zero,escS_nil]
      simp only [List.length_nil,Nat.sub_zero,List.nil_append]
      rw [e] at A
      unfold Tx
      rw [List.length_replicate]; exact A
    have:=rep_p5 (h0:=h) R0 hs hn hq (Upd.refl _ _) s.length 0 v h1 (by omega) T
    simpa [escS_nil] using this
theorem rep_p2 (R0 : RepAt lo h idR sp) (hs : s.length ≤ 100000000) (hn : sp.Nodup) (hq : Q (.s (escS sp s)) h) :
    ∀ (k i:Nat) (x5:Int),s.length=i+k→x5=(s.length:Int)+((escS sp (s.take i)).length:Nat) - i →
    Y1.p2 (kRet h Q) (.p (some ⟨idR,257,0⟩)) s x5 ((s.take i).any fun c=>decide (c∈sp)) (i:Int) h:=by
  intro k
  induction k with
  | zero =>
    intro i x5 hi hx
    refine Y1.i2 ?_
    simp only [Y1.t2,Y1.j4]
    refine bif_f (decide_eq_false (by omega)) ?_
    have e:s.take i=s:=List.take_of_length_le (by omega)
    refine rep_p4 R0 hs hn hq ?_ (by rw [e])
    rw [hx,e]; omega
  | succ k ih =>
    intro i x5 hi hx
    obtain ⟨c,hc⟩:∃ c,s[i]? = some c:=⟨s[i],List.getElem?_eq_getElem (by omega)⟩
    have htk:=take_snoc hc
    have hel:(escS sp (s.take i)).length≤200000000:=by
      have:=escS_len hn (s.take i)
      have:=sumC_le hn (s.take i)
      have:(s.take i).length≤s.length:=by simp; omega
      omega
    have he1:escS sp (s.take (i+1))=escS sp (s.take i)++(if c∈sp then [92,c] else [c]):=by rw [htk,escS_app,escS_one]
    refine Y1.i2 ?_
    simp only [Y1.t2,Y1.j3]
    refine bif_t (decide_eq_true (by omega)) ?_
    refine st_at (drop_of_at hc) ?_
    have hany:((s.take (i+1)).any fun c=>decide (c∈sp))=(((s.take i).any fun c=>decide (c∈sp))||decide (c∈sp)):=by rw [htk]; simp
    have nxt:∀ (x5:Int) (x6:Bool),x5=(s.length:Int)+((escS sp (s.take (i+1))).length:Nat) - (i+1:Nat)→x6=((s.take (i+1)).any fun c=>decide (c∈sp)) →
        Y1.p3 (kRet h Q) (.p (some ⟨idR,257,0⟩)) s x5 x6 (i:Int) h:=by
      intro x5 x6 h1 h2
      refine Y1.i3 ?_
      simp only [Y1.t3,Y1.j2]
      subst h2
      exact inc (by omega) (ih (i+1) x5 (by omega) h1)
    refine R0.look rfl (fun hcs=>?_) fun a hcs B=>?_
    · rw [if_neg hcs] at he1
      refine neNil (by kernel_rfl) (st_asB (bif_f rfl (nxt _ _ ?_ ?_)))
      · rw [hx,he1]; simp; omega
      · rw [hany,decide_eq_false hcs,Bool.or_false]
    · rw [if_pos hcs] at he1
      refine neSome (by kernel_rfl) (st_asB (bif_t rfl ?_))
      refine R0.look rfl (fun hcs'=>absurd hcs hcs') fun a' _ B'=>?_
      refine st_len (withI_is (show IntKind.wrap .i64 (((2:Nat):Int) - 1)=1 by decide) ?_)
      refine withI_is (show IntKind.wrap .i64 (x5+1)=x5+1 by rw [wrap_i64] <;> omega) (nxt _ _ ?_ ?_)
      · rw [hx,he1]; simp; omega
      · rw [hany,decide_eq_true hcs,Bool.or_true]
theorem rep_p0 (R0 : RepAt lo h idR sp) (hs : s.length ≤ 100000000) (hn : sp.Nodup) (hl : sp.length ≤ 100) (hq : Q (.s (escS sp s)) h) {tr : AV} (hT : Rd 1 h tr (sp.reverse.map fun c => .s [c]) sp.length) :
    ∀ (k i:Nat) (x5:Int),sp.length=i+k→x5=(s.length:Int)+(sumC (sp.reverse.take i) s:Nat) →
    Y1.p0 (kRet h Q) (.p (some ⟨idR,257,0⟩)) s x5 (decide (sumC (sp.reverse.take i) s≠0)) tr (sp.length:Int) (i:Int) h:=by
  intro k
  induction k with
  | zero =>
    intro i x5 hi hx
    refine Y1.i0 ?_
    simp only [Y1.t0,Y1.j4]
    refine bif_f (decide_eq_false (by omega)) ?_
    have e:sp.reverse.take i=sp.reverse:=List.take_of_length_le (by simp; omega)
    refine rep_p4 R0 hs hn hq ?_ ?_
    · rw [hx,e,sumC_rev,escS_len hn]; omega
    · rw [e,sumC_rev,sumC_any]
  | succ k ih =>
    intro i x5 hi hx
    obtain ⟨c,hc⟩:∃ c,sp.reverse[i]? = some c:=⟨sp.reverse[i]'(by simp; omega),List.getElem?_eq_getElem _⟩
    have htk:=take_snoc hc
    have hcm:c∈sp:=by have:=List.mem_of_getElem? hc; simpa using this
    have hsum:sumC (sp.reverse.take (i+1)) s=sumC (sp.reverse.take i) s+Lib.countByte s c:=by
      rw [htk]; unfold sumC; simp
    have hb1:sumC (sp.reverse.take (i+1)) s≤s.length:=sumC_le ((List.take_sublist _ _).nodup (by unfold List.Nodup at *; rw [List.pairwise_reverse]; exact hn.imp fun h e=>h e.symm)) s
    refine Y1.i0 ?_
    simp only [Y1.t0,Y1.j1]
    refine bif_t (decide_eq_true (by omega)) ?_
    refine hT.cell (by decide) (by omega) (c:=.s [c]) (by rw [Nat.mul_one,List.getElem?_map,hc] <;> rfl) (st_asS ?_)
    refine ct_c (st_asI ?_)
    have nxt:∀ (x5:Int) (x6:Bool),x5=(s.length:Int)+(sumC (sp.reverse.take (i+1)) s:Nat)→x6=decide (sumC (sp.reverse.take (i+1)) s≠0) →
        Y1.p1 (kRet h Q) (.p (some ⟨idR,257,0⟩)) s x5 x6 tr (sp.length:Int) (i:Int) h:=by
      intro x5 x6 h1 h2
      refine Y1.i1 ?_
      simp only [Y1.t1,Y1.j0]
      subst h2
      exact inc (by omega) (ih (i+1) x5 (by omega) h1)
    refine bif_both (fun e=>?_) fun e=>?_
    · have e : Lib.countByte s c ≠ 0 := by simpa using e
      refine st_at (i:=0) (c:=c) (r:=[]) rfl ?_
      refine R0.look rfl (fun hcs=>absurd hcm hcs) fun a _ B=>?_
      refine st_len (withI_is (show IntKind.wrap .i64 (((2:Nat):Int) - 1)=1 by decide) ?_)
      refine withI_is (show IntKind.wrap .i64 ((Lib.countByte s c:Int) * 1)=Lib.countByte s c by rw [Int.mul_one,wrap_i64] <;> omega) ?_
      refine withI_is (show IntKind.wrap .i64 (x5+(Lib.countByte s c:Int))=x5+Lib.countByte s c by rw [wrap_i64] <;> omega) (nxt _ _ ?_ ?_)
      · omega
      · rw [eq_comm,decide_eq_true]; omega
    · have e : Lib.countByte s c = 0 := by simpa using e
      refine nxt _ _ ?_ ?_
      · omega
      · rw [hsum,e,Nat.add_zero]
theorem bytesRep_c (R0:RepAt lo h idR sp) (hs:s.length≤100000000) (hn:sp.Nodup) (hl:sp.length≤100) (hq:Q (.s (escS sp s)) h):C Y1.id [.p (some ⟨idR,257,0⟩),.s s] h Q:=by
  refine Y1.call ?_
  simp only [Y1.t,Y1.j0,Y1.j2]
  obtain ⟨cs,tr,h1,h2,h3,h4,_⟩:=R0.cells
  refine st_nil (st_fld (st_load h1 h2.symm h3 (h4.len ?_)))
  refine withI_is (show IntKind.wrap .i64 ((sp.length:Int) * 8)=(sp.length:Int) * 8 by rw [wrap_i64] <;> omega) ?_
  refine bif_both (fun e=>?_) fun e=>?_
  · refine st_nil (st_fld (st_load h1 h2.symm h3 (h4.len ?_)))
    have:=rep_p0 R0 hs hn hl hq h4 sp.length 0 (s.length:Int) (by omega) (by simp [sumC])
    simpa [sumC] using this
  · have := rep_p2 R0 hs hn hq s.length 0 (s.length : Int) (by omega) (by simp [escS])
    simpa using this
theorem newRep_c {v:AV} (hl:sp.length≤100) (hv:Rd 1 h v ((pairsS sp).map .s) (2 * sp.length)) (hp:0<sp.length) (hq:∀ id h',Upd (fun _=>False) h h'→h.length≤id→NewRep h' id sp→Q (.p (some ⟨id,5,0⟩)) h'):C Y68.id [v] h Q:=by
  refine Y68.call ?_
  simp only [Y68.t]
  refine hv.len (st_rem (n:=0) (by decide) (by rw [show ((2 * sp.length:Nat):Int)=(sp.length:Int) * 2 by omega]; exact Int.mul_tmod_left _ _) (bif_f rfl ?_))
  have hok:((pairsS sp).map AV.s).all AV.cellOK=true:=by
    rw [List.all_eq_true]; intro x hx
    obtain ⟨c,_,rfl⟩:=List.mem_map.1 hx
    rfl
  refine (Arr.nil 1 h).append (by decide) (ns:=(pairsS sp).map .s) (k:=2 * sp.length) (fun K hK=>hv.news hK) (by simp [pairsS_len]) hok (by omega) (by omega) fun v' h1 U1 A1 F1=>?_
  have U1':Upd (fun _=>False) h h1:=U1.mono fun _ _ h=>h
  have A1:Arr 1 h1 v' ((pairsS sp).map .s) (2 * sp.length):=by simpa using A1
  have hv':v'.parts=[v']∧v'.sizeOK=true∧v'.cellOK=true:=by
    rcases A1 with ⟨_,h0,_⟩ | ⟨id,b,rfl,_⟩
    · omega
    · exact ⟨rfl,rfl,rfl⟩
  refine st_pbA (cs:=[.i .u32 0,.i .i32 0,.i .u32 0,.ni,v']) ?_ ?_
  · rcases A1 with ⟨_, h0, _⟩ | ⟨id, b, rfl, _⟩
    · omega
    · rfl
  refine st_box rfl fun h2 hl2 U2 R2=>?_
  refine .inl (hq h1.length h2 (U1'.trans U2 fun _ _ h=>h) U1'.1 ⟨v',R2,(A1.rd).upd U2 fun _ _ h=>h,fun hi=>?_⟩)
  have:=A1.rd.lt hi
  omega
theorem replace_c {id:Nat} (hs:s.length≤100000000) (hn:sp.Nodup) (hl:sp.length≤100) (hp:2≤sp.length) (N:NewRep h id sp) (hq:∀ h',Upd (· = id) h h'→UsedRep h' id sp→Q (.s (escS sp s)) h'):C Y60.id [.p (some ⟨id,5,0⟩),.s s] h Q:=by
  refine Y60.call ?_
  simp only [Y60.t]
  refine st_nil (st_fld ?_)
  refine Y77.call ?_
  simp only [Y77.t]
  obtain ⟨v,R,hv,hvn⟩:=N.is
  refine st_nil (st_fld ?_)
  refine C_up (bload_c R rfl rfl (st_asB (bif_t rfl ?_)))
  refine slow_c (doSlow_x hn hl hp N fun h1 U1 G1=>?_)
  refine .inl ?_
  have G2:=G1
  obtain ⟨idR,R1,P1⟩:=G2
  refine st_nil (st_fld (st_load R1 rfl rfl ?_))
  refine inv_c (f:=Y1.id) (by kernel_rfl) (by decide) ?_
  exact bytesRep_c P1 hs hn hl (st_asS (.inl (hq h1 U1 G1)))
end
end Go.Proofs.YtcdkpkkdolmfdaaGreatDoor
namespace Go.Proofs.YtcdkpkkdolmfdaaGreatDoor
open Go.GAM Go.RowKit
section
variable {h:AHeap} {Q:AV→AHeap→Prop}
theorem sindexByte_c {l:List UInt8} {c:UInt8} (hk:Q (.i .i64 (Lib.indexByte l c)) h):C Y57.id [.s l,.i .u8 (c.toNat:Int)] h Q:=by
  refine Y57.call ?_
  simp only [Y57.t]
  exact ixb_c (st_asI (.inl hk))
theorem sindex_c {l:List UInt8} {c:UInt8} (hk:Q (.i .i64 (Lib.indexByte l c)) h):C Y38.id [.s l,.s [c]] h Q:=by
  refine Y38.call ?_
  simp only [Y38.t,Y38.j0]
  refine bif_f rfl ?_
  refine Y38.i0 ?_
  simp only [Y38.t0]
  refine bif_both (fun e=>?_) fun e=>?_
  · have e := of_decide_eq_true e
    subst e
    have:Lib.indexByte [c] c=0:=by simp [Lib.indexByte]
    rw [this] at hk
    exact .inl hk
  · exact bif_t rfl (st_at (i:=0) rfl (sindexByte_c (st_asI (.inl hk))))
theorem ix_c {l:List UInt8} {c:UInt8} (hk:Q (.i .i64 (Lib.indexByte l c)) h):C Y62.id [.s l,.s [c]] h Q:=by
  refine Y62.call ?_
  simp only [Y62.t]
  exact sindex_c (st_asI (.inl hk))
def cutS (l:List UInt8) (c:UInt8):List UInt8 × List UInt8 × Bool:=if 0≤Lib.indexByte l c then (l.take (Lib.indexByte l c).toNat,l.drop ((Lib.indexByte l c).toNat+1),true) else (l,[],false)
theorem index_lt:∀ (l:List UInt8) (c:UInt8), -1≤Lib.indexByte l c∧Lib.indexByte l c<l.length
  | [],c=>by simp [Lib.indexByte]
  | b :: l, c => by
    have:=index_lt l c
    unfold Lib.indexByte
    split
    · simp
    · split
      · simp; omega
      · simp; omega
theorem cut_c {l:List UInt8} {c:UInt8} (hl:l.length≤9223372036854775807) (hk:Q (.tu [.s (cutS l c).1,.s (cutS l c).2.1,.b (cutS l c).2.2]) h):C Y64.id [.s l,.s [c]] h Q:=by
  have hb:=index_lt l c
  refine Y64.call ?_
  simp only [Y64.t]
  refine Y74.call ?_
  simp only [Y74.t]
  refine sindex_c (st_asI ?_)
  unfold cutS at hk
  by_cases h0:0≤Lib.indexByte l c
  · rw [if_pos h0] at hk
    obtain ⟨n,hn⟩:∃ n:Nat,Lib.indexByte l c=n:=⟨(Lib.indexByte l c).toNat,by omega⟩
    rw [hn] at hk hb ⊢
    simp only [Int.toNat_natCast] at hk
    refine bif_t (by simp) (st_subs1 (by omega) (withI_is (n:=((n+1:Nat):Int)) (by rw [wrap_i64 (by simp only [List.length_singleton]; omega) (by simp only [List.length_singleton]; omega)] <;> rfl) (st_subs (by omega) ?_)))
    exact .inl (st_ext0 (st_asS (st_ext1 (st_asS (st_ext2 (st_asB (.inl hk)))))))
  · rw [if_neg h0] at hk
    exact bif_f (by simp; omega) (.inl (st_ext0 (st_asS (st_ext1 (st_asS (st_ext2 (st_asB (.inl hk))))))))
def hasPre (l p:List UInt8):Bool:=decide (l.take p.length=p)
theorem hasPrefix_c {l p:List UInt8} (hk:Q (.b (hasPre l p)) h):C Y35.id [.s l,.s p] h Q:=by
  refine Y35.call ?_
  simp only [Y35.t,Y35.j0]
  unfold hasPre at hk
  by_cases hl:p.length≤l.length
  · refine bif_t (by simp; omega) (st_subs1 hl ?_)
    refine Y35.i0 ?_
    simp only [Y35.t0]
    exact .inl hk
  · refine bif_f (by simp; omega) ?_
    refine Y35.i0 ?_
    simp only [Y35.t0]
    rw [decide_eq_false (fun e=>hl (by rw [← e]; simp; omega))] at hk
    exact .inl hk
theorem cutPrefix_c {l p:List UInt8} (hl:l.length≤9223372036854775807) (hk:Q (.tu [.s (if hasPre l p=true then l.drop p.length else l),.b (hasPre l p)]) h):C Y61.id [.s l,.s p] h Q:=by
  refine Y61.call ?_
  simp only [Y61.t]
  refine Y76.call ?_
  simp only [Y76.t]
  refine hasPrefix_c (st_asB ?_)
  cases hp:hasPre l p with
  | false =>
    rw [hp,if_neg (by simp)] at hk
    exact bif_t rfl (.inl (st_ext0 (st_asS (st_ext1 (st_asB (.inl hk))))))
  | true =>
    rw [hp,if_pos rfl] at hk
    have:p.length≤l.length:=by
      have:=of_decide_eq_true hp
      rw [← this]; simp; omega
    exact bif_f rfl (st_subs this (.inl (st_ext0 (st_asS (st_ext1 (st_asB (.inl hk)))))))
end
def lowC (c:UInt8):UInt8:=if 65≤c.toNat∧c.toNat≤90 then c+32 else c
def lowS (l:List UInt8):List UInt8:=l.map lowC
theorem lowC_up {c:UInt8} (h:65≤c.toNat∧c.toNat≤90):((lowC c).toNat:Int)=(c.toNat:Int)+32:=by
  unfold lowC; rw [if_pos h,UInt8.toNat_add]
  show (((c.toNat+32) % 256:Nat):Int)=_
  omega
theorem lowC_no {c:UInt8} (h:¬ (65≤c.toNat∧c.toNat≤90)):lowC c=c:=by unfold lowC; rw [if_neg h]
section
variable {s:List UInt8} {h0:AHeap} {Q:AV→AHeap→Prop}
theorem small_p2 {v:AV} {i:Nat} {h:AHeap} (hi:i<9223372036854775807) (hk:Y17.p0 (kRet h0 Q) v v s.length (i+1:Nat) h):Y17.p2 (kRet h0 Q) v v s.length i h:=by
  refine Y17.i2 ?_
  simp only [Y17.t2,Y17.j0]
  exact inc (by omega) hk
theorem small_p0 (hs : s.length ≤ 9223372036854775807) : ∀ (r : List UInt8) (i : Nat) (v : AV) (h : AHeap), s.drop i = r → Tx h0 h v (lowS (s.take i) ++ r) → Q (.s (lowS s)) h0 → Y17.p0 (kRet h0 Q) v v s.length i h := by
  intro r
  induction r with
  | nil =>
    intro i v h hr T hq
    have hl:=drop_end hr
    refine Y17.i0 ?_
    simp only [Y17.t0,Y17.j1]
    rw [List.append_nil,List.take_of_length_le hl] at T
    exact bif_f (by simp; omega) (T.ret hq)
  | cons c r ih =>
    intro i v h hr T hq
    have hlt:=drop_lt hr
    have hn:=drop_next hr
    have hc:=c.toNat_lt
    have hti:(lowS (s.take i)).length=i:=by simp [lowS]; omega
    have hat:(lowS (s.take i)++c :: r)[i]? = some c:=by rw [List.getElem?_append_right (by omega),hti]; simp
    have hci:=at_of_drop hr
    have htk:lowS (s.take (i+1))=lowS (s.take i)++[lowC c]:=by
      rw [List.take_add_one,hci]; simp [lowS]
    have key:∀ b,b=decide (65≤c.toNat∧c.toNat≤90)→Y17.p1 (kRet h0 Q) v i (c.toNat:Int) v s.length i b h:=by
      intro b hb
      refine Y17.i1 ?_
      simp only [Y17.t1,Y17.j2]
      refine bif_both (fun e=>?_) fun e=>?_
      · subst e
        have hu:65≤c.toNat∧c.toNat≤90:=by simpa using hb.symm
        refine withI_is (wrap_u8 (by omega) (by omega)) ?_
        refine withI_is (n:=((lowC c).toNat:Int)) (by rw [lowC_up hu,wrap_u8 (by omega) (by omega)]; omega) ?_
        refine T.store (by rw [List.length_append]; simp [hti]) fun h' T'=>small_p2 (by omega) (ih (i+1) v h' hn ?_ hq)
        rw [htk,List.append_assoc]
        rw [List.set_append_right _ _ (by omega),hti,Nat.sub_self] at T'
        exact T'
      · subst e
        have hu:¬ (65≤c.toNat∧c.toNat≤90):=by simpa using hb.symm
        refine small_p2 (by omega) (ih (i+1) v h hn ?_ hq)
        rw [htk,lowC_no hu,List.append_assoc]; exact T
    refine Y17.i0 ?_
    simp only [Y17.t0,Y17.j1]
    refine bif_t (by simp; omega) (T.load hat (st_asI ?_))
    refine bif_both (fun e=>key _ ?_) fun e=>key _ ?_
    · simp only [decide_eq_true_eq] at e
      rw [decide_eq_decide]; omega
    · simp only [decide_eq_false_iff_not] at e
      symm; simp; omega
theorem small_c {h:AHeap} (hs:s.length≤9223372036854775807) (hk:Q (.s (lowS s)) h):C Y17.id [.s s] h Q:=by
  refine Y17.call ?_
  simp only [Y17.t,Y17.j0]
  exact Tx.ofStr fun v h' T=>T.arr.rd.len (small_p0 hs s 0 v h' rfl (by simpa [lowS] using T) hk)
end
section
variable {h:AHeap} {Q:AV→AHeap→Prop}
end
end Go.Proofs.YtcdkpkkdolmfdaaGreatDoor
namespace Go.GAM
open Go.RowKit Go.ChangeShapes
section
variable {H:Type} {enc:TypeId × Value→H} {P:Program} {w:World} {szOf:Nat→Nat}
theorem canon_sliceI {x : Addr} {len cap sz : Nat} {vs : List Value} (hl : len ≤ cap) (hc0 : cap ≠ 0) (hz : 0 < sz) (hs : szOf x.block ≤ sz) (hlen : vs.length = cap * sz) (hv : ∀ i, i < vs.length → w.cell? (x.add i) = some (vs.getD i undef)) :
    ∃ ver b,absV w szOf (.slice (some x) len cap) = .sl (some ⟨x.block,ver,x.off⟩) len (some cap)∧(heapC w szOf)[x.block]? = some b∧b.floor≤ver∧ver≤b.cells.length∧x.off+len * sz≤ver∧(b.cells.drop x.off).take (len * sz)=(vs.take (len * sz)).map (absV w szOf):=by
  obtain ⟨B,off,spot⟩:=x
  simp only at hs ⊢
  have hpos:0<vs.length:=by rw [hlen]; exact Nat.mul_pos (by omega) hz
  have cellAdd:∀ i v,spot=none→w.cell? ((⟨B,off,spot⟩:Addr).add i)=some v→∃ c el fr,w.heap[B]? = some (.cells c el fr)∧c[off+i]? = some v:=by
    intro i v hs h
    subst hs
    have e:(⟨B,off,none⟩:Addr).add i=⟨B,off+i,none⟩:=by
      unfold Addr.add
      by_cases hi:i=0
      · subst hi; simp
      · simp [hi]
    rw [e] at h
    unfold World.cell? at h
    split at h
    · rename_i c el fr hh
      exact ⟨c,el,fr,hh,by simpa using h⟩
    · cases h
  have hsp:spot=none:=by
    have h0:=hv 0 hpos
    unfold World.cell? at h0
    split at h0
    · cases spot with
      | none=>rfl
      | some s=>simp [Addr.add] at h0
    · cases h0
  subst hsp
  obtain ⟨c,el,fr,hh,_⟩:=cellAdd 0 _ rfl (hv 0 hpos)
  · have hcell : ∀ i, i < vs.length → c[off + i]? = some (vs.getD i undef) := fun i hi => by
      obtain ⟨c',el',fr',h1,h2⟩:=cellAdd i _ rfl (hv i hi)
      rw [hh] at h1; cases h1; exact h2
    have hsize:off+cap * sz≤c.size:=by
      have:=hcell (vs.length - 1) (by omega)
      have:=(Array.getElem?_eq_some_iff.1 this).1
      omega
    have hshape:w.shape? B=some (el,c.size):=by unfold World.shape?; rw [hh]
    have hlc:len * sz≤cap * sz:=Nat.mul_le_mul_right _ hl
    have hsz2:cap * szOf B≤cap * sz:=Nat.mul_le_mul_left _ hs
    refine ⟨c.size,blkC w szOf B, ?_,heapC_at (shape_lt hshape), ?_, ?_,by omega, ?_⟩
    · simp only [absV, absV1]
      rw [if_neg hc0,hshape]
      simp only
      rw [if_pos ⟨hl,by omega⟩]
    · unfold blkC; rw [hh]; exact Nat.le_refl _
    · unfold blkC; rw [hh]; simp
    · unfold blkC; rw [hh]
      simp only
      apply List.ext_getElem?
      intro i
      by_cases hi:i<len * sz
      · rw [List.getElem?_take_of_lt hi, List.getElem?_drop, List.getElem?_map, Array.getElem?_toList, hcell i (by omega), List.getElem?_map, List.getElem?_take_of_lt hi]
        rw [List.getD_eq_getElem?_getD,List.getElem?_eq_getElem (by omega:i<vs.length)]
        first | done | rfl
      · rw [List.getElem?_eq_none (by simp; omega),List.getElem?_eq_none (by simp; omega)]
theorem row_openV {held : Bool} {t e : TypeId} {fuel : Nat} {cs : List Value} {x : DataW H × List MemPlace} (ht : P.underlying t = some (.slice e)) (h : DataW.trod enc P w 0 (fun _ => true) held fuel t cs = some x) :
    cs=[.slice none 0 0]∧x.1 = .nil∨∃ (a:Addr) (len cap n:Nat) (rows:List (List Value)) (ds rs:List (DataW H)),fuel=n+1∧cs=[.slice (some a) len cap]∧x.1 = .slice ds rs∧ds.length=len∧len≤cap∧cap≤maxLen∧rows.length=cap ∧
      (∀ r∈rows,r.length=P.cellsOf e∧∃ y,DataW.trod enc P w 0 (fun _=>true) held n e r=some y)∧(∀ (i:Nat) (r:List Value) (d:DataW H),rows[i]? = some r→ds[i]? = some d→∃ p,DataW.trod enc P w 0 (fun _=>true) held n e r=some (d,p))∧∀ i,i<rows.flatten.length→w.cell? (a.add i)=some (rows.flatten.getD i undef):=by
  rcases DataW.trod_slice ht h with ⟨h0,h1⟩ | ⟨a,len,cap,elems,rest,n,hf,rfl,hx,hb,hl,hm,hlen,hel,hsp,hns⟩
  · exact .inl ⟨h0,by rw [h1]⟩
  right
  have each:∀ i,i<cap→∃ r,w.cells? 0 (a.add (i * P.cellsOf e)) (P.cellsOf e)=some r∧∃ y,DataW.trod enc P w 0 (fun _=>true) held n e r=some y∧(i<len→elems[i]? = some y):=by
    intro i hi
    have hb':∃ y,(w.cells? 0 (a.add (i * P.cellsOf e)) (P.cellsOf e)).bind (DataW.trod enc P w 0 (fun _=>true) held n e)=some y∧(i<len→elems[i]? = some y):=by
      by_cases h1:i<len
      · rw [hel i h1]
        exact ⟨_,List.getElem?_eq_getElem (by omega),fun _=>List.getElem?_eq_getElem (by omega)⟩
      · obtain ⟨h2, h3⟩ := hsp rfl
        have:=h3 (i - len) (by omega)
        rw [show len+(i - len)=i by omega] at this
        rw [this]
        exact ⟨_,List.getElem?_eq_getElem (by omega),fun h=>absurd h h1⟩
    obtain ⟨y,hy,hy2⟩:=hb'
    obtain ⟨r,h1,h2⟩:=Option.bind_eq_some_iff.1 hy
    exact ⟨r,h1,y,h2,hy2⟩
  refine ⟨a,len,cap,n,(List.range cap).map fun i=>(w.cells? 0 (a.add (i * P.cellsOf e)) (P.cellsOf e)).getD [],elems.map (·.1),rest.map (·.1),hf,rfl,by rw [hx],by simp [hlen],hl,hm,by simp, ?_, ?_, ?_⟩
  · intro r hr
    obtain ⟨i,hi,rfl⟩:=List.mem_map.1 hr
    obtain ⟨r,h1,y,h2,_⟩:=each i (by simpa using hi)
    rw [h1]
    exact ⟨(World.cells?_some h1).2.1,y,h2⟩
  · intro i r d hr hd
    simp only [List.getElem?_map,Option.map_eq_some_iff] at hr hd
    obtain ⟨i',hi',rfl⟩:=hr
    obtain ⟨hlt,rfl⟩:=List.getElem?_eq_some_iff.1 hi'
    rw [List.getElem_range]
    obtain ⟨y,hy,rfl⟩:=hd
    obtain ⟨r,h1,y',h2,h3⟩:=each i (by simpa using hlt)
    have hil:i<elems.length:=(List.getElem?_eq_some_iff.1 hy).1
    have:=h3 (by omega)
    rw [hy] at this
    cases this
    rw [h1]
    exact ⟨y.2,h2⟩
  · have := rows_cells (w := w) (a := a) (sz := P.cellsOf e) ((List.range cap).map fun i => (w.cells? 0 (a.add (i * P.cellsOf e)) (P.cellsOf e)).getD []) 0 (fun i r hi => by
      simp only [List.getElem?_map,Option.map_eq_some_iff] at hi
      obtain ⟨i',hi',rfl⟩:=hi
      obtain ⟨hlt,rfl⟩:=List.getElem?_eq_some_iff.1 hi'
      rw [List.getElem_range]
      obtain ⟨r,h1,_⟩:=each i (by simpa using hlt)
      rw [h1]
      have hs:=World.cells?_some h1
      refine ⟨hs.2.1,fun j hj=>?_⟩
      have:=hs.2.2 j hj
      rw [Addr.add_add] at this
      rw [Nat.zero_add,this]
      simp [hs.2.1,hj])
    simpa using this
end
end Go.GAM
namespace Go.GAM
open Go.RowKit Go.ChangeShapes
theorem Upd.own {h h1 h2:AHeap} {id:Nat} (a:Upd (fun _=>False) h h1) (b:Upd (· = id) h1 h2) (hid:h.length≤id):Upd (fun _=>False) h h2:=a.trans b fun i hi e=>by omega
theorem Upd.then {h h1 h2:AHeap} (a:Upd (fun _=>False) h h1) (b:Upd (fun _=>False) h1 h2):Upd (fun _=>False) h h2:=a.trans b fun _ _ h=>h
theorem st_pb {zeros cs:List AV} {parts:List (Nat × Nat × AV)} {K:AV→Prop} (hf:fillA zeros parts=some cs) (hk:K (.ag cs)):pBuild zeros parts K:=by
  unfold pBuild; rw [hf]; exact hk
def RdI (sz:Nat) (h:AHeap) (v:AV) (cs:List AV) (len:Nat):Prop:=
  (v = .sl none 0 none∧len=0∧cs=[])∨(len=0∧cs=[]∧∃ a c,v = .sl (some a) 0 c)∨∃ id ver off cap b,v = .sl (some ⟨id,ver,off⟩) len cap∧h[id]? = some b∧b.floor≤ver∧ver≤b.cells.length∧off+len * sz≤ver∧(b.cells.drop off).take (len * sz)=cs
theorem Rd.i {sz:Nat} {h:AHeap} {v:AV} {cs:List AV} {len:Nat} (R:Rd sz h v cs len):RdI sz h v cs len:=by
  rcases R with h1 | ⟨id,ver,off,cap,b,h1,h2,h3,h4⟩
  · exact .inl h1
  · exact .inr (.inr ⟨id,ver,off,cap,b,h1,h2,h4⟩)
theorem SArg.i {sz:Nat} {h:AHeap} {v:AV} {cs:List AV} {len:Nat} (R:SArg sz h v cs len):RdI sz h v cs len:=by
  rcases R with R | h1
  · exact R.i
  · exact .inr (.inl h1)
theorem RdI.ext {sz:Nat} {h h':AHeap} {v:AV} {cs:List AV} {len:Nat} (R:RdI sz h v cs len) (U:Upd (fun _=>False) h h'):RdI sz h' v cs len:=by
  rcases R with h1 | h1 | ⟨id,ver,off,cap,b,rfl,h2,h3⟩
  · exact .inl h1
  · exact .inr (.inl h1)
  · exact .inr (.inr ⟨id,ver,off,cap,b,rfl,(U.2 id (lt_of_some h2) fun h=>h).trans h2,h3⟩)
theorem RdI.len {sz:Nat} {h:AHeap} {v:AV} {cs:List AV} {len:Nat} (R:RdI sz h v cs len) {K:Int→Prop} (hk:K len):pLenSl v K:=by
  rcases R with ⟨rfl,rfl,rfl⟩ | ⟨rfl,_,a,c,rfl⟩ | ⟨id,ver,off,cap,b,rfl,h2⟩ <;> exact hk
theorem RdI.isSl {sz:Nat} {h:AHeap} {v:AV} {cs:List AV} {len:Nat} (R:RdI sz h v cs len):∃ a n c,v = .sl a n c:=by
  rcases R with ⟨rfl,rfl,rfl⟩ | ⟨rfl,_,a,c,rfl⟩ | ⟨id,ver,off,cap,b,rfl,h2⟩ <;> exact ⟨_,_,_,rfl⟩
def PtAt (sz:Nat) (h:AHeap) (p:AV) (cs:List AV):Prop:=∃ id ver off,p = .p (some ⟨id,ver,off⟩)∧∃ b:ABlk,h[id]? = some b∧b.floor≤ver∧ver≤b.cells.length∧off+sz≤ver∧(b.cells.drop off).take sz=cs
theorem RdI.at {sz:Nat} {h:AHeap} {v:AV} {cs:List AV} {len:Nat} (R:RdI sz h v cs len) {i:Nat} (h1:i<len):∃ p,PtAt sz h p ((cs.drop (i * sz)).take sz)∧∀ (k:IntKind) (h':AHeap) (K:AV→Prop),Upd (fun _=>False) h h'→K p→pIdxAddrSl sz v (.i k (i:Int)) h' K:=by
  rcases R with ⟨rfl,rfl,rfl⟩ | ⟨rfl,_⟩ | ⟨id,ver,off,cap,b,rfl,h2,h4,h5,h6,rfl⟩
  · omega
  · omega
  · have e1 : (i + 1) * sz ≤ len * sz := Nat.mul_le_mul_right _ (by omega)
    rw [Nat.add_mul] at e1
    refine ⟨.p (some ⟨id,ver,off+i * sz⟩),⟨id,ver,off+i * sz,rfl,b,h2,h4,h5,by omega, ?_⟩,fun k h' K U hk=>?_⟩
    · rw [List.drop_take,List.drop_drop,List.take_take,Nat.min_eq_left (by omega)]
    · refine ⟨by omega, by omega, ⟨b, (U.2 id (lt_of_some h2) fun h => h).trans h2, h4, by omega⟩, ?_⟩
      simpa using hk
theorem PtAt.ext {sz:Nat} {h h':AHeap} {p:AV} {cs:List AV} (A:PtAt sz h p cs) (U:Upd (fun _=>False) h h'):PtAt sz h' p cs:=by
  obtain ⟨id,ver,off,rfl,b,h1,h2⟩:=A
  exact ⟨id,ver,off,rfl,b,(U.2 id (lt_of_some h1) fun h=>h).trans h1,h2⟩
theorem PtAt.loadN {sz:Nat} {h:AHeap} {p:AV} {cs:List AV} (A:PtAt sz h p cs) {K:AV→Prop} (hk:K (.ag cs)):pLoadN sz p h K:=by
  obtain ⟨id,ver,off,rfl,b,h1,h2,h3,h4,rfl⟩:=A
  exact ⟨b,h1,⟨h2,h3,h4⟩,hk⟩
theorem PtAt.load1 {h:AHeap} {p:AV} {c:AV} (A:PtAt 1 h p [c]) {K:AV→Prop} (hk:K c):pLoad1 p h K:=by
  obtain ⟨id,ver,off,rfl,b,h1,h2,h3,h4,h5⟩:=A
  refine ⟨b,h1,⟨h2,h3,h4⟩, ?_⟩
  have:b.cells[off]? = some c:=by
    have:((b.cells.drop off).take 1)[0]? = some c:=by rw [h5] <;> rfl
    rw [List.getElem?_take_of_lt (by omega),List.getElem?_drop] at this
    simpa using this
  show K (b.cells.getD off .u)
  rw [getD_some this]; exact hk
theorem RdI.str {h h':AHeap} {v:AV} {l:List (List UInt8)} (R:RdI 1 h v (l.map .s) l.length) (U:Upd (fun _=>False) h h') {k:IntKind} {i:Nat} {x:List UInt8} (hx:l[i]? = some x) {K:List UInt8→Prop} (hk:K x):pIdxAddrSl 1 v (.i k (i:Int)) h' fun a=>pLoad1 a h' fun y=>asS y K:=by
  obtain ⟨p,A,hp⟩:=R.at (lt_of_some hx)
  have e:((l.map AV.s).drop (i * 1)).take 1=[.s x]:=by
    rw [Nat.mul_one, ← List.map_drop,drop_of_at hx] <;> rfl
  rw [e] at A
  exact hp k h' _ U ((A.ext U).load1 (st_asS hk))
section
variable {H:Type} {enc:TypeId × Value→H} {P:Program} {w:World} {t:TypeId} {cs:List Value}
end
end Go.GAM
namespace Go.GAM
open Go.RowKit
end Go.GAM
namespace Go.Proofs.YtcdkpkkdolmfdaaGreatDoor
open Go.GAM Go.RowKit
structure Cert where
  serial:List UInt8
  issuer:List UInt8
  subject:List UInt8
  frm:Int
  til:Int
  names:List (List UInt8)
  auth:Bool
  key:List UInt8
def certC (c:Cert) (v:AV):List AV:=[.s c.serial,.s c.issuer,.s c.subject,.i .i64 c.frm,.i .i64 c.til,v,.b c.auth,.s c.key]
def CV (h:AHeap) (c:Cert) (cs:List AV):Prop:=∃ v,cs=certC c v∧RdI 1 h v (c.names.map .s) c.names.length
theorem CV.ext {h h':AHeap} {c:Cert} {cs:List AV} (A:CV h c cs) (U:Upd (fun _=>False) h h'):CV h' c cs:=by
  obtain ⟨v,h1,h2⟩:=A; exact ⟨v,h1,h2.ext U⟩
theorem CV.len {h:AHeap} {c:Cert} {cs:List AV} (A:CV h c cs):cs.length=8:=by obtain ⟨v,rfl,_⟩:=A; rfl
theorem CV.ok {h:AHeap} {c:Cert} {cs:List AV} (A:CV h c cs):cs.all AV.cellOK=true:=by
  obtain ⟨v,rfl,R⟩:=A
  obtain ⟨a,n,k,rfl⟩:=R.isSl
  rfl
theorem keyStr:KeyOK prog 9 (fun l:List UInt8=>AV.s l):=keyOK_str Tryz.underlying9
end Go.Proofs.YtcdkpkkdolmfdaaGreatDoor
namespace Go.GAM
def num (n:Nat):AV:=.i .i64 (n:Int)
end Go.GAM
namespace Go.Proofs.YtcdkpkkdolmfdaaGreatDoor
open Go.GAM Go.RowKit
def prep (a:List UInt8):List (List UInt8)→List (List UInt8)
  | []=>[a]
  | b :: l=>(a++b) :: l
def splitS (sp:UInt8):List UInt8→List (List UInt8)
  | []=>[[]]
  | c :: r=>if c=sp then [] :: splitS sp r else prep [c] (splitS sp r)
section
variable {sp:UInt8}
theorem splitS_ne (sp:UInt8) (s:List UInt8):splitS sp s≠[]:=by
  cases s with
  | nil=>simp [splitS]
  | cons c r =>
    unfold splitS
    split
    · simp
    · cases splitS sp r <;> simp [prep]
theorem prep_length (a:List UInt8) {l:List (List UInt8)} (h:l≠[]):(prep a l).length=l.length:=by cases l with
  | nil=>exact absurd rfl h
  | cons b l=>rfl
theorem split_len:∀ s:List UInt8,(splitS sp s).length=Lib.countByte s sp+1
  | []=>rfl
  | c :: r => by
    have:=split_len r
    unfold Lib.countByte at this ⊢
    unfold splitS
    split
    · rename_i h; subst h; simp [this]
    · rename_i h
      rw [prep_length _ (splitS_ne sp r),this,List.count_cons_of_ne h]
theorem split_no : ∀ s : List UInt8, Lib.indexByte s sp < 0 → splitS sp s = [s]
  | [],_=>rfl
  | c :: r, h => by
    unfold Lib.indexByte at h
    split at h
    · omega
    · rename_i h1
      split at h
      · rename_i h2
        rw [splitS,if_neg (by simpa using h1),split_no r (by simp at h2; omega)] <;> rfl
      · have := Lib.indexByte_ge r sp
        rename_i h2
        simp at h2; omega
theorem split_at : ∀ (s : List UInt8) (m : Nat), Lib.indexByte s sp = (m : Int) → m < s.length ∧ splitS sp s = s.take m :: splitS sp (s.drop (m + 1))
  | [],m,h=>by simp [Lib.indexByte] at h
  | c :: r, m, h => by
    unfold Lib.indexByte at h
    split at h
    · rename_i h1
      have:m=0:=by omega
      subst this
      simp at h1
      subst h1
      exact ⟨by simp,by simp [splitS]⟩
    · rename_i h1
      split at h
      · omega
      · rename_i h2
        have:=Lib.indexByte_ge r sp
        simp at h1 h2
        obtain ⟨m',hm'⟩:∃ m':Nat,Lib.indexByte r sp=(m':Int):=⟨(Lib.indexByte r sp).toNat,by omega⟩
        have:m=m'+1:=by omega
        subst this
        obtain ⟨h3,h4⟩:=split_at r m' hm'
        exact ⟨by simpa using h3,by rw [splitS,if_neg h1,h4] <;> rfl⟩
section
variable {s:List UInt8} {h0:AHeap} {Q:AV→AHeap→Prop}
theorem gs_p2 {rest:List UInt8} {done:List (List UInt8)} {v:AV} {h:AHeap} (hd:done.length≤1000000) (A:NewA 1 h0 h v (done.map AV.s++List.replicate 1 (.s [])) (done.length+1))
    (hq:∀ v h',NewS h0 h' v ((done++[rest]).map .s)→Q v h'):Y19.p2 (kRet h0 Q) rest v (done.length:Nat) h:=by
  refine Y19.i2 ?_
  simp only [Y19.t2]
  refine A.arr.store (by omega) rfl rfl rfl fun h' U A'=>inc (by omega) ?_
  have e:(done.map AV.s++List.replicate 1 (AV.s [])).set done.length (AV.s rest)=(done++[rest]).map AV.s:=by
    rw [List.set_append_right _ _ (by simp)]; simp
  rw [e] at A'
  have S:=A'.stk.2
  have S':NewS h0 h' v ((done++[rest]).map .s):=⟨A.upd.trans U fun i hi hs=>absurd (A.new i hs) (by omega),S,A.new⟩
  refine S'.cut (n:=done.length+1) (by simp) fun v' S2 F=>.inl (hq v' h' ?_)
  rw [List.take_of_length_le (by simp)] at S2
  exact S2
theorem gs_p1 : ∀ (k : Nat) (rest : List UInt8) (done : List (List UInt8)) (v : AV) (h : AHeap), (splitS sp rest).length = k + 1 → done.length + k ≤ 1000000 → rest.length ≤ 100000 → NewA 1 h0 h v (done.map AV.s ++ List.replicate (k + 1) (.s [])) (done.length + (k + 1)) →
    (∀ v h',NewS h0 h' v ((done++splitS sp rest).map .s)→Q v h')→Y19.p1 (kRet h0 Q) rest [sp] 0 (done.length+k:Nat) v (done.length:Nat) h:=by
  intro k
  induction k with
  | zero =>
    intro rest done v h hk hd hr A hq
    refine Y19.i1 ?_
    simp only [Y19.t1,Y19.j1,Y19.j2]
    have e:splitS sp rest=[rest]:=by
      rcases Int.lt_or_le (Lib.indexByte rest sp) 0 with h1 | h1
      · exact split_no rest h1
      · obtain ⟨m, hm⟩ : ∃ m : Nat, Lib.indexByte rest sp = (m : Int) := ⟨(Lib.indexByte rest sp).toNat, by omega⟩
        obtain ⟨_,h2⟩:=split_at rest m hm
        rw [h2] at hk
        have:=splitS_ne sp (rest.drop (m+1))
        have:0<(splitS sp (rest.drop (m+1))).length:=List.length_pos_iff.2 this
        simp only [List.length_cons] at hk; omega
    rw [e] at hq
    exact bif_f (by simp) (gs_p2 (by omega) A hq)
  | succ k ih =>
    intro rest done v h hk hd hr A hq
    refine Y19.i1 ?_
    simp only [Y19.t1,Y19.j1,Y19.j2]
    refine bif_t (by simp; omega) (ix_c (st_asI64 ?_))
    have h1:0≤Lib.indexByte rest sp:=by
      rcases Int.lt_or_le (Lib.indexByte rest sp) 0 with h1 | h1
      · rw [split_no rest h1] at hk; simp at hk
      · exact h1
    obtain ⟨m,hm⟩:∃ m:Nat,Lib.indexByte rest sp=(m:Int):=⟨(Lib.indexByte rest sp).toNat,by omega⟩
    obtain ⟨h2,h3⟩:=split_at rest m hm
    rw [hm]
    refine bif_f (by simp) (withI_is (n:=(m:Int)) (by rw [wrap_i64 (by omega) (by omega)]; omega) (st_subs1 (by omega) ?_))
    refine A.arr.store (by omega) rfl rfl rfl fun h' U A'=>?_
    refine withI_is (n:=((m+1:Nat):Int)) (by rw [wrap_i64 (by simp only [List.length_singleton]; omega) (by simp only [List.length_singleton]; omega)] <;> rfl) (st_subs (by omega) (inc (by omega) ?_))
    have e:(done.map AV.s++List.replicate (k+1+1) (AV.s [])).set done.length (AV.s (rest.take m))=(done++[rest.take m]).map AV.s++List.replicate (k+1) (AV.s []):=by
      rw [List.set_append_right _ _ (by simp)]; simp [List.replicate_succ]
    rw [e] at A'
    have hl:(done++[rest.take m]).length=done.length+1:=by simp
    have:=ih (rest.drop (m+1)) (done++[rest.take m]) v h' (by rw [h3] at hk; simpa using hk) (by rw [hl]; omega) (by simp; omega)
      ⟨A.upd.trans U fun i hi hs=>absurd (A.new i hs) (by omega),by rw [hl]; rw [show done.length+1+(k+1)=done.length+(k+1+1) by omega]; exact A',A.new⟩
      (by rw [h3] at hq; simpa using hq)
    rw [hl,show done.length+1+k=done.length+(k+1) by omega] at this
    exact this
theorem split_c {h:AHeap} (hs:s.length≤100000) (hq:∀ v h',NewS h h' v ((splitS sp s).map .s)→Q v h'):C Y66.id [.s s,.s [sp]] h Q:=by
  refine Y66.call ?_
  simp only [Y66.t]
  have hc:Lib.countByte s sp≤s.length:=List.count_le_length
  have hsl:=split_len (sp:=sp) s
  refine Y19.call ?_
  simp only [Y19.t,Y19.j0]
  refine bif_f rfl (bif_f rfl (bif_t rfl (ct_c (st_asI64 (inc (by omega) ?_)))))
  refine Y19.i0 ?_
  simp only [Y19.t0,Y19.j1]
  refine inc (by omega) ?_
  have hm:mmI false ((Lib.countByte s sp+1:Nat):Int) ((s.length+1:Nat):Int)=((Lib.countByte s sp+1:Nat):Int):=by
    unfold mmI
    simp only [cond_false]
    rw [if_neg (by omega)]
  rw [hm]
  refine st_make (by omega) (by omega) fun v h' A=>?_
  refine withI_is (n:=((Lib.countByte s sp:Nat):Int)) (by rw [wrap_i64 (by omega) (by omega)]; omega) ?_
  have:=gs_p1 (h0:=h) (Q:=fun v1 h2=>kRet h Q v1 h2) (Lib.countByte s sp) s [] v h' hsl (by simp; omega) hs (by simpa using A) fun v h' S=>.inl (hq v h' (by simpa using S))
  simpa using this
end
end
end Go.Proofs.YtcdkpkkdolmfdaaGreatDoor
namespace Go.GAM
theorem SArg.upd {sz:Nat} {M:Nat→Prop} {h h':AHeap} {v:AV} {cs:List AV} {len:Nat} (R:SArg sz h v cs len) (U:Upd M h h') (hM:∀ id,SlAt v id→id<h.length→¬ M id):SArg sz h' v cs len:=by
  rcases R with R | R
  · exact .inl (R.upd U fun id hs=>hM id hs (R.lt hs))
  · exact .inr R
theorem SArg.at {sz:Nat} {h:AHeap} {v:AV} {cs:List AV} {len:Nat} (R:SArg sz h v cs len) (hl:len≠0):∃ id ver off cap b,v = .sl (some ⟨id,ver,off⟩) len cap∧RdAt sz h id ver off b cs len:=by
  rcases R.rd hl with ⟨_,h0,_⟩ | ⟨id,ver,off,cap,b,h1,h2,h3,h4,h5,h6,h7⟩
  · exact absurd h0 hl
  · exact ⟨id,ver,off,cap,b,h1,h2,h3,h4,h5,h6,h7⟩
theorem st_elemN {sz:Nat} {h:AHeap} {id ver off:Nat} {b:ABlk} {cs:List AV} {len i:Nat} {r:List AV} {K:AV→Prop} (R:RdAt sz h id ver off b cs len) (hi:i<len) (hr:(cs.drop (i * sz)).take sz=r) (hk:K (.ag r)):pLoadN sz (.p (some ⟨id,ver,off+i * sz⟩)) h K:=by
  have h1:(i+1) * sz≤len * sz:=Nat.mul_le_mul_right _ hi
  rw [Nat.add_mul] at h1
  have h2:=R.end_
  refine ⟨b,R.1,⟨R.3,R.4,by simp only; omega⟩, ?_⟩
  have e:(b.cells.drop (off+i * sz)).take sz=r:=by
    rw [← hr, ← R.cel,List.drop_take,List.drop_drop,List.take_take,Nat.min_eq_left (by omega)]
  simp only [e]
  exact hk
theorem rows_get {sz:Nat}:∀ (rows:List (List AV)) (i:Nat) (r:List AV),(∀ r∈rows,r.length=sz)→rows[i]? = some r→(rows.flatten.drop (i * sz)).take sz=r
  | [],i,r,_,h=>by simp at h
  | a :: rows, 0, r, h1, h => by
    simp at h; subst h
    have:=h1 a (by simp)
    rw [List.flatten_cons,Nat.zero_mul,List.drop_zero, ← this,List.take_left']
    first | done | rfl
  | a :: rows, i + 1, r, h1, h => by
    have h2:=h1 a (by simp)
    have:=rows_get rows i r (fun r hr=>h1 r (by simp [hr])) (by simpa using h)
    rw [List.flatten_cons,Nat.add_mul,Nat.one_mul,List.drop_append,List.drop_eq_nil_of_le (by omega),List.nil_append,show i * sz+sz - a.length=i * sz by omega]
    exact this
end Go.GAM
namespace Go.Proofs.YtcdkpkkdolmfdaaGreatDoor
open Go.GAM Go.RowKit
inductive Der where
  | mk (c t:Int) (m:Bool) (s:List UInt8) (ks:List Der)
mutual
def Der.sz:Der→Nat
  | .mk _ _ _ _ ks=>1+szs ks
def szs:List Der→Nat
  | []=>0
  | k :: r=>k.sz+szs r
end
theorem szs_mem:∀ {ks:List Der} {k:Der},k∈ks→k.sz≤szs ks
  | [],k,h=>by cases h
  | a :: r, k, h => by
    unfold szs
    rcases List.mem_cons.1 h with rfl | h
    · omega
    · have:=szs_mem h; omega
theorem szs_len:∀ ks:List Der,ks.length≤szs ks
  | []=>by simp [szs]
  | k :: r => by
    have:=szs_len r
    have:0<k.sz:=by cases k; unfold Der.sz; omega
    simp only [szs,List.length_cons]; omega
theorem szs_pos (k:Der):0<k.sz:=by cases k; unfold Der.sz; omega
mutual
inductive DV (h:AHeap) (F:Nat→Prop):Der→List AV→Prop
  | mk {c t:Int} {m:Bool} {s:List UInt8} {ks:List Der} {v:AV} {rows:List (List AV)} (hks:DVs h F ks rows) (hv:SArg 5 h v rows.flatten rows.length) (hF:∀ i,SlAt v i→F i∧i<h.length) (hc:v.cellOK=true):DV h F (.mk c t m s ks) [.i .i64 c,.i .i64 t,.b m,.s s,v]
inductive DVs (h:AHeap) (F:Nat→Prop):List Der→List (List AV)→Prop
  | nil:DVs h F [] []
  | cons {k:Der} {ks:List Der} {r:List AV} {rows:List (List AV)} (hk:DV h F k r) (hks:DVs h F ks rows):DVs h F (k :: ks) (r :: rows)
end
theorem DV.len {h:AHeap} {F:Nat→Prop} {d:Der} {cs:List AV} (D:DV h F d cs):cs.length=5:=by cases D; rfl
theorem DVs.len5 {h:AHeap} {F:Nat→Prop}:∀ {ks:List Der} {rows:List (List AV)},DVs h F ks rows→∀ r∈rows,r.length=5
  | _,_,.nil,r,hr=>by cases hr
  | _, _, .cons hk hks, r, hr => by
    rcases List.mem_cons.1 hr with rfl | h
    · exact hk.len
    · exact hks.len5 r h
theorem DVs.length {h:AHeap} {F:Nat→Prop}:∀ {ks:List Der} {rows:List (List AV)},DVs h F ks rows→ks.length=rows.length
  | _,_,.nil=>rfl
  | _,_,.cons _ hks=>by simp [hks.length]
theorem DVs.get {h:AHeap} {F:Nat→Prop}:∀ {ks:List Der} {rows:List (List AV)} {i:Nat} {k:Der},DVs h F ks rows→ks[i]? = some k→∃ r,rows[i]? = some r∧DV h F k r
  | _,_,i,k,.nil,hi=>by simp at hi
  | _,_,0,k,.cons hk _,hi=>by simp at hi; subst hi; exact ⟨_,rfl,hk⟩
  | _, _, i + 1, k, .cons _ hks, hi => by
    obtain ⟨r,h1,h2⟩:=hks.get (i:=i) (by simpa using hi)
    exact ⟨r,by simpa using h1,h2⟩
theorem DVs.app {h:AHeap} {F:Nat→Prop}:∀ {ks:List Der} {rows:List (List AV)} {k:Der} {r:List AV},DVs h F ks rows→DV h F k r→DVs h F (ks++[k]) (rows++[r])
  | _,_,_,_,.nil,hk=>.cons hk .nil
  | _,_,_,_,.cons h1 hks,hk=>.cons h1 (hks.app hk)
theorem DV.upd_n {M F F' : Nat → Prop} {h h' : AHeap} (U : Upd M h h') (hM : ∀ i, F i → i < h.length → ¬ M i ∧ F' i) : ∀ n, (∀ d cs, d.sz ≤ n → DV h F d cs → DV h' F' d cs) ∧ ∀ ks rows, szs ks ≤ n → DVs h F ks rows → DVs h' F' ks rows := by
  intro n
  induction n with
  | zero =>
    refine ⟨fun d cs hd=>absurd hd (by have:=szs_pos d; omega),fun ks rows hk D=>?_⟩
    cases D with
    | nil=>exact .nil
    | cons h1 h2=>rename_i k ks r rows; have:=szs_pos k; unfold szs at hk; omega
  | succ n ih =>
    have hV:∀ d cs,d.sz≤n+1→DV h F d cs→DV h' F' d cs:=by
      intro d cs hd D
      cases D with
      | mk hks hv hF hc =>
        unfold Der.sz at hd
        exact .mk (ih.2 _ _ (by omega) hks) (hv.upd U fun i hs hl=>(hM i (hF i hs).1 hl).1) (fun i hs=>⟨(hM i (hF i hs).1 (hF i hs).2).2,Nat.lt_of_lt_of_le (hF i hs).2 U.1⟩) hc
    refine ⟨hV,fun ks rows=>?_⟩
    induction ks generalizing rows with
    | nil=>intro _ D; cases D; exact .nil
    | cons k ks ihk =>
      intro hk D
      unfold szs at hk
      cases D with
      | cons h1 h2=>exact .cons (hV _ _ (by omega) h1) (ihk _ (by omega) h2)
theorem DV.upd {M F F':Nat→Prop} {h h':AHeap} {d:Der} {cs:List AV} (D:DV h F d cs) (U:Upd M h h') (hM:∀ i,F i→i<h.length→¬ M i∧F' i):DV h' F' d cs:=(DV.upd_n U hM d.sz).1 d cs (Nat.le_refl _) D
theorem DVs.upd {M F F':Nat→Prop} {h h':AHeap} {ks:List Der} {rows:List (List AV)} (D:DVs h F ks rows) (U:Upd M h h') (hM:∀ i,F i→i<h.length→¬ M i∧F' i):DVs h' F' ks rows:=(DV.upd_n U hM (szs ks)).2 ks rows (Nat.le_refl _) D
theorem DV.ext {F:Nat→Prop} {h h':AHeap} {d:Der} {cs:List AV} (D:DV h F d cs) (U:Upd (fun _=>False) h h'):DV h' F d cs:=D.upd U fun i hi _=>⟨fun h=>h,hi⟩
def z5:List AV:=[.i .i64 0,.i .i64 0,.b false,.s [],.sl none 0 none]
def Der.zero:Der:=.mk 0 0 false [] []
theorem DV.zero (h:AHeap) (F:Nat→Prop):DV h F .zero z5:=.mk .nil (.inl (.inl ⟨rfl,rfl,rfl⟩)) (fun i hi=>hi.elim) rfl
theorem DV.leaf (h:AHeap) (F:Nat→Prop) (c t:Int) (m:Bool) (s:List UInt8):DV h F (.mk c t m s []) [.i .i64 c,.i .i64 t,.b m,.s s,.sl none 0 none]:=.mk .nil (.inl (.inl ⟨rfl,rfl,rfl⟩)) (fun i hi=>hi.elim) rfl
section
variable {h0:AHeap} {Q:AV→AHeap→Prop}
end
end Go.Proofs.YtcdkpkkdolmfdaaGreatDoor
namespace Go.GAM
theorem Rd.dropAt {sz:Nat} {h:AHeap} {v:AV} {cs:List AV} {len:Nat} (R:Rd sz h v cs len) (hz:0<sz) {lo:Nat} (h1:lo≤len) {K:AV→Prop} (hk:∀ v',Rd sz h v' (cs.drop (lo * sz)) (len - lo)→K v'):pSliceSl sz v (some (.i .i64 (lo:Int))) none none h K:=by
  rcases R with ⟨rfl,h0,rfl⟩ | ⟨id,ver,off,cap,b,rfl,g2,g3,g4,g5,g6,g7⟩
  · have : lo = 0 := by omega
    subst this
    exact ⟨by simp,rfl,rfl,rfl,fun h=>by simp at h,hk _ (.inl ⟨rfl,by omega,by simp⟩)⟩
  · have e1 : lo * sz ≤ len * sz := Nat.mul_le_mul_right _ h1
    have e3:(len - lo) * sz=len * sz - lo * sz:=Nat.sub_mul _ _ _
    refine ⟨hz,fun h=>by simp at h,by omega,by simpa using h1,b,g2,by omega,g4,.inl g3,.inl (Nat.le_refl _), ?_⟩
    refine hk _ (.inr ⟨id,ver,off+lo * sz,cap.map (· - lo),b,by simp,g2,g3,g4,g5,by omega, ?_⟩)
    rw [← g7,List.drop_take,List.drop_drop,e3]
theorem Rd.at {sz:Nat} {h:AHeap} {v:AV} {cs:List AV} {len:Nat} (R:Rd sz h v cs len) (hl:len≠0):∃ id ver off cap b,v = .sl (some ⟨id,ver,off⟩) len cap∧RdAt sz h id ver off b cs len:=by
  rcases R with ⟨_,h0,_⟩ | ⟨id,ver,off,cap,b,h1,h2,h3,h4,h5,h6,h7⟩
  · exact absurd h0 hl
  · exact ⟨id,ver,off,cap,b,h1,h2,h3,h4,h5,h6,h7⟩
theorem st_num {h:AHeap} {id ver off:Nat} {b:ABlk} {l:List Nat} {len i n:Nat} {K:Int→Prop} (R:RdAt 1 h id ver off b (l.map num) len) (hi:i<len) (hn:l[i]? = some n) (hk:K (n:Int)):pLoad1 (.p (some ⟨id,ver,off+i * 1⟩)) h fun y=>asI .i64 y K:=
  st_elem (o:=0) R hi Nat.one_pos (c:=num n) (by rw [Nat.mul_one,Nat.add_zero,List.getElem?_map,hn] <;> rfl) (st_asI hk)
theorem Rd.nat {h:AHeap} {v:AV} {l:List Nat} {len i n:Nat} {k:IntKind} {K:Int→Prop} (R:Rd 1 h v (l.map num) len) (hi:i<len) (hn:l[i]? = some n) (hk:K (n:Int)):pIdxAddrSl 1 v (.i k (i:Int)) h fun a=>pLoad1 a h fun y=>asI .i64 y K:=
  R.cell Nat.one_pos hi (c:=num n) (by rw [Nat.mul_one,List.getElem?_map,hn] <;> rfl) (st_asI hk)
end Go.GAM
namespace Go.Proofs.YtcdkpkkdolmfdaaGreatDoor
open Go.GAM Go.RowKit
section
variable {h0:AHeap} {Q:AV→AHeap→Prop}
def Der.data:Der→List UInt8 | .mk _ _ _ s _=>s
def dPlain (tag:Int):Der→Bool | .mk c t m s ks=>decide (c=0)&&(decide (t=tag)&&(!m&&decide (ks.length=0)))
def leafC (c t:Int) (m:Bool) (s:List UInt8):List AV:=[.i .i64 c,.i .i64 t,.b m,.s s,.sl none 0 none]
theorem plain_c {d:Der} {cs:List AV} {F:Nat→Prop} {tag:Int} {h:AHeap} (D:DV h F d cs) (hq:Q (.b (dPlain tag d)) h):C Y29.id [.ag cs,.i .i64 tag] h Q:=by
  cases D with
  | @mk c t m s ks v rows Dk sv fv ov=>
  refine Y29.call ?_
  simp only [Y29.t,Y29.j0]
  refine st_box rfl fun h1 hl1 U1 B=>?_
  have S1:=sv.upd U1 fun _ _ _ h=>h
  have p0:∀ b,b=(decide (c=0)&&(decide (t=tag)&&(!m&&decide (ks.length=0))))→Y29.p0 (kRet h Q) b h1:=by
    intro b hb
    refine Y29.i0 ?_
    simp only [Y29.t0]
    subst hb
    exact kRet_pure rfl U1.ext hq
  refine st_fld (st_load B rfl rfl (st_asI ?_))
  refine bif_both (fun e1=>st_fld (st_load B rfl rfl (st_asI ?_))) fun e1=>p0 _ (by rw [e1] <;> rfl)
  refine bif_both (fun e2=>st_fld (st_load B rfl rfl (st_asB ?_))) fun e2=>p0 _ (by rw [e1,e2] <;> rfl)
  refine bif_both (fun e3=>st_fld (st_load B rfl rfl (S1.len (p0 _ ?_)))) fun e3=>p0 _ (by rw [e1,e2,e3] <;> rfl)
  rw [e1,e2,e3, ← Dk.length]
  simp
theorem DV.box {ty:Option TypeId} {d:Der} {cs:List AV} {F:Nat→Prop} {h:AHeap} (D:DV h F d cs) {K:AV→AHeap→Prop} (hk:∀ h1,h1.length=h.length+1→Upd (fun _=>False) h h1→RecAt h1 h.length cs→DV h1 F d cs→K (.p (some ⟨h.length,5,0⟩)) h1):pBox ty (.ag cs) h K:=by
  refine st_box rfl fun h1 hl1 U1 B=>?_
  have hp:(AV.ag cs).parts.length=5:=D.len
  rw [hp]
  exact hk h1 hl1 U1 B (D.ext U1)
theorem DV.dat {d:Der} {cs:List AV} {F:Nat→Prop} {h:AHeap} (D:DV h F d cs):cs[3]? = some (.s d.data):=by cases D; rfl
theorem quo_n {a b:Nat} {K:Int→Prop} (hb:b≠0) (ha:a<9223372036854775808) (hk:K ((a / b:Nat):Int)):pQuo .i64 (a:Int) (b:Int) K:=by
  have h:=Nat.div_le_self a b
  refine st_quo (by omega) ?_ hk
  rw [Int.tdiv_eq_ediv_of_nonneg (by omega), ← Int.natCast_ediv]
  generalize a / b=y at h
  rw [wrap_i64 (by omega) (by omega)]
def digB (c:UInt8):Bool:=decide (48≤c.toNat)&&decide (c.toNat≤57)
theorem digB_bd {c:UInt8} (h:digB c=true):48≤c.toNat∧c.toNat≤57:=by
  unfold digB at h; simpa using h
def oidD:List UInt8→Nat→Bool→Option (List Nat)
  | [],_,begun=>if begun=true then none else some []
  | c :: r, n, begun => if begun = false ∧ c.toNat = 128 then none else if 268435456 ≤ n * 128 + c.toNat % 128 then none else
      if 128≤c.toNat then oidD r (n * 128+c.toNat % 128) true else match oidD r 0 false with
        | none=>none
        | some l=>some ((n * 128+c.toNat % 128) :: l)
def oidTxt:List Nat→List UInt8
  | []=>[]
  | a :: r=>Lib.decDigits (min (a / 40) 2)++[46]++Lib.decDigits (a - 40 * min (a / 40) 2)++r.flatMap fun n=>46 :: Lib.decDigits n
def oidS (d:Der):List UInt8 × Bool:=if dPlain 6 d=true∧d.data≠[] then (match oidD d.data 0 false with
  | none=>([],false)
  | some l=>(oidTxt l,true)) else ([],false)
theorem decDigits_len {n : Nat} (h : n < 1000000000) : (Lib.decDigits n).length ≤ 10 := by
  have key:∀ k n,n<10 ^ k→1≤k→(Lib.decDigits n).length≤k:=by
    intro k
    induction k with
    | zero=>intro n _ h; omega
    | succ k ih =>
      intro n hn _
      rw [Lib.decDigits]
      split
      · simp
      · rename_i h10
        have hk:1≤k:=by
          rcases Nat.eq_zero_or_pos k with h | h
          · subst h; simp at hn; omega
          · exact h
        have:=ih (n / 10) (by rw [Nat.pow_succ] at hn; omega) hk
        simp only [List.length_append,List.length_singleton]; omega
  exact key 10 n (by omega) (by omega)
theorem mmI_min (a b:Nat):mmI false (a:Int) (b:Int)=((min a b:Nat):Int):=by
  unfold mmI
  simp only [cond_false]
  split <;> omega
def oidT (x:List UInt8 × Bool):AV:=.tu [.s x.1,.b x.2]
def oidX:Option (List Nat)→List Nat→List UInt8 × Bool
  | none,_=>([],false)
  | some l,done=>(oidTxt (done++l),true)
end
end Go.Proofs.YtcdkpkkdolmfdaaGreatDoor
namespace Go.GAM
theorem RdAt.drop {sz:Nat} {h:AHeap} {id ver off:Nat} {b:ABlk} {cs:List AV} {len lo:Nat} {cap:Option Nat} {K:AV→Prop} (A:RdAt sz h id ver off b cs len) (hz:0<sz) (h1:lo≤len) (hk:K (.sl (some ⟨id,ver,off+lo * sz⟩) (len - lo) (cap.map (· - lo)))):pSliceSl sz (.sl (some ⟨id,ver,off⟩) len cap) (some (.i .i64 (lo:Int))) none none h K:=by
  refine ⟨hz,fun h=>by simp at h,by omega,by simpa using h1,b,A.blk,by have:=A.flo; have:=A.vle; omega,A.flo,.inl A.siz,.inl (Nat.le_refl _),by simpa using hk⟩
theorem RdAt.dropRd {sz:Nat} {h:AHeap} {id ver off:Nat} {b:ABlk} {cs:List AV} {len lo:Nat} (A:RdAt sz h id ver off b cs len) (h1:lo≤len) (cap:Option Nat):Rd sz h (.sl (some ⟨id,ver,off+lo * sz⟩) (len - lo) cap) (cs.drop (lo * sz)) (len - lo):=by
  have e1:lo * sz≤len * sz:=Nat.mul_le_mul_right _ h1
  have e3:(len - lo) * sz=len * sz - lo * sz:=Nat.sub_mul _ _ _
  have e4:=A.end_
  refine .inr ⟨id,ver,off+lo * sz,cap,b,rfl,A.blk,A.siz,A.flo,A.vle,by omega, ?_⟩
  rw [← A.cel,List.drop_take,List.drop_drop,e3]
theorem NewA.one {h0 h:AHeap} (U:Upd (fun _=>False) h0 h) {x:AV} {zeros:List AV} (hf:fillA zeros [(0,1,x)]=some [x]) {K:AV→AHeap→Prop} (hk:∀ v h',NewA 1 h0 h' v [x] 1→Upd (fun _=>False) h h'→(∀ i,SlAt v i→h.length≤i)→K v h'):pBuildSl 1 1 zeros [(0,1,x)] h K:=by
  unfold pBuildSl
  rw [hf]
  refine ⟨rfl,hk _ _ ⟨U.trans (Upd.app _ _) fun _ _ h=>h,.inr ⟨h.length,newBlk [x] 1 true,rfl,by simp,rfl,rfl,rfl,Nat.le_refl _,rfl,rfl⟩,fun i hi=>?_⟩ (Upd.app _ _) fun i hi=>?_⟩
  · cases hi; exact U.1
  · cases hi; exact Nat.le_refl _
end Go.GAM
namespace Go.Proofs.YtcdkpkkdolmfdaaGreatDoor
open Go.GAM Go.RowKit
def nat10 (l:List UInt8):Nat:=l.foldl (fun n c=>n * 10+(c.toNat - 48)) 0
theorem nat10_snoc (l:List UInt8) (c:UInt8):nat10 (l++[c])=nat10 l * 10+(c.toNat - 48):=by simp [nat10]
theorem nat10_bd:∀ n (l:List UInt8),l.length=n→l.all digB=true→nat10 l<10 ^ n:=by
  intro n
  induction n with
  | zero=>intro l hl _; rw [List.eq_nil_of_length_eq_zero hl]; decide
  | succ n ih =>
    intro l hl ha
    have hne:l≠[]:=fun h=>by rw [h] at hl; simp at hl
    have e:=List.dropLast_concat_getLast hne
    rw [← e,List.all_append,Bool.and_eq_true] at ha
    have h1:=ih l.dropLast (by rw [List.length_dropLast]; omega) ha.1
    have h2:=ha.2
    simp only [List.all_cons,List.all_nil,Bool.and_true] at h2
    have h2:=digB_bd h2
    rw [← e,nat10_snoc,Nat.pow_succ]
    omega
def lead0 (s:List UInt8):Prop:=s.getD 0 0=48∧1<s.length
instance (s:List UInt8):Decidable (lead0 s):=by unfold lead0; infer_instance
def decN (s:List UInt8):Option Nat:=if s≠[]∧s.length≤9∧¬ lead0 s∧s.all digB=true∧nat10 s<268435456 then some (nat10 s) else none
def arcK:Nat→Nat→List UInt8
  | 0,n=>[UInt8.ofNat (n % 128)]
  | k+1,n=>UInt8.ofNat (n / 2 ^ (7 * (k+1)) % 128+128) :: arcK k n
def arcN (n:Nat):Nat:=if n<128 then 0 else if n<16384 then 1 else if n<2097152 then 2 else 3
def arcS (n:Nat):List UInt8:=arcK (arcN n) n
def decAll : List (List UInt8) → Option (List Nat)
  | []=>some []
  | w :: r => match decN w with
    | none=>none
    | some n => match decAll r with
      | none=>none
      | some l=>some (n :: l)
def oidL (l:List Nat):Except Int (List UInt8):=match l with
  | a :: b :: r=>if 2<a∨(a<2∧40≤b)∨268435456≤40 * a+b then .error 2 else .ok (((40 * a+b) :: r).flatMap arcS)
  | _=>.error 2
def oidOfS (s : List UInt8) : Except Int (List UInt8) :=
  if 256<s.length then .error 3 else match decAll (splitS 46 s) with
    | none=>.error 2
    | some l=>oidL l
theorem decAll_cons (w:List UInt8) (r:List (List UInt8)):decAll (w :: r)=match decN w with
    | none=>none
    | some n => match decAll r with
      | none=>none
      | some l=>some (n :: l):=by rw [decAll]
theorem oidL_short {l:List Nat} (h:l.length<2):oidL l = .error 2:=by
  match l,h with
  | [],_=>rfl
  | [a],_=>rfl
theorem two_of {l:List Nat} (h:¬ l.length<2):∃ a b r,l=a :: b :: r:=by
  match l,h with
  | [],h=>simp at h
  | [a],h=>simp at h
  | a :: b :: r,_=>exact ⟨a,b,r,rfl⟩
theorem decN_bd {s:List UInt8} {n:Nat} (h:decN s=some n):n<268435456:=by
  unfold decN at h
  split at h
  · rename_i hc; cases h; exact hc.2.2.2.2
  · cases h
theorem decAll_bd : ∀ {ws : List (List UInt8)} {l : List Nat}, decAll ws = some l → (∀ n ∈ l, n < 268435456) ∧ l.length = ws.length
  | [],l,h=>by cases h; simp
  | w :: r, l, h => by
    unfold decAll at h
    split at h
    · cases h
    · rename_i n hn
      split at h
      · cases h
      · rename_i l' hl
        cases h
        have:=decAll_bd hl
        refine ⟨fun m hm=>?_,by simp [this.2]⟩
        rcases List.mem_cons.1 hm with rfl | hm
        · exact decN_bd hn
        · exact this.1 m hm
section
variable {h0:AHeap} {Q:AV→AHeap→Prop}
def NOut (h:AHeap) (Q:AV→AHeap→Prop):Option Nat→Prop
  | some n=>Q (.tu [.i .i64 (n:Int),.b true]) h
  | none=>∀ x,Q (.tu [.i .i64 x,.b false]) h
theorem number_c {s : List UInt8} {h : AHeap} (hq : NOut h Q (decN s)) : C Y16.id [.s s] h Q := by
  refine Y16.call ?_
  simp only [Y16.t,Y16.j0]
  have p0bad:decN s=none→Y16.p0 (kRet h Q) s true h:=by
    intro hn
    rw [hn] at hq
    refine Y16.i0 ?_
    simp only [Y16.t0]
    exact bif_t rfl (.inl (hq 0))
  have p0ok : s ≠ [] → s.length ≤ 9 → ¬ lead0 s → Y16.p0 (kRet h Q) s false h := by
    intro hne hl h48
    have go : ∀ (r : List UInt8) (i : Nat), s.drop i = r → i ≤ s.length → (s.take i).all digB = true → Y16.p1 (kRet h Q) s (nat10 (s.take i) : Nat) s.length i h := by
      intro r
      induction r with
      | nil =>
        intro i hr hi ha
        have hle:=drop_end hr
        rw [List.take_of_length_le hle] at ha ⊢
        have hb:=nat10_bd s.length s rfl ha
        have hp:10 ^ s.length≤10 ^ 9:=Nat.pow_le_pow_right (by omega) hl
        refine Y16.i1 ?_
        simp only [Y16.t1]
        refine bif_f (by simp; omega) (.inl ?_)
        unfold decN at hq
        by_cases h28:nat10 s<268435456
        · rw [if_pos ⟨hne, hl, h48, ha, h28⟩] at hq
          rw [decide_eq_true (by omega)]; exact hq
        · rw [if_neg (fun hh => h28 hh.2.2.2.2)] at hq
          rw [decide_eq_false (by omega)]; exact hq _
      | cons c r ih =>
        intro i hr hi ha
        have hlt:=drop_lt hr
        have hn:=drop_next hr
        have hci:=at_of_drop hr
        have hb:=nat10_bd i (s.take i) (by rw [List.length_take]; omega) ha
        have hp:10 ^ i≤10 ^ 9:=Nat.pow_le_pow_right (by omega) (by omega)
        have p2:∀ b,b = !digB c→Y16.p2 (kRet h Q) s (nat10 (s.take i):Nat) i s.length i b h:=by
          intro b hb2
          refine Y16.i2 ?_
          simp only [Y16.t2,Y16.j1]
          cases hd:digB c with
          | false =>
            rw [hd] at hb2
            have:decN s=none:=by
              unfold decN
              rw [if_neg (fun hh=>?_)]
              have h3:=hh.2.2.2.1
              rw [← List.take_append_drop i s,List.all_append,hr,List.all_cons,hd] at h3
              simp at h3
            rw [this] at hq
            exact bif_t hb2 (.inl (hq 0))
          | true =>
            rw [hd] at hb2
            have hdb:=digB_bd hd
            refine bif_f hb2 ?_
            refine withI_is (n:=((nat10 (s.take i) * 10:Nat):Int)) (by rw [wrap_i64 (by omega) (by omega)]; omega) (st_at hr ?_)
            refine withI_is (n:=((c.toNat - 48:Nat):Int)) (by rw [wrap_u8 (by omega) (by omega)]; omega) ?_
            refine withI_is (n:=((nat10 (s.take (i+1)):Nat):Int)) ?_ (inc (by omega) (ih (i+1) hn (by omega) ?_))
            · rw [take_snoc hci,nat10_snoc,wrap_i64 (n:=((c.toNat - 48:Nat):Int)) (by omega) (by omega),wrap_i64 (by omega) (by omega)]; omega
            · rw [take_snoc hci,List.all_append,ha]; simp [hd]
        unfold digB at p2
        refine Y16.i1 ?_
        simp only [Y16.t1,Y16.j2]
        refine bif_t (by simp; omega) (st_at hr ?_)
        refine bif_both (fun e=>p2 _ ?_) fun e=>st_at hr (p2 _ ?_)
        · simp only [decide_eq_true_eq] at e
          rw [decide_eq_false (by omega:¬ 48≤c.toNat)] <;> rfl
        · simp only [decide_eq_false_iff_not] at e
          rw [decide_eq_true (by omega:48≤c.toNat),Bool.true_and, ← decide_not,decide_eq_decide]; omega
    refine Y16.i0 ?_
    simp only [Y16.t0,Y16.j1]
    exact bif_f rfl (go s 0 rfl (by omega) rfl)
  by_cases hne:s=[]
  · exact bif_t (by simp [hne]) (p0bad (by unfold decN; rw [if_neg (fun hh=>hh.1 hne)]))
  refine bif_f (by simp [hne]) ?_
  by_cases hl:9<s.length
  · exact bif_t (by simp; omega) (p0bad (by unfold decN; rw [if_neg (fun hh=>by have:=hh.2.1; omega)]))
  refine bif_f (by simp; omega) ?_
  obtain ⟨c,hc⟩:∃ c,s[0]? = some c:=⟨_,List.getElem?_eq_getElem (List.length_pos_iff.2 hne)⟩
  have hg:s.getD 0 0=c:=getD_some hc
  refine idxStr (i:=0) hc ?_
  rw [show (48:Int)=(((48:UInt8).toNat:Nat):Int) from rfl,eq_byte]
  by_cases h48:c=48
  · refine bif_t (by simp [h48]) ?_
    by_cases h1:1<s.length
    · rw [decide_eq_true (by omega)]
      refine p0bad ?_
      unfold decN
      rw [if_neg (fun hh=>hh.2.2.1 ⟨by rw [hg,h48],h1⟩)]
    · rw [decide_eq_false (by omega)]
      exact p0ok hne (by omega) (fun hh=>h1 hh.2)
  · refine bif_f (by simp [h48]) (p0ok hne (by omega) (fun hh=>h48 (by rw [← hg]; exact hh.1)))
def oidR:Except Int (List UInt8)→AV
  | .error e=>.tu [.ag z5,.i .i64 e]
  | .ok l=>.tu [.ag (leafC 0 6 false l),.i .i64 0]
theorem and127 {x:Nat} (hx:x<2 ^ 62):bitsOp .and .i64 (x:Int) 127=((x % 128:Nat):Int):=bits_and_mod (n:=7) hx (by omega)
theorem or128 {x:Nat} (hx:x<128):bitsOp .or .i64 (x:Int) 128=((x+128:Nat):Int):=by
  have h:∀ x,x<128→x ||| 128=x+128:=by decide +kernel
  have:=bits_or (x:=x) (y:=128) (by omega) (by omega)
  rw [h x hx] at this
  exact this
theorem ret_tu {h h1 hx:AHeap} {id:Nat} {z:List AV} {c t e:Int} {s:List UInt8} (hz:z.length=5) (R:RecAt hx id z) (hid:h.length≤id) (U:Upd (fun _=>False) h hx) (hq:∀ h',Upd (fun _=>False) h h'→Q (.tu [.ag (leafC c t false s),.i .i64 e]) h') :
    pStore 5 (.p (some ⟨id,5,0⟩)) (.ag [.i .i64 c,.i .i64 t,.b false,.s s,.sl none 0 none]) hx fun h5=>pLoadN 5 (.p (some ⟨id,5,0⟩)) h5 fun v7=>kRet h Q (.tu [v7,.i .i64 e]) h5:=by
  refine st_storeN R hz.symm rfl rfl fun h5 hl5 U5 R5=>st_loadN R5 rfl (.inl (hq h5 ?_))
  exact (U.trans U5 fun i hi he=>absurd he (by omega))
theorem oid_p2 {h h1 h2 : AHeap} {id : Nat} {w : AV} {l : List Nat} (hid : h.length ≤ id) (U1 : Upd (fun _ => False) h h1) (U2 : Upd (fun _ => False) h h2) (R : RecAt h2 id z5) (W : Rd 1 h2 w (l.map num) l.length) (hll : l.length ≤ 1000) (hb : ∀ n ∈ l, n < 268435456)
    (hq:∀ h',Upd (fun _=>False) h h'→Q (.tu [.ag (leafC 0 6 false (l.flatMap arcS)),.i .i64 0]) h') :
    ∀ (r:List Nat) (i:Nat) (v:AV) (o:List UInt8) (hx:AHeap),l.drop i=r→i≤l.length→o.length≤4 * i→o++r.flatMap arcS=l.flatMap arcS→Tx h2 hx v o→Y3.p2 (kRet h Q) (.p (some ⟨id,5,0⟩)) v w l.length i hx:=by
  intro r
  induction r with
  | nil =>
    intro i v o hx hr hi hol ho T
    have hle:=drop_end hr
    refine Y3.i2 ?_
    simp only [Y3.t2]
    rw [List.flatMap_nil,List.append_nil] at ho
    subst ho
    exact bif_f (by simp; omega) (T.str (ret_tu (h1:=h1) rfl (R.upd T.upd fun h=>h) hid (U2.trans T.upd fun _ _ h=>h) hq))
  | cons n r ih =>
    intro i v o hx hr hi hol ho T
    have hlt:=drop_lt hr
    have hn:=drop_next hr
    have hni:=at_of_drop hr
    have hnb:=hb n (List.mem_of_getElem? hni)
    have W':=W.upd T.upd fun _ _ h=>h
    rw [List.flatMap_cons] at ho
    have p4:∀ (k:Nat) (v:AV) (o':List UInt8) (hx:AHeap),k≤3→o'.length+k≤4 * i+3→o'++arcK k n=o++arcS n→Tx h2 hx v o'→Y3.p4 (kRet h Q) (.p (some ⟨id,5,0⟩)) v n k w l.length i hx:=by
      intro k
      induction k with
      | zero =>
        intro v o' hx hk hol' ho' T
        refine Y3.i4 ?_
        simp only [Y3.t4,Y3.j2]
        refine bif_f (by simp) (withI_is (and127 (by omega)) ?_)
        rw [wrap_u8_nat,Nat.mod_eq_of_lt (show n % 128<256 by omega)]
        have e:((n % 128:Nat):Int)=((UInt8.ofNat (n % 128)).toNat:Int):=by rw [UInt8.toNat_ofNat']; omega
        rw [e]
        refine T.push (by omega) fun v' h' T'=>inc (by omega) (ih (i+1) v' _ h' hn (by omega) (by simp; omega) ?_ T')
        rw [show o'++[UInt8.ofNat (n % 128)]=o++arcS n from ho',List.append_assoc]
        exact ho
      | succ k ihk =>
        intro v o' hx hk hol' ho' T
        refine Y3.i4 ?_
        simp only [Y3.t4,Y3.j4]
        refine bif_t (by simp) ?_
        refine withI_is (n:=((7 * (k+1):Nat):Int)) (by rw [wrap_i64 (by omega) (by omega)]; omega) (st_shr (k:=.i64) (by show 7 * (k+1)≤64; omega) ?_)
        have hd:n / 2 ^ (7 * (k+1))≤n:=Nat.div_le_self _ _
        unfold arcK at ho'
        generalize n / 2 ^ (7 * (k+1))=y at hd ho'
        refine withI_is (and127 (by omega)) (withI_is (or128 (Nat.mod_lt _ (by omega))) ?_)
        have hm:y % 128<128:=Nat.mod_lt _ (by omega)
        rw [wrap_u8_nat,Nat.mod_eq_of_lt (show y % 128+128<256 by omega)]
        have e:((y % 128+128:Nat):Int)=((UInt8.ofNat (y % 128+128)).toNat:Int):=by rw [UInt8.toNat_ofNat']; omega
        rw [e]
        refine T.push (by omega) fun v' h' T'=>withI_is (n:=(k:Int)) (by rw [wrap_i64 (by omega) (by omega)]; omega) (ihk v' _ h' (by omega) (by simp; omega) ?_ T')
        rw [← ho']; simp
    have hk3 : arcN n ≤ 3 := by unfold arcN; repeat' split
                                all_goals omega
    have p3 : ∀ m k, k + m = arcN n → Y3.p3 (kRet h Q) (.p (some ⟨id, 5, 0⟩)) v n k w l.length i hx := by
      intro m
      induction m with
      | zero =>
        intro k hk
        have hk:k=arcN n:=by omega
        refine Y3.i3 ?_
        simp only [Y3.t3,Y3.j4]
        refine inc (by omega) (withI_is (n:=((7 * (k+1):Nat):Int)) (by rw [wrap_i64 (by omega) (by omega)]; omega) (st_shr (k:=.i64) (by show 7 * (k+1)≤64; omega) ?_))
        have:n / 2 ^ (7 * (k+1))=0:=by
          apply Nat.div_eq_of_lt
          rw [hk]
          unfold arcN
          repeat' split
          all_goals omega
        rw [this]
        refine bif_f rfl (p4 k v o hx (by omega) (by omega) ?_ T)
        unfold arcS; rw [hk]
      | succ m ihm =>
        intro k hk
        refine Y3.i3 ?_
        simp only [Y3.t3,Y3.j3]
        refine inc (by omega) (withI_is (n:=((7 * (k+1):Nat):Int)) (by rw [wrap_i64 (by omega) (by omega)]; omega) (st_shr (k:=.i64) (by show 7 * (k+1)≤64; omega) ?_))
        have:0<n / 2 ^ (7 * (k+1)):=by
          apply Nat.div_pos _ (Nat.two_pow_pos _)
          have hk':k<arcN n:=by omega
          unfold arcN at hk'
          have:k=0∨k=1∨k=2:=by
            revert hk'
            repeat' split
            all_goals omega
          rcases this with rfl | rfl | rfl
          · split at hk' <;> omega
          · split at hk'
            · omega
            · split at hk' <;> omega
          · split at hk'
            · omega
            · split at hk'
              · omega
              · split at hk' <;> omega
        refine bif_t (by rw [decide_eq_true_eq]; generalize n / 2 ^ (7 * (k+1))=y at this; omega) (inc (by omega) (ihm (k+1) (by omega)))
    refine Y3.i2 ?_
    simp only [Y3.t2,Y3.j3]
    exact bif_t (by simp; omega) (W'.nat hlt hni (p3 (arcN n) 0 (by omega)))
theorem oidOf_c {s : List UInt8} {h : AHeap} (hq : ∀ h', Upd (fun _ => False) h h' → Q (oidR (oidOfS s)) h') : C Y3.id [.s s] h Q := by
  refine Y3.call ?_
  simp only [Y3.t,Y3.j0]
  refine st_alloc fun h1 hl1 U1 R=>?_
  unfold oidOfS at hq
  by_cases hl:256<s.length
  · rw [if_pos hl] at hq
    exact bif_t (by simp; omega) (ret_tu (h1:=h1) rfl R (Nat.le_refl _) U1 hq)
  rw [if_neg hl] at hq
  refine bif_f (by simp; omega) (split_c (sp:=46) (by omega) fun w h2 S=>?_)
  have hsl:=split_len (sp:=46) s
  have hcb:Lib.countByte s 46≤s.length:=List.count_le_length
  have W:=S.stk.rd
  rw [List.length_map] at W
  have R2:=R.upd S.upd fun h=>h
  have U2:=U1.trans S.upd fun _ _ h=>h
  refine W.len ?_
  generalize splitS 46 s=ws at *
  have bad:∀ hx,Upd (fun _=>False) h2 hx→decAll ws=none→pStore 5 (.p (some ⟨h.length,5,0⟩)) (.ag [.i .i64 0,.i .i64 0,.b false,.s [],.sl none 0 none]) hx fun h5=>pLoadN 5 (.p (some ⟨h.length,5,0⟩)) h5 fun v7=>kRet h Q (.tu [v7,.i .i64 2]) h5:=by
    intro hx U hd
    rw [hd] at hq
    exact ret_tu (h1:=h1) rfl (R2.upd U fun h=>h) (Nat.le_refl _) (U2.trans U fun _ _ h=>h) hq
  have go : ∀ (r : List (List UInt8)) (i : Nat) (done : List Nat) (v : AV) (hx : AHeap), ws.drop i = r → i ≤ ws.length → done.length = i → (decAll ws = match decAll r with | none => none | some l => some (done ++ l)) → NewA 1 h2 hx v (done.map num) done.length → Y3.p0 (kRet h Q) (.p (some ⟨h.length, 5, 0⟩)) v w ws.length i hx := by
    intro r
    induction r with
    | nil =>
      intro i done v hx hr hi hdl hd A
      have hle:=drop_end hr
      have hd:decAll ws=some done:=by rw [hd]; simp [decAll]
      rw [hd] at hq
      have hbd:=(decAll_bd hd).1
      have R3:=R2.upd A.upd fun h=>h
      have U3:=U2.trans A.upd fun _ _ h=>h
      refine Y3.i0 ?_
      simp only [Y3.t0,Y3.j1]
      refine bif_f (by simp; omega) (A.arr.rd.len ?_)
      have p1bad:oidL done = .error 2→Y3.p1 (kRet h Q) (.p (some ⟨h.length,5,0⟩)) v true hx:=by
        intro he
        have hq:∀ h',Upd (fun _=>False) h h'→Q (oidR (oidL done)) h':=hq
        rw [he] at hq
        refine Y3.i1 ?_
        simp only [Y3.t1]
        exact bif_t rfl (ret_tu (h1:=h1) rfl R3 (Nat.le_refl _) U3 hq)
      have p1ok:∀ a b l,done=a :: b :: l→¬ (2<a∨(a<2∧40≤b)∨268435456≤40 * a+b)→Y3.p1 (kRet h Q) (.p (some ⟨h.length,5,0⟩)) v false hx:=by
        intro a b l hdone hg
        have ha:=hbd a (by rw [hdone]; simp)
        have hb:=hbd b (by rw [hdone]; simp)
        have hq:∀ h',Upd (fun _=>False) h h'→Q (oidR (oidL done)) h':=hq
        have he:oidL done = .ok (((40 * a+b) :: l).flatMap arcS):=by
          rw [hdone]; unfold oidL; simp only; rw [if_neg hg]
        rw [he] at hq
        obtain ⟨id,ver,off,cap,blk,hv,RA⟩:=A.arr.rd.at (by rw [hdone]; simp)
        have hidv:h2.length≤id:=A.new id (by rw [hv] <;> rfl)
        have h0':done[0]? = some a:=by rw [hdone] <;> rfl
        have h1':done[1]? = some b:=by rw [hdone] <;> rfl
        have hlen2:2≤done.length:=by rw [hdone]; simp
        rw [hv]
        refine Y3.i1 ?_
        simp only [Y3.t1,Y3.j2]
        refine bif_f rfl (st_idx RA (i:=0) (by omega) (st_num RA (by omega) h0' ?_))
        refine withI_is (n:=((40 * a:Nat):Int)) (by rw [wrap_i64 (by omega) (by omega)]; omega) (st_idx RA (i:=1) (by omega) (st_num RA (by omega) h1' ?_))
        refine withI_is (n:=((40 * a+b:Nat):Int)) (by rw [wrap_i64 (by omega) (by omega)]; omega) ?_
        refine RA.drop Nat.one_pos (lo:=2) hlen2 ?_
        refine NewA.one (Upd.refl _ _) (x:=num (40 * a+b)) rfl fun v2 h3 A2 Ux Fx=>?_
        have RA3:=RA.upd Ux fun h=>h
        refine RA3.drop Nat.one_pos (lo:=2) hlen2 ⟨rfl,st_num RA3 (by omega) h1' ⟨rfl,st_idx RA3 (i:=1) (by omega) ⟨rfl,st_num RA3 (by omega) h0' ⟨rfl,st_idx RA3 (i:=0) (by omega) ⟨rfl, ?_⟩⟩⟩⟩⟩
        have RD:=RA3.dropRd (lo:=2) hlen2 (cap.map (· - 2))
        have hdr:(done.map num).drop (2 * 1)=l.map num:=by rw [hdone] <;> rfl
        rw [hdr] at RD
        refine A2.append Nat.one_pos (ns:=l.map num) (k:=done.length - 2) (fun K hK=>RD.news hK) (by rw [hdone]; simp) (by simp [num,AV.cellOK]) (by omega) (by omega) fun v3 h4 A3 Uy=>?_
        have RA4:=RA3.upd Uy fun hs=>by have:=Fx id hs; have:=RA.lt; omega
        refine st_num RA4 (by omega) h1' ⟨rfl,st_idx RA4 (i:=1) (by omega) ⟨rfl,st_num RA4 (by omega) h0' ⟨rfl,st_idx RA4 (i:=0) (by omega) ⟨rfl,A3.arr.rd.len ?_⟩⟩⟩⟩
        have U4:=A3.upd
        have e:1+(done.length - 2)=((40 * a+b) :: l).length:=by rw [hdone]; simp; omega
        rw [e]
        refine oid_p2 (l:=(40 * a+b) :: l) (h1:=h1) (Nat.le_refl _) U1 (U3.trans U4 fun _ _ h=>h) (R3.upd U4 fun h=>h) ?_ ?_ ?_ hq _ 0 _ [] h4 rfl (by omega) (by simp) rfl (Tx.start h4)
        · have := A3.arr.rd
          rw [e] at this
          exact this
        · rw [← e]; omega
        · intro n hn
          rcases List.mem_cons.1 hn with rfl | hn
          · omega
          · exact hbd n (by rw [hdone]; simp [hn])
      by_cases hl2:done.length<2
      · exact bif_t (by simp; omega) (p1bad (oidL_short hl2))
      refine bif_f (by simp; omega) ?_
      obtain ⟨a,b,l,hdone⟩:=two_of hl2
      have h0':done[0]? = some a:=by rw [hdone] <;> rfl
      have h1':done[1]? = some b:=by rw [hdone] <;> rfl
      have ha:=hbd a (by rw [hdone]; simp)
      have hb:=hbd b (by rw [hdone]; simp)
      have p1:∀ bb:Bool,(bb=true↔(2<a∨(a<2∧40≤b)∨268435456≤40 * a+b))→Y3.p1 (kRet h Q) (.p (some ⟨h.length,5,0⟩)) v bb hx:=by
        intro bb hbb
        cases bb with
        | true =>
          refine p1bad ?_
          rw [hdone]; unfold oidL; simp only
          rw [if_pos (hbb.1 rfl)]
        | false=>exact p1ok a b l hdone (fun hh=>by have:=hbb.2 hh; cases this)
      have RV:=A.arr.rd
      refine RV.nat (i:=0) (by omega) h0' ?_
      refine bif_both (fun e1=>p1 _ ?_) fun e1=>RV.nat (i:=0) (by omega) h0' ?_
      · simp only [decide_eq_true_eq] at e1; simp; omega
      simp only [decide_eq_false_iff_not] at e1
      have fin:∀ K:Int→Prop,K ((40 * a+b:Nat):Int)→pIdxAddrSl 1 v (.i .i64 0) hx fun v52=>pLoad1 v52 hx fun v53=>asI .i64 v53 fun n54=>withI (IntKind.wrap .i64 (40 * n54)) fun n55=>pIdxAddrSl 1 v (.i .i64 1) hx fun v56=>pLoad1 v56 hx fun v57=>asI .i64 v57 fun n58=>withI (IntKind.wrap .i64 (n55+n58)) K:=by
        intro K hK
        refine RV.nat (i:=0) (by omega) h0' ?_
        refine withI_is (n:=((40 * a:Nat):Int)) (by rw [wrap_i64 (by omega) (by omega)]; omega) (RV.nat (i:=1) (by omega) h1' ?_)
        exact withI_is (n:=((40 * a+b:Nat):Int)) (by rw [wrap_i64 (by omega) (by omega)]; omega) hK
      refine bif_both (fun e2=>RV.nat (i:=1) (by omega) h1' ?_) fun e2=>fin _ (p1 _ ?_)
      · simp only [decide_eq_true_eq] at e2
        refine bif_both (fun e3=>p1 _ ?_) fun e3=>fin _ (p1 _ ?_)
        · simp only [decide_eq_true_eq] at e3; simp; omega
        · simp only [decide_eq_false_iff_not] at e3
          rw [decide_eq_true_eq]; omega
      · simp only [decide_eq_false_iff_not] at e2
        rw [decide_eq_true_eq]; omega
    | cons x r ih =>
      intro i done v hx hr hi hdl hd A
      have hlt:=drop_lt hr
      have hn:=drop_next hr
      have hxi:=at_of_drop hr
      have W':=W.upd A.upd fun _ _ h=>h
      refine Y3.i0 ?_
      simp only [Y3.t0,Y3.j0]
      refine bif_t (by simp; omega) (W'.str hxi (number_c ?_))
      rw [decAll_cons] at hd
      cases hx2:decN x with
      | none =>
        rw [hx2] at hd
        intro y
        show pExtract 0 (.tu [.i .i64 y,.b false]) _
        refine st_ext0 (st_asI (st_ext1 (st_asB (bif_t rfl (bad hx A.upd (by rw [hd]))))))
      | some n =>
        rw [hx2] at hd
        simp only at hd
        unfold NOut
        show pExtract 0 (.tu [.i .i64 (n:Int),.b true]) _
        refine st_ext0 (st_asI (st_ext1 (st_asB (bif_f rfl ?_))))
        refine NewA.build A (by decide) (ns:=[num n]) rfl rfl rfl (by omega) (by omega) fun v' h' A'=>inc (by omega) (ih (i+1) (done++[n]) v' h' hn (by omega) (by simp [hdl]) ?_ ?_)
        · rw [hd]
          cases decAll r with
          | none=>rfl
          | some l=>simp
        · rw [List.map_append,List.length_append]; exact A'
  exact go ws 0 [] _ h2 rfl (by omega) rfl (by cases decAll ws <;> simp) (NewA.start 1 h2)
end
end Go.Proofs.YtcdkpkkdolmfdaaGreatDoor
namespace Go.Proofs.YtcdkpkkdolmfdaaGreatDoor
open Go.GAM Go.RowKit
section
variable {h0:AHeap} {Q:AV→AHeap→Prop}
theorem oid_p4 {l:List Nat} {w:AV} {h hx:AHeap} (E:Ext h hx) (W:Rd 1 hx w (l.map num) l.length) (hl:l.length≤100000) (hb:∀ n∈l,n<268435456):∀ (r:List Nat) (i:Nat) (x:List UInt8),l.drop i=r→i≤l.length→x.length≤30+11 * i →
    Q (.tu [.s (x++r.flatMap fun n=>46 :: Lib.decDigits n),.b true]) h→Y5.p4 (kRet h Q) x w l.length i hx:=by
  intro r
  induction r with
  | nil =>
    intro i x hr hi hxl hq
    have hle:=drop_end hr
    refine Y5.i4 ?_
    simp only [Y5.t4]
    refine bif_f (by simp; omega) (kRet_pure rfl E ?_)
    simpa using hq
  | cons n r ih =>
    intro i x hr hi hxl hq
    have hlt:=drop_lt hr
    have hn:=drop_next hr
    have hni:=at_of_drop hr
    have hnb:=hb n (List.mem_of_getElem? hni)
    have d1:=decDigits_len (n:=n) (by omega)
    refine Y5.i4 ?_
    simp only [Y5.t4,Y5.j4]
    refine bif_t (by simp; omega) (W.nat hlt hni (itoa_c (by omega) (st_asS ⟨by simp; omega,⟨by simp; omega,inc (by omega) ?_⟩⟩)))
    refine ih (i+1) _ hn (by omega) (by simp; omega) ?_
    simpa [List.flatMap_cons] using hq
theorem or_add {x y:Nat} (hy:y<128) (hx:x<268435456):bitsOp .or .i64 ((x * 128:Nat):Int) (y:Int)=((x * 128+y:Nat):Int):=by
  rw [bits_or (by omega) (by omega)]
  have:=Nat.two_pow_add_eq_or_of_lt (i:=7) (b:=y) (by omega) x
  rw [Nat.mul_comm x 128,this]
theorem oid_loop {s : List UInt8} {cs : List AV} {h h1 : AHeap} {id : Nat} (E : Ext h h1) (B : RecAt h1 id cs) (hcl : cs.length = 5) (hc3 : cs[3]? = some (.s s)) (hs : s.length ≤ 100000) (hne : s ≠ []) :
    ∀ (r:List UInt8) (i n:Nat) (begun:Bool) (done:List Nat) (v:AV) (hx:AHeap),s.drop i=r→i≤s.length→n<268435456→(begun=false→i=0∨done≠[])→done.length≤i→(∀ m∈done,m<268435456)→NewA 1 h1 hx v (done.map num) done.length →
    Q (oidT (oidX (oidD r n begun) done)) h→Y5.p1 (kRet h Q) (.p (some ⟨id,5,0⟩)) v n begun s.length i hx:=by
  intro r
  induction r with
  | nil =>
    intro i n begun done v hx hr hi hn hb hd hbd A hq
    have hle:=drop_end hr
    have Ex:=E.trans A.upd.ext
    refine Y5.i1 ?_
    simp only [Y5.t1,Y5.j4]
    refine bif_f (by simp; omega) ?_
    cases begun with
    | true=>exact bif_t rfl (kRet_pure rfl Ex hq)
    | false =>
      have hlp:=List.length_pos_iff.2 hne
      have hdn:done≠[]:=by
        rcases hb rfl with h | h
        · omega
        · exact h
      obtain ⟨z,dn,hdone⟩:∃ z dn,done=z :: dn:=by
        cases done with
        | nil=>exact absurd rfl hdn
        | cons z dn=>exact ⟨z,dn,rfl⟩
      have hzb:=hbd z (by rw [hdone]; simp)
      have hdl:done.length=dn.length+1:=by rw [hdone]; simp
      obtain ⟨id',ver,off,cap,blk,hv,RA⟩:=A.arr.rd.at (by omega)
      have hz0:done[0]? = some z:=by rw [hdone] <;> rfl
      have d1:=decDigits_len (n:=min (z / 40) 2) (by omega)
      have d2:=decDigits_len (n:=z - 40 * min (z / 40) 2) (by omega)
      rw [hv]
      refine bif_f rfl (st_idx RA (i:=0) (by omega) (st_num RA (by omega) hz0 (quo_n (b:=40) (by omega) (by omega) ?_)))
      rw [show mmI false 2 ((z / 40:Nat):Int)=((min (z / 40) 2:Nat):Int) by rw [Nat.min_comm]; exact mmI_min 2 _]
      refine st_idx RA (i:=0) (by omega) (st_num RA (by omega) hz0 ?_)
      refine withI_is (n:=((40 * min (z / 40) 2:Nat):Int)) (by rw [wrap_i64 (by omega) (by omega)]; omega) ?_
      refine withI_is (n:=((z - 40 * min (z / 40) 2:Nat):Int)) (by rw [wrap_i64 (by omega) (by omega)]; omega) ?_
      refine itoa_c (by omega) (st_asS (st_num RA (by omega) hz0 ⟨rfl,st_idx RA (i:=0) (by omega) ⟨rfl,⟨by simp; omega, ?_⟩⟩⟩))
      refine itoa_c (by omega) (st_asS (st_num RA (by omega) hz0 ⟨rfl,st_idx RA (i:=0) (by omega) ⟨rfl,⟨by simp; omega, ?_⟩⟩⟩))
      have RD:=RA.dropRd (lo:=1) (by omega) (cap.map (· - 1))
      have hdr:(done.map num).drop (1 * 1)=dn.map num:=by rw [hdone] <;> rfl
      rw [hdr,show done.length - 1=dn.length by omega] at RD
      refine RA.drop Nat.one_pos (lo:=1) (by omega) ?_
      rw [show done.length - 1=dn.length by omega]
      refine RD.len (oid_p4 Ex RD (by omega) (fun m hm=>hbd m (by rw [hdone]; simp [hm])) dn 0 _ rfl (by omega) (by simp; omega) ?_)
      have hq:Q (.tu [.s (oidTxt (done++[])),.b true]) h:=hq
      rw [List.append_nil,hdone] at hq
      simpa [oidTxt] using hq
  | cons c r ih =>
    intro i n begun done v hx hr hi hn hb hd hbd A hq
    have hlt:=drop_lt hr
    have hnx:=drop_next hr
    have hci:=at_of_drop hr
    have hc:=c.toNat_lt
    have Ex:=E.trans A.upd.ext
    have Bx:=B.upd A.upd fun h=>h
    have hm:=Nat.mod_lt c.toNat (show 0<128 by omega)
    have p3:∀ (o:List Nat) (n':Nat) (b':Bool) (v':AV) (h':AHeap),n'<268435456→(b'=false→o≠[])→o.length≤i+1→(∀ m∈o,m<268435456)→NewA 1 h1 h' v' (o.map num) o.length→Q (oidT (oidX (oidD r n' b') o)) h→Y5.p3 (kRet h Q) (.p (some ⟨id,5,0⟩)) v' n' b' s.length i h':=by
      intro o n' b' v' h' hn' hb' ho hob A' hq
      refine Y5.i3 ?_
      simp only [Y5.t3,Y5.j1]
      exact inc (by omega) (ih (i+1) n' b' o v' h' hnx (by omega) hn' (fun hh=>.inr (hb' hh)) ho hob A' hq)
    have p2 : ∀ b, b = decide (begun = false ∧ c.toNat = 128) → Y5.p2 (kRet h Q) (.p (some ⟨id, 5, 0⟩)) v n (c.toNat : Int) s.length i b hx := by
      intro b hbb
      unfold oidD at hq
      refine Y5.i2 ?_
      simp only [Y5.t2,Y5.j3]
      refine bif_both (fun e=>?_) fun e=>?_
      · subst e
        rw [if_pos (of_decide_eq_true hbb.symm)] at hq
        exact kRet_pure rfl Ex hq
      · subst e
        rw [if_neg (of_decide_eq_false hbb.symm)] at hq
        refine st_shlI (b:=7) (n:=((n * 128:Nat):Int)) (by omega) (by omega) (by omega) (by omega) ?_
        refine withI_is (and127 (by omega)) (withI_is (or_add hm hn) ?_)
        by_cases h28:268435456≤n * 128+c.toNat % 128
        · rw [if_pos h28] at hq
          exact bif_t (by simp; omega) (kRet_pure rfl Ex hq)
        rw [if_neg h28] at hq
        refine bif_f (by simp; omega) ?_
        by_cases h128:128≤c.toNat
        · rw [if_pos h128] at hq
          have e128:decide ((128:Int)≤(c.toNat:Int))=true:=decide_eq_true (by omega)
          rw [e128]
          exact bif_f rfl (p3 done _ true v hx (by omega) (fun hh=>by cases hh) (by omega) hbd A hq)
        rw [if_neg h128] at hq
        have e128:decide ((128:Int)≤(c.toNat:Int))=false:=decide_eq_false (by omega)
        rw [e128]
        generalize n * 128+c.toNat % 128=z at *
        have hq:Q (oidT (oidX (oidD r 0 false) (done++[z]))) h:=by
          have:oidX (match oidD r 0 false with | none=>none | some l=>some (z :: l)) done=oidX (oidD r 0 false) (done++[z]):=by
            cases oidD r 0 false <;> simp [oidX]
          rw [← this]; exact hq
        refine bif_t rfl (NewA.build A (by decide) (ns:=[num z]) rfl rfl rfl (by omega) (by omega) fun v' h' A'=>?_)
        refine p3 (done++[z]) 0 false v' h' (by omega) (fun _=>by simp) (by simp; omega) ?_ ?_ hq
        · intro m hm
          rcases List.mem_append.1 hm with h | h
          · exact hbd m h
          · simp at h; omega
        · rw [List.map_append,List.length_append]; exact A'
    refine Y5.i1 ?_
    simp only [Y5.t1,Y5.j2]
    refine bif_t (by simp; omega) (st_fld (st_load Bx hcl.symm hc3 (st_asS (st_at hr ?_))))
    rw [wrap_i64 (by omega) (by omega)]
    cases begun with
    | false=>exact bif_t rfl (p2 _ (by rw [decide_eq_decide]; simp; omega))
    | true=>exact bif_f rfl (p2 _ (by simp))
theorem oid_c {d:Der} {cs:List AV} {F:Nat→Prop} {h:AHeap} (D:DV h F d cs) (hs:d.data.length≤100000) (hq:Q (oidT (oidS d)) h):C Y5.id [.ag cs] h Q:=by
  refine Y5.call ?_
  simp only [Y5.t,Y5.j0]
  refine D.box fun h1 hl1 U1 B D1=>st_loadN B D.len.symm ((plain_c D1 (st_asB ?_)))
  unfold oidS at hq
  have hc3:=D.dat
  have hcl:=D.len
  generalize d.data=s at *
  refine bif_both (fun e=>?_) fun e=>st_fld (st_load B hcl.symm hc3 (st_asS ?_))
  · refine Y5.i0 ?_
    simp only [Y5.t0]
    rw [if_neg (fun hh=>by rw [hh.1] at e; cases e)] at hq
    exact bif_t rfl (kRet_pure rfl U1.ext hq)
  have hp:dPlain 6 d=true:=by simpa using e
  refine Y5.i0 ?_
  simp only [Y5.t0,Y5.j1]
  by_cases hne:s=[]
  · rw [if_neg (fun hh => hh.2 hne)] at hq
    exact bif_t (by simp [hne]) (kRet_pure rfl U1.ext hq)
  rw [if_pos ⟨hp,hne⟩] at hq
  refine bif_f (by simp [hne]) (st_fld (st_load B hcl.symm hc3 (st_asS ?_)))
  refine oid_loop U1.ext B hcl hc3 hs hne s 0 0 false [] _ h1 rfl (by omega) (by omega) (fun _=>.inl rfl) (by simp) (by simp) (NewA.start 1 h1) ?_
  have:oidX (oidD s 0 false) []=(match oidD s 0 false with | none=>([],false) | some l=>(oidTxt l,true)):=by
    cases oidD s 0 false <;> rfl
  rw [this]; exact hq
end
end Go.Proofs.YtcdkpkkdolmfdaaGreatDoor
namespace Go.Proofs.YtcdkpkkdolmfdaaGreatDoor
open Go.GAM Go.RowKit
section
variable {h0:AHeap} {Q:AV→AHeap→Prop}
theorem all_byte_c {f : Nat} {p : UInt8 → Bool} {v : AV} {l : List UInt8} {h : AHeap} (hf : Nat.blt f yid0 = true) (hc : ∀ (c : UInt8) (h : AHeap) (K : AV → AHeap → Prop), K (.b (p c)) h → C f [.i .u8 (c.toNat : Int)] h K) (B : Byt h v l) (hl : l.length ≤ 100000) (hq : Q (.b (l.all p)) h) :
    C Y31.id [v,.fn (.func f) [] []] h Q:=by
  refine Y31.call ?_
  simp only [Y31.t,Y31.j0]
  refine Rd.len B ?_
  have go:∀ (r:List UInt8) (i:Nat),l.drop i=r→i≤l.length→(l.all p=r.all p)→Y31.p0 (kRet h Q) (.fn (.func f) [] []) v l.length i h:=by
    intro r
    induction r with
    | nil =>
      intro i hr hi he
      have:=drop_end hr
      refine Y31.i0 ?_
      simp only [Y31.t0]
      rw [he] at hq
      exact bif_f (by simp; omega) (.inl hq)
    | cons c r ih =>
      intro i hr hi he
      have hlt:=drop_lt hr
      have hn:=drop_next hr
      refine Y31.i0 ?_
      simp only [Y31.t0,Y31.j0]
      refine bif_t (by simp; omega) (Rd.byte B (at_of_drop hr) (callV_c hf (hc c h _ (st_asB ?_))))
      rw [List.all_cons] at he
      cases hp:p c with
      | false =>
        rw [hp] at he
        rw [he] at hq
        exact bif_t rfl (.inl hq)
      | true =>
        rw [hp,Bool.true_and] at he
        exact bif_f rfl (inc (by omega) (ih (i+1) hn (by omega) he))
  exact go l 0 rfl (by omega) rfl
def textB (c:UInt8):Bool:=decide (32≤c.toNat)&&decide (c.toNat≤126)
def dtxtS (d:Der):List UInt8 × Bool:=if (dPlain 12 d||(dPlain 19 d||dPlain 22 d))=true∧d.data.all textB=true then (d.data,true) else ([],false)
def textR (x:List UInt8 × Bool):AV:=.tu [.s x.1,.b x.2]
theorem text1_c (c:UInt8) (h:AHeap) (K:AV→AHeap→Prop) (hk:K (.b (textB c)) h):C Y40.id [.i .u8 (c.toNat:Int)] h K:=by
  refine Y40.call ?_
  simp only [Y40.t,Y40.j0]
  have p0:∀ b,b=textB c→Y40.p0 (kRet h K) b h:=by
    intro b hb
    refine Y40.i0 ?_
    simp only [Y40.t0]
    subst hb
    exact .inl hk
  unfold textB at p0
  refine bif_both (fun e=>p0 _ ?_) fun e=>p0 _ ?_
  · simp only [decide_eq_true_eq] at e
    rw [decide_eq_true (by omega:32≤c.toNat),Bool.true_and,decide_eq_decide]; omega
  · simp only [decide_eq_false_iff_not] at e
    rw [decide_eq_false (by omega:¬ 32≤c.toNat)] <;> rfl
theorem dtxt_c {d : Der} {cs : List AV} {F : Nat → Prop} {h : AHeap} (D : DV h F d cs) (hs : d.data.length ≤ 100000) (hq : Q (textR (dtxtS d)) h) : C Y39.id [.ag cs] h Q := by
  refine Y39.call ?_
  simp only [Y39.t,Y39.j0]
  refine D.box fun h1 hl1 U1 B D1=>?_
  unfold dtxtS at hq
  have p0:∀ b,b = !(dPlain 12 d||(dPlain 19 d||dPlain 22 d))→Y39.p0 (kRet h Q) (.p (some ⟨h.length,5,0⟩)) b h1:=by
    intro b hb
    refine Y39.i0 ?_
    simp only [Y39.t0]
    refine bif_both (fun e=>?_) fun e=>?_
    · subst e
      rw [if_neg (fun hh=>by rw [hh.1] at hb; cases hb)] at hq
      exact kRet_pure rfl U1.ext hq
    · subst e
      have hp:(dPlain 12 d||(dPlain 19 d||dPlain 22 d))=true:=by
        revert hb
        generalize (dPlain 12 d||(dPlain 19 d||dPlain 22 d))=x
        cases x <;> simp
      refine st_fld (st_load B D.len.symm D.dat (st_asS (Tx.ofStr fun v h2 T=>?_)))
      refine all_byte_c (p:=textB) rfl text1_c T.byt hs (st_asB ?_)
      have E:=(U1.trans T.upd fun _ _ h=>h).ext
      have B2:=B.upd T.upd fun h=>h
      cases ha:d.data.all textB with
      | false =>
        rw [if_neg (fun hh=>by rw [ha] at hh; cases hh.2)] at hq
        exact bif_t rfl (kRet_pure rfl E hq)
      | true =>
        rw [if_pos ⟨hp,ha⟩] at hq
        exact bif_f rfl (st_fld (st_load B2 D.len.symm D.dat (st_asS (kRet_pure rfl E hq))))
  refine st_loadN B D.len.symm (plain_c D1 (st_asB ?_))
  refine bif_both (fun e=>st_loadN B D.len.symm (plain_c D1 (st_asB ?_))) fun e=>p0 _ ?_
  · have e : dPlain 12 d = false := by simpa using e
    rw [e,Bool.false_or] at p0
    refine bif_both (fun e=>st_loadN B D.len.symm (plain_c D1 (st_asB (p0 _ ?_)))) fun e=>p0 _ ?_
    · have e : dPlain 19 d = false := by simpa using e
      rw [e] <;> rfl
    · have e : dPlain 19 d = true := by simpa using e
      rw [e] <;> rfl
  · have e : dPlain 12 d = true := by simpa using e
    rw [e] <;> rfl
end
end Go.Proofs.YtcdkpkkdolmfdaaGreatDoor
namespace Go.GAM
end Go.GAM
namespace Go.Proofs.YtcdkpkkdolmfdaaGreatDoor
open Go.GAM Go.RowKit
section
variable {h0:AHeap} {Q:AV→AHeap→Prop}
end
end Go.Proofs.YtcdkpkkdolmfdaaGreatDoor
namespace Go.Proofs.YtcdkpkkdolmfdaaGreatDoor
open Go.GAM Go.RowKit
def numS (l:List UInt8):Nat:=l.foldl (fun n c=>n * 256+c.toNat) 0
theorem numS_snoc (l:List UInt8) (c:UInt8):numS (l++[c])=numS l * 256+c.toNat:=by simp [numS]
theorem numS_bd (l:List UInt8):numS l<256 ^ l.length:=by
  have:∀ n (l:List UInt8),l.length=n→numS l<256 ^ n:=by
    intro n
    induction n with
    | zero=>intro l hl; rw [List.eq_nil_of_length_eq_zero hl]; decide
    | succ n ih =>
      intro l hl
      have hne:l≠[]:=fun h=>by rw [h] at hl; simp at hl
      rw [← List.dropLast_concat_getLast hne,numS_snoc]
      have h1:=ih l.dropLast (by rw [List.length_dropLast]; omega)
      have h2:=(l.getLast hne).toNat_lt
      rw [Nat.pow_succ]
      omega
  exact this _ l rfl
theorem numS_bd3 {l:List UInt8} (h:l.length≤3):numS l<16777216:=by
  have h1:=numS_bd l
  have h2:256 ^ l.length≤256 ^ 3:=Nat.pow_le_pow_right (by omega) h
  omega
def lenS : List UInt8 → Except Int (Nat × List UInt8)
  | []=>.error 1
  | c :: r => if c.toNat < 128 then .ok (c.toNat, r) else
    if c.toNat - 128<1∨3<c.toNat - 128 then .error 2 else
    if r.length<c.toNat - 128 then .error 1 else
    if numS (r.take (c.toNat - 128))<128∨numS (r.take (c.toNat - 128))<2 ^ (8 * (c.toNat - 128 - 1)) then .error 2 else .ok (numS (r.take (c.toNat - 128)),r.drop (c.toNat - 128))
theorem lenS_short {s r : List UInt8} {n : Nat} (h : lenS s = .ok (n, r)) : r.length < s.length ∧ n < 16777216 := by
  cases s with
  | nil=>cases h
  | cons c s =>
    have hc:=c.toNat_lt
    rw [lenS] at h
    split at h
    · cases h; exact ⟨by simp,by omega⟩
    · split at h
      · cases h
      · split at h
        · cases h
        · split at h
          · cases h
          · cases h
            exact ⟨by simp only [List.length_drop,List.length_cons]; omega,numS_bd3 (by rw [List.length_take]; omega)⟩
def lenR:Except Int (Nat × List UInt8)→AV
  | .error e=>.tu [.i .i64 0,.s [],.i .i64 e]
  | .ok (n,r)=>.tu [.i .i64 (n:Int),.s r,.i .i64 0]
section
variable {s:List UInt8} {h0:AHeap} {Q:AV→AHeap→Prop}
theorem length_p1 {k : Nat} {h : AHeap} (hk1 : 1 ≤ k) (hk3 : k ≤ 3) (hkl : k ≤ s.length) (hs : s.length ≤ 100000)
    (hq:Q (lenR (if numS (s.take k)<128∨numS (s.take k)<2 ^ (8 * (k - 1)) then .error 2 else .ok (numS (s.take k),s.drop k))) h) :
    ∀ m i,i+m=k→Y20.p1 (kRet h Q) s (numS (s.take i):Nat) k k i h:=by
  intro m
  induction m with
  | zero =>
    intro i hi
    have:i=k:=by omega
    subst this
    have hb:=numS_bd3 (l:=s.take i) (by simp; omega)
    refine Y20.i1 ?_
    simp only [Y20.t1,Y20.j2]
    refine bif_f (by simp) ?_
    have fin:∀ b,b=decide (numS (s.take i)<128∨numS (s.take i)<2 ^ (8 * (i - 1)))→Y20.p2 (kRet h Q) s (numS (s.take i):Nat) i b h:=by
      intro b hb2
      refine Y20.i2 ?_
      simp only [Y20.t2]
      refine bif_both (fun e=>?_) fun e=>st_subs (by omega) ?_
      · subst e
        rw [if_pos (by simpa using hb2.symm)] at hq
        exact .inl hq
      · subst e
        rw [if_neg (by simpa using hb2.symm)] at hq
        exact .inl hq
    refine bif_both (fun e=>fin _ ?_) fun e=>?_
    · have : numS (s.take i) < 128 := by simp only [decide_eq_true_eq] at e; omega
      simp [this]
    · have h128 : ¬ numS (s.take i) < 128 := by simp only [decide_eq_false_iff_not] at e; omega
      refine withI_is (n:=((i - 1:Nat):Int)) (by rw [wrap_i64 (by omega) (by omega)]; omega) ?_
      refine withI_is (n:=((8 * (i - 1):Nat):Int)) (by rw [wrap_i64 (by omega) (by omega)]; omega) ?_
      refine st_shr (k:=.i64) (by show 8 * (i - 1)≤64; omega) (fin _ ?_)
      rw [decide_eq_decide]
      have hp:0<2 ^ (8 * (i - 1)):=Nat.two_pow_pos _
      constructor
      · intro h
        have h':numS (s.take i) / 2 ^ (8 * (i - 1))=0:=by
          generalize numS (s.take i) / 2 ^ (8 * (i - 1))=y at h
          omega
        rcases Nat.div_eq_zero_iff.1 h' with h | h
        · omega
        · exact .inr h
      · intro h
        rw [Nat.div_eq_of_lt (h.resolve_left h128)] <;> rfl
  | succ m ih =>
    intro i hi
    obtain ⟨c,hc⟩:∃ c,s[i]? = some c:=⟨_,List.getElem?_eq_getElem (by omega)⟩
    have hcl:=c.toNat_lt
    have hb:=numS_bd (s.take i)
    rw [List.length_take,Nat.min_eq_left (by omega)] at hb
    have hb2:256 ^ i≤256 ^ 2:=Nat.pow_le_pow_right (by omega) (by omega)
    refine Y20.i1 ?_
    simp only [Y20.t1,Y20.j1]
    refine bif_t (by simp; omega) ?_
    refine st_shl (b:=8) (by omega) (by omega) (idxStr hc ?_)
    refine withI_is (n:=((numS (s.take (i+1)):Nat):Int)) ?_ (inc (by omega) (ih (i+1) (by omega)))
    rw [take_snoc hc,numS_snoc,wrap_i64 (by omega) (by omega),bits_or (by omega) (by omega),Nat.mul_comm (numS _) (2 ^ 8), ← Nat.two_pow_add_eq_or_of_lt (show c.toNat<2 ^ 8 by omega),Nat.mul_comm]
theorem length_c {h : AHeap} (hs : s.length ≤ 100000) (hq : Q (lenR (lenS s)) h) : C Y20.id [.s s] h Q := by
  refine Y20.call ?_
  simp only [Y20.t,Y20.j0]
  cases s with
  | nil=>exact bif_t rfl (.inl hq)
  | cons c r =>
    have hc:=c.toNat_lt
    rw [lenS] at hq
    refine bif_f (by simp) (st_at (i:=0) rfl (st_subs (lo:=1) (by simp) ?_))
    rw [wrap_i64 (by omega) (by omega)]
    refine bif_both (fun e=>?_) fun e=>?_
    · rw [if_pos (by simp only [decide_eq_true_eq] at e; omega)] at hq
      exact .inl hq
    · have h128 : ¬ c.toNat < 128 := by simp only [decide_eq_false_iff_not] at e; omega
      rw [if_neg h128] at hq
      refine withI_is (n:=((c.toNat - 128:Nat):Int)) (by rw [wrap_i64 (by omega) (by omega)]; omega) ?_
      generalize hk:c.toNat - 128=k at hq
      have p0:∀ b,b=decide (k<1∨3<k)→Y20.p0 (kRet h Q) r k b h:=by
        intro b hb
        refine Y20.i0 ?_
        simp only [Y20.t0,Y20.j1]
        refine bif_both (fun e=>?_) fun e=>?_
        · subst e
          rw [if_pos (by simpa using hb.symm)] at hq
          exact .inl hq
        · subst e
          have hk13:¬ (k<1∨3<k):=by simpa using hb.symm
          rw [if_neg hk13] at hq
          refine bif_both (fun e=>?_) fun e=>?_
          · rw [if_pos (by simp only [decide_eq_true_eq] at e; omega)] at hq
            exact .inl hq
          · have hkr : ¬ r.length < k := by simp only [decide_eq_false_iff_not] at e; omega
            rw [if_neg hkr] at hq
            exact length_p1 (by omega) (by omega) (by omega) (by simp at hs; omega) hq k 0 (by omega)
      refine bif_both (fun e=>p0 _ ?_) fun e=>p0 _ ?_
      · have : k < 1 := by simp only [decide_eq_true_eq] at e; omega
        simp [this]
      · have : ¬ k < 1 := by simp only [decide_eq_false_iff_not] at e; omega
        rw [decide_eq_decide]; omega
end
end Go.Proofs.YtcdkpkkdolmfdaaGreatDoor
namespace Go.Proofs.YtcdkpkkdolmfdaaGreatDoor
open Go.GAM Go.RowKit
mutual
def decV : Nat → Nat → Nat → List UInt8 → Except Int (Der × List UInt8 × Nat)
  | 0,_,_,_=>.error 0
  | f + 1, lvl, n, s => match s with
    | []=>.error 1
    | c :: r => if c.toNat % 32 = 31 then .error 2 else if 24 < lvl then .error 9 else if 256 < n + 1 then .error 3 else
      match lenS r with
      | .error e=>.error e
      | .ok (k, t) => if t.length < k then .error 1 else
        if c.toNat / 32 % 2=0 then .ok (.mk (c.toNat / 64:Nat) (c.toNat % 32:Nat) false (t.take k) [],t.drop k,n+1) else
        match decK f lvl (n+1) (t.take k) with
        | .error e=>.error e
        | .ok (ks,n')=>.ok (.mk (c.toNat / 64:Nat) (c.toNat % 32:Nat) true [] ks,t.drop k,n')
def decK : Nat → Nat → Nat → List UInt8 → Except Int (List Der × Nat)
  | 0,_,_,_=>.error 0
  | f + 1, lvl, n, s => match s with
    | []=>.ok ([],n)
    | c :: r => match decV f (lvl + 1) n (c :: r) with
      | .error e=>.error e
      | .ok (d, t, n') => match decK f lvl n' t with
        | .error e=>.error e
        | .ok (ks,n'')=>.ok (d :: ks,n'')
end
def decS (s : List UInt8) : Except Int Der :=
  if 65535<s.length then .error 3 else match decV (2 * s.length+1) 1 0 s with
    | .error e=>.error e
    | .ok (d,r,_)=>if r=[] then .ok d else .error 2
theorem dec_short : ∀ f, (∀ lvl n s d r n', decV f lvl n s = .ok (d, r, n') → r.length < s.length ∧ n' ≤ 256 ∧ d.sz + r.length ≤ s.length) ∧ (∀ lvl n s ks n', decK f lvl n s = .ok (ks, n') → (n' ≤ n ∨ n' ≤ 256) ∧ szs ks ≤ s.length) := by
  intro f
  induction f with
  | zero =>
    refine ⟨fun lvl n s d r n' h=>?_,fun lvl n s ks n' h=>?_⟩
    · unfold decV at h; cases h
    · unfold decK at h; cases h
  | succ f ih =>
    refine ⟨fun lvl n s d r n' h=>?_,fun lvl n s ks n' h=>?_⟩
    · unfold decV at h
      cases s with
      | nil=>cases h
      | cons c s =>
        simp only at h
        split at h
        · cases h
        split at h
        · cases h
        split at h
        · cases h
        split at h
        · cases h
        · rename_i k t hl
          have hl:=lenS_short hl
          split at h
          · cases h
          · split at h
            · cases h
              refine ⟨by simp only [List.length_drop,List.length_cons]; omega,by omega, ?_⟩
              simp only [Der.sz,szs,List.length_drop,List.length_cons]; omega
            · split at h
              · cases h
              · rename_i ks n2 hk
                cases h
                have:=ih.2 _ _ _ _ _ hk
                have h2:(t.take k).length=k:=by rw [List.length_take]; omega
                refine ⟨by simp only [List.length_drop,List.length_cons]; omega,by omega, ?_⟩
                simp only [Der.sz,List.length_cons,List.length_drop]; omega
    · unfold decK at h
      cases s with
      | nil=>cases h; simp [szs]
      | cons c s =>
        simp only at h
        split at h
        · cases h
        · rename_i d t n2 hv
          have hv:=ih.1 _ _ _ _ _ _ hv
          split at h
          · cases h
          · rename_i ks2 n3 hk
            cases h
            have hk:=ih.2 _ _ _ _ _ hk
            refine ⟨by omega, ?_⟩
            simp only [szs]; omega
theorem lenS_err {s : List UInt8} {e : Int} (h : lenS s = .error e) : e ≠ 0 := by
  cases s with
  | nil=>cases h; decide
  | cons c r =>
    rw [lenS] at h
    split at h
    · cases h
    · split at h
      · cases h; decide
      · split at h
        · cases h; decide
        · split at h
          · cases h; decide
          · cases h
theorem dec_err : ∀ f, (∀ lvl n s e, 2 * s.length + 1 ≤ f → decV f lvl n s = .error e → e ≠ 0) ∧ (∀ lvl n s e, 2 * s.length + 2 ≤ f → decK f lvl n s = .error e → e ≠ 0) := by
  intro f
  induction f with
  | zero=>exact ⟨fun lvl n s e h=>by omega,fun lvl n s e h=>by omega⟩
  | succ f ih =>
    refine ⟨fun lvl n s e hf h=>?_,fun lvl n s e hf h=>?_⟩
    · unfold decV at h
      cases s with
      | nil=>cases h; decide
      | cons c s =>
        simp only at h
        split at h
        · cases h; decide
        split at h
        · cases h; decide
        split at h
        · cases h; decide
        split at h
        · rename_i hl; cases h; exact lenS_err hl
        · rename_i k t hl
          have hl:=lenS_short hl
          split at h
          · cases h; decide
          · split at h
            · cases h
            · split at h
              · rename_i hk; cases h
                exact ih.2 _ _ _ _ (by rw [List.length_take]; simp only [List.length_cons] at hf; omega) hk
              · cases h
    · unfold decK at h
      cases s with
      | nil=>cases h
      | cons c s =>
        simp only at h
        split at h
        · rename_i hv; cases h
          exact ih.1 _ _ _ _ (by omega) hv
        · rename_i d t n2 hv
          have hv:=(dec_short f).1 _ _ _ _ _ _ hv
          split at h
          · rename_i hk; cases h
            exact ih.2 _ _ _ _ (by omega) hk
          · cases h
theorem DV.fill {h:AHeap} {F:Nat→Prop} {d:Der} {cs:List AV} (D:DV h F d cs):fillA z5 [(0,5,.ag cs)]=some cs:=by cases D; rfl
theorem DV.cells {h:AHeap} {F:Nat→Prop} {d:Der} {cs:List AV} (D:DV h F d cs):cs.all AV.cellOK=true:=by
  cases D with
  | mk _ _ _ hc=>simp [AV.cellOK] at hc ⊢; exact hc
theorem Arr.cellOK {sz:Nat} {h:AHeap} {v:AV} {cs:List AV} {n:Nat} (A:Arr sz h v cs n):v.cellOK=true:=by
  rcases A with ⟨rfl,_⟩ | ⟨id,b,rfl,_⟩ <;> rfl
theorem and31 (c:UInt8):bitsOp .and .i64 (c.toNat:Int) 31=((c.toNat % 32:Nat):Int):=by
  have hc:=c.toNat_lt
  have:=bits_and_mod (x:=c.toNat) (n:=5) (by omega) (by omega)
  exact this
theorem and32 (c:UInt8):decide (bitsOp .and .i64 (c.toNat:Int) 32=0)=decide (c.toNat / 32 % 2=0):=by
  have h:∀ n:Nat,n<256→decide (bitsOp .and .i64 (n:Int) 32=0)=decide (n / 32 % 2=0):=by decide +kernel
  exact h c.toNat c.toNat_lt
section
variable {h0:AHeap}
def VOut (id0:Nat) (h:AHeap) (Q:AV→AHeap→Prop):Except Int (Der × List UInt8 × Nat)→Prop
  | .error e=>∀ h',Upd (· = id0) h h'→Q (.tu [.ag z5,.s [],.i .i64 e]) h'
  | .ok (d,r,n)=>∀ cs h',Upd (· = id0) h h'→RecAt h' id0 [.i .i64 (n:Int)]→DV h' (fun i=>h.length≤i) d cs→Q (.tu [.ag cs,.s r,.i .i64 0]) h'
def KOut (id0 i6 i10 base:Nat) (h:AHeap) (c t:Int) (ks:List Der) (rest:List UInt8) (Q:AV→AHeap→Prop):Except Int (List Der × Nat)→Prop
  | .error e=>∀ h',Upd (fun i=>i=id0∨i=i6∨i=i10∨base≤i) h h'→Q (.tu [.ag z5,.s [],.i .i64 e]) h'
  | .ok (ks',n)=>∀ cs h',Upd (fun i=>i=id0∨i=i6∨i=i10∨base≤i) h h'→RecAt h' id0 [.i .i64 (n:Int)]→DV h' (fun i=>base≤i) (.mk c t true [] (ks++ks')) cs→Q (.tu [.ag cs,.s rest,.i .i64 0]) h'
theorem value_n : ∀ f,
    (∀ (lvl n:Nat) (s:List UInt8) (id0:Nat) (h:AHeap) (Q:AV→AHeap→Prop),2 * s.length+1≤f→s.length≤100000→lvl≤1000→n≤256→RecAt h id0 [.i .i64 (n:Int)]→VOut id0 h Q (decV f lvl n s) →
      C Y34.id [.p (some ⟨id0,1,0⟩),.s s,.i .i64 (lvl:Int)] h Q) ∧
    (∀ (lvl n:Nat) (s rest:List UInt8) (ks:List Der) (rows:List (List AV)) (v:AV) (base id0 i6 i10:Nat) (c t:Int) (z:List AV) (h0 h:AHeap) (Q:AV→AHeap→Prop),2 * s.length+2≤f→rows.length+s.length≤100000→lvl≤24→n≤256→id0<base→i6<base→i10<base→id0≠i6→id0≠i10→i6≠i10→base≤h.length →
      RecAt h id0 [.i .i64 (n:Int)]→RecAt h i6 z→z.length=5→RecAt h i10 [.i .i64 c,.i .i64 t,.b true,.s [],v]→Arr 5 h v rows.flatten rows.length→(∀ i,SlAt v i→base≤i)→DVs h (fun i=>base≤i∧¬ SlAt v i) ks rows →
      KOut id0 i6 i10 base h c t ks rest Q (decK f lvl n s) →
      Y34.p0 (kRet h0 Q) (.p (some ⟨id0,1,0⟩)) lvl (.p (some ⟨i6,5,0⟩)) (.p (some ⟨i10,5,0⟩)) s rest h):=by
  intro f
  induction f with
  | zero=>exact ⟨fun lvl n s id0 h Q hf=>by omega,fun lvl n s rest ks rows v base id0 i6 i10 c t z h0 h Q hf=>by omega⟩
  | succ f ih =>
    refine ⟨?_, ?_⟩
    · intro lvl n s id0 h Q hf hs hlv hn R hq
      refine Y34.call ?_
      simp only [Y34.t,Y34.j0]
      refine st_alloc fun h1 hl1 U1 R6=>?_
      have R0:=R.upd U1 fun h=>h
      have id0l:=R.lt
      have err:∀ (e:Int) (hx:AHeap),VOut id0 h Q (.error e)→Upd (· = id0) h hx→RecAt hx h.length z5 →
          pStore 5 (.p (some ⟨h.length,5,0⟩)) (.ag z5) hx fun h4=>pLoadN 5 (.p (some ⟨h.length,5,0⟩)) h4 fun v6=>kRet h Q (.tu [v6,.s [],.i .i64 e]) h4:=by
        intro e hx hv U Rx
        refine st_storeN Rx rfl rfl rfl fun h4 hl4 U4 R4=>st_loadN R4 rfl (.inl (hv h4 (U.trans U4 fun i hi he=>absurd he (by omega))))
      unfold decV at hq
      cases s with
      | nil=>exact bif_t rfl (err 1 h1 hq (U1.mono fun _ _ h=>h.elim) R6)
      | cons c s =>
        have hc:=c.toNat_lt
        simp only [List.length_cons] at hf hs
        refine bif_f (by simp) (st_at (i:=0) rfl ?_)
        rw [wrap_i64 (by omega) (by omega)]
        refine st_shr (k:=.i64) (b:=6) (by decide) ?_
        refine withI_is (and31 c) (withI_is rfl ?_)
        refine st_alloc fun h2 hl2 U2 R10=>?_
        refine st_storeN R10 rfl rfl rfl fun h3 hl3 U3 R10'=>?_
        have R0:=(R0.upd U2 fun h=>h).upd U3 (by omega)
        have R6:=(R6.upd U2 fun h=>h).upd U3 (by omega)
        refine st_nil (st_fld (st_load R0 rfl rfl (st_asI (inc (by omega) (st_nil (st_fld (st_store R0 rfl (by simp) rfl rfl rfl fun h4 hl4 U4 R0=>?_)))))))
        have R0:RecAt h4 id0 [.i .i64 ((n+1:Nat):Int)]:=R0
        have R6:=R6.upd U4 (by omega)
        have R10:=R10'.upd U4 (by omega)
        have U:Upd (· = id0) h h4:=(((U1.mono fun _ _ h=>h.elim).trans U2 fun _ _ h=>h.elim).trans U3 fun i hi he=>absurd he (by omega)).trans U4 fun _ _ h=>h
        refine st_fld (st_load R10 rfl rfl (st_asI ?_))
        simp only at hq
        by_cases e31:c.toNat % 32=31
        · rw [if_pos e31] at hq
          exact bif_t (by simp; omega) (err 2 h4 hq U R6)
        rw [if_neg e31] at hq
        refine bif_f (by simp; omega) ?_
        by_cases e24:24<lvl
        · rw [if_pos e24] at hq
          exact bif_t (by simp; omega) (err 9 h4 hq U R6)
        rw [if_neg e24] at hq
        refine bif_f (by simp; omega) (st_nil (st_fld (st_load R0 rfl rfl (st_asI ?_))))
        by_cases e256:256<n+1
        · rw [if_pos e256] at hq
          exact bif_t (by simp; omega) (err 3 h4 hq U R6)
        rw [if_neg e256] at hq
        refine bif_f (by simp; omega) (st_subs (lo:=1) (by simp) (length_c (by simp; omega) ?_))
        rw [show (c :: s).drop 1=s from rfl]
        cases hl:lenS s with
        | error e =>
          rw [hl] at hq
          refine st_ext0 (st_asI (st_ext1 (st_asS (st_ext2 (st_asI ?_)))))
          exact bif_t (by simp [lenS_err hl]) (err e h4 hq U R6)
        | ok x =>
          obtain ⟨k,t⟩:=x
          rw [hl] at hq
          simp only at hq
          have hsh:=lenS_short hl
          refine st_ext0 (st_asI (st_ext1 (st_asS (st_ext2 (st_asI (bif_f (by simp) ?_))))))
          by_cases hk:t.length<k
          · rw [if_pos hk] at hq
            exact bif_t (by simp; omega) (err 1 h4 hq U R6)
          rw [if_neg hk] at hq
          refine bif_f (by simp; omega) (st_subs1 (by omega) (st_subs (by omega) (st_fld (st_load R10 rfl rfl (st_asB ?_)))))
          have e32:=and32 c
          by_cases hm:c.toNat / 32 % 2=0
          · rw [if_pos hm] at hq
            rw [decide_eq_true hm] at e32
            refine bif_t (by rw [e32] <;> rfl) ?_
            refine st_fld (st_store R10 rfl (by simp) rfl rfl rfl fun h5 hl5 U5 R10=>st_loadN R10 rfl ?_)
            have R6:=R6.upd U5 (by omega)
            have R0:=R0.upd U5 (by omega)
            refine st_storeN R6 rfl rfl (by simp [AV.cellOK]) fun h6 hl6 U6 R6=>st_loadN R6 rfl (.inl ?_)
            have R0:=R0.upd U6 (by omega)
            refine hq _ h6 ((U.trans U5 fun i hi he=>absurd he (by omega)).trans U6 fun i hi he=>absurd he (by omega)) R0 ?_
            rw [e32]
            exact DV.leaf h6 _ _ _ _ _
          · rw [if_neg hm] at hq
            rw [decide_eq_false hm] at e32
            refine bif_f (by rw [e32] <;> rfl) ?_
            rw [e32] at R10
            have:=ih.2 lvl (n+1) (t.take k) (t.drop k) [] [] (.sl none 0 none) (h.length+2) id0 h.length (h.length+1) (c.toNat / 64:Nat) (c.toNat % 32:Nat) z5 h h4 Q
              (by rw [List.length_take]; omega) (by rw [List.length_take]; simp; omega) (by omega) (by omega) (by omega) (by omega) (by omega) (by omega) (by omega) (by omega) (by omega) R0 R6 rfl (by rw [← hl1]; exact R10) (Arr.nil 5 h4) (fun i hi=>hi.elim) .nil ?_
            · rw [← hl1] at this; exact this
            · cases hd : decK f lvl (n + 1) (t.take k) with
              | error e =>
                rw [hd] at hq
                exact fun h' U'=>hq h' (U.trans U' fun i hi he=>by omega)
              | ok y =>
                obtain ⟨ks,n'⟩:=y
                rw [hd] at hq
                exact fun cs h' U' R' D'=>hq cs h' (U.trans U' fun i hi he=>by omega) R' (D'.upd (Upd.refl (fun _=>False) h') fun i hi _=>⟨fun h=>h,by omega⟩)
    · intro lvl n s rest ks rows v base id0 i6 i10 c t z h0 h Q hf hs hlv hn b0 b6 b10 n06 n010 n610 hbl R0 R6 hz R10 A hvb D hq
      refine Y34.i0 ?_
      simp only [Y34.t0,Y34.j0]
      unfold decK at hq
      cases s with
      | nil =>
        refine bif_f (by simp) (st_loadN R10 rfl (st_storeN R6 hz.symm rfl (by simp [AV.cellOK]; exact Arr.cellOK A) fun h1 hl1 U1 R6=>?_))
        refine st_loadN R6 rfl (.inl (hq _ h1 (U1.mono fun i _ h=>.inr (.inl h)) (R0.upd U1 n06) ?_))
        rw [List.append_nil]
        have A1:=A.upd U1 fun i hi he=>by have:=hvb i hi; omega
        exact .mk (D.upd U1 fun i hi hl=>⟨by omega,hi.1⟩) (.inl A1.rd) (fun i hi=>⟨hvb i hi,A1.rd.lt hi⟩) (Arr.cellOK A)
      | cons x s =>
        simp only [List.length_cons] at hf hs
        simp only at hq
        refine bif_t (by simp) (st_alloc fun h1 hl1 U1 R84=>?_)
        refine inc (by omega) ?_
        have R0:=R0.upd U1 fun h=>h
        have R6:=R6.upd U1 fun h=>h
        have R10:=R10.upd U1 fun h=>h
        refine ih.1 (lvl+1) n (x :: s) id0 h1 _ (by simp only [List.length_cons]; omega) (by simp only [List.length_cons]; omega) (by omega) hn R0 ?_
        cases hv:decV f (lvl+1) n (x :: s) with
        | error e =>
          rw [hv] at hq
          have he:=(dec_err f).1 _ _ _ _ (by simp only [List.length_cons]; omega) hv
          intro h2 U2
          refine st_ext0 (st_ext1 (st_asS (st_ext2 (st_asI ?_))))
          have R84:=R84.upd U2 (by omega)
          have R6:=R6.upd U2 (by omega)
          refine st_storeN R84 rfl rfl rfl fun h3 hl3 U3 _=>?_
          have R6:=R6.upd U3 (by omega)
          refine bif_t (by simp [he]) (st_storeN R6 hz.symm rfl rfl fun h4 hl4 U4 R6=>st_loadN R6 rfl (.inl (hq h4 ?_)))
          refine (((U1.mono fun _ _ h=>h.elim).trans U2 fun i hi he=>.inl he).trans U3 fun i hi he=>absurd he (by omega)).trans U4 fun i hi he=>.inr (.inl he)
        | ok y =>
          obtain ⟨d,t',n'⟩:=y
          rw [hv] at hq
          simp only at hq
          have hsh:=(dec_short f).1 _ _ _ _ _ _ hv
          simp only [List.length_cons] at hsh
          intro cs h2 U2 R0 Dd
          refine st_ext0 (st_ext1 (st_asS (st_ext2 (st_asI ?_))))
          have R84:=R84.upd U2 (by omega)
          have R6:=R6.upd U2 (by omega)
          have R10:=R10.upd U2 (by omega)
          have hvl:∀ i,SlAt v i→i<h.length:=fun i hi=>A.rd.lt hi
          have A2:=(A.upd U1 fun _ _ h=>h).upd U2 fun i hi he=>by have:=hvb i hi; omega
          have D2:=(D.upd (F':=fun i=>(base≤i∧¬ SlAt v i)∧i<h.length) U1 fun i hi hl=>⟨fun h=>h,hi,hl⟩).upd (F':=fun i=>(base≤i∧¬ SlAt v i)∧i<h.length) U2 fun i hi _=>⟨by omega,hi⟩
          refine st_storeN R84 rfl Dd.len Dd.cells fun h3 hl3 U3 R84=>?_
          have R0:=R0.upd U3 (by omega)
          have R6:=R6.upd U3 (by omega)
          have R10:=R10.upd U3 (by omega)
          have A3:=A2.upd U3 fun i hi he=>by have:=hvl i hi; omega
          have D3:=D2.upd (F':=fun i=>base≤i∧¬ SlAt v i) U3 fun i hi hl=>⟨by omega,hi.1⟩
          · have Dd3 := Dd.upd (F' := fun i => h1.length ≤ i) U3 fun i hi _ => ⟨by omega, hi⟩
            refine bif_f (by simp) (st_fld (st_load R10 rfl rfl (st_loadN R84 Dd.len.symm ?_)))
            refine A3.push (x:=.ag cs) (by decide) Dd.fill Dd.len Dd.cells (by omega) (by omega) fun v' h4 U4 A4 F4=>?_
            have R10:=R10.upd U4 fun hs=>by have:=hvb i10 hs; omega
            have R0:=R0.upd U4 fun hs=>by have:=hvb id0 hs; omega
            have R6:=R6.upd U4 fun hs=>by have:=hvb i6 hs; omega
            have D4:=D3.upd (F':=fun i=>base≤i∧¬ SlAt v' i) U4 fun i hi hl=>⟨hi.2,hi.1,fun hs=>by
              rcases F4 i hs with h | h
              · exact hi.2 h
              · omega⟩
            have Dd4:=Dd3.upd (F':=fun i=>base≤i∧¬ SlAt v' i) U4 fun i hi hl=>⟨fun hs=>by have:=hvl i hs; omega,by omega,fun hs=>by
              rcases F4 i hs with h | h
              · have:=hvl i h; omega
              · omega⟩
            refine st_fld (st_store R10 rfl (by simp) (by rcases A4 with ⟨rfl,_⟩ | ⟨_,_,rfl,_⟩ <;> rfl) (by rcases A4 with ⟨rfl,_⟩ | ⟨_,_,rfl,_⟩ <;> rfl) (Arr.cellOK A4) fun h5 hl5 U5 R10=>?_)
            have hv'b:∀ i,SlAt v' i→base≤i:=fun i hs=>by
              rcases F4 i hs with h | h
              · exact hvb i h
              · have:=U1.1; have:=U2.1; have:=U3.1; omega
            have A5:=A4.upd U5 fun i hi he=>by have:=hv'b i hi; omega
            have D5:=(D4.app Dd4).upd (F':=fun i=>base≤i∧¬ SlAt v' i) U5 fun i hi hl=>⟨by omega,hi⟩
            have UU:Upd (fun i=>i=id0∨i=i6∨i=i10∨base≤i) h h5:=((((U1.mono fun _ _ h=>h.elim).trans U2 fun i hi he=>.inl he).trans U3 fun i hi he=>absurd he (by omega)).trans U4 fun i hi he=>.inr (.inr (.inr (hvb i he)))).trans U5 fun i hi he=>.inr (.inr (.inl he))
            refine ih.2 lvl n' t' rest (ks++[d]) (rows++[cs]) v' base id0 i6 i10 c t z h0 h5 Q (by omega) (by simp; omega) hlv (by omega) b0 b6 b10 n06 n010 n610 (by have:=UU.1; omega) (R0.upd U5 n010) (R6.upd U5 n610) hz R10 ?_ hv'b D5 ?_
            · have A5 : Arr 5 h5 v' (rows.flatten ++ cs) (rows.length + 1) := A5
              simpa using A5
            · cases hk : decK f lvl n' t' with
              | error e =>
                rw [hk] at hq
                exact fun h' U'=>hq h' (UU.trans U' fun _ _ h=>h)
              | ok y =>
                obtain ⟨ks',n''⟩:=y
                rw [hk] at hq
                exact fun cs' h' U' R' D'=>hq cs' h' (UU.trans U' fun _ _ h=>h) R' (by simpa using D')
end
end Go.Proofs.YtcdkpkkdolmfdaaGreatDoor
namespace Go.Proofs.YtcdkpkkdolmfdaaGreatDoor
open Go.GAM Go.RowKit
section
variable {h0:AHeap}
def DOut (h:AHeap) (Q:AV→AHeap→Prop):Except Int Der→Prop
  | .error e=>∀ h',Upd (fun _=>False) h h'→Q (.tu [.ag z5,.i .i64 e]) h'
  | .ok d=>∀ cs h',Upd (fun _=>False) h h'→DV h' (fun i=>h.length≤i) d cs→Q (.tu [.ag cs,.i .i64 0]) h'
theorem decode_c {s:List UInt8} {h:AHeap} {Q:AV→AHeap→Prop} (hq:DOut h Q (decS s)):C Y25.id [.s s] h Q:=by
  refine Y25.call ?_
  simp only [Y25.t,Y25.j0]
  refine st_alloc fun h1 hl1 U1 R0=>?_
  have err:∀ (e:Int) (hx:AHeap) (K:AV→AHeap→Prop),(∀ h4,Upd (fun _=>False) h h4→K (.ag z5) h4)→Upd (fun i=>h.length≤i) h1 hx→RecAt hx h.length z5 →
      pStore 5 (.p (some ⟨h.length,5,0⟩)) (.ag z5) hx fun h4=>pLoadN 5 (.p (some ⟨h.length,5,0⟩)) h4 fun v6=>K v6 h4:=by
    intro e hx K hk U Rx
    refine st_storeN Rx rfl rfl rfl fun h4 hl4 U4 R4=>st_loadN R4 rfl (hk h4 ?_)
    exact ((U1.mono (M':=fun i=>h.length≤i) fun _ _ h=>h.elim).trans U fun _ _ h=>h).trans U4 (fun i hi he=>by subst he; exact Nat.le_refl _) |>.mono fun i hi he=>by omega
  unfold decS at hq
  by_cases hl:65535<s.length
  · rw [if_pos hl] at hq
    exact bif_t (by simp; omega) (err 3 h1 _ (fun h4 U=>.inl (hq h4 U)) (Upd.refl _ _) R0)
  rw [if_neg hl] at hq
  refine bif_f (by simp; omega) (st_box rfl fun h2 hl2 U2 R2=>?_)
  have R0:=R0.upd U2 fun h=>h
  refine (value_n (2 * s.length+1)).1 1 0 s h1.length h2 _ (Nat.le_refl _) (by omega) (by omega) (by omega) R2 ?_
  cases hv:decV (2 * s.length+1) 1 0 s with
  | error e =>
    rw [hv] at hq
    have he:=(dec_err _).1 _ _ _ _ (Nat.le_refl _) hv
    intro h3 U3
    refine st_ext0 (st_ext1 (st_asS (st_ext2 (st_asI (st_alloc fun h4 hl4 U4 R4=>st_storeN R4 rfl rfl rfl fun h5 hl5 U5 R5=>?_)))))
    have:=U3.1
    have R0:=((R0.upd U3 (by omega)).upd U4 fun h=>h).upd U5 (by omega)
    refine bif_f (by simp [he]) ?_
    refine Y25.i0 ?_
    simp only [Y25.t0,Y25.j1]
    refine bif_f rfl ?_
    refine Y25.i1 ?_
    simp only [Y25.t1]
    refine bif_t (by simp [he]) (err e h5 _ (fun h6 U=>.inl (hq h6 U)) ?_ R0)
    exact (((U2.mono fun _ _ h=>h.elim).trans U3 fun i hi he=>by omega).trans U4 fun _ _ h=>h.elim).trans U5 fun i hi he=>by omega
  | ok y =>
    obtain ⟨d,r,n'⟩:=y
    rw [hv] at hq
    intro cs h3 U3 _ D
    refine st_ext0 (st_ext1 (st_asS (st_ext2 (st_asI (st_alloc fun h4 hl4 U4 R4=>st_storeN R4 rfl D.len D.cells fun h5 hl5 U5 R5=>?_)))))
    have:=U3.1
    have R0:=((R0.upd U3 (by omega)).upd U4 fun h=>h).upd U5 (by omega)
    have UU:Upd (fun i=>h.length≤i) h1 h5:=(((U2.mono fun _ _ h=>h.elim).trans U3 fun i hi he=>by omega).trans U4 fun _ _ h=>h.elim).trans U5 fun i hi he=>by omega
    have D5:=(D.upd (F':=fun i=>h2.length≤i∧i<h3.length) U4 fun i hi hl=>⟨fun h=>h,hi,hl⟩).upd (F':=fun i=>h2.length≤i∧i<h3.length) U5 fun i hi _=>⟨by omega,hi⟩
    refine bif_t (by simp) ?_
    refine Y25.i0 ?_
    simp only [Y25.t0,Y25.j1]
    refine bif_both (fun e=>?_) fun e=>?_
    · have hr : r ≠ [] := by simpa using e
      simp only [if_neg hr] at hq
      refine Y25.i1 ?_
      simp only [Y25.t1]
      exact bif_t (by simp) (err 2 h5 _ (fun h6 U=>.inl (hq h6 U)) UU R0)
    · have hr : r = [] := by simpa using e
      simp only [if_pos hr] at hq
      refine Y25.i1 ?_
      simp only [Y25.t1]
      refine bif_f (by simp) (st_loadN R5 D.len.symm (st_storeN R0 rfl D.len D.cells fun h6 hl6 U6 R6=>st_loadN R6 D.len.symm (.inl (hq cs h6 ?_ ?_))))
      · exact ((U1.mono (M':=fun i=>h.length≤i) fun _ _ h=>h.elim).trans UU fun _ _ h=>h).trans U6 (fun i hi he=>by omega) |>.mono fun i hi he=>by omega
      · exact D5.upd U6 fun i hi _=>⟨by omega,by omega⟩
end
end Go.Proofs.YtcdkpkkdolmfdaaGreatDoor
namespace Go.Proofs.YtcdkpkkdolmfdaaGreatDoor
open Go.GAM Go.RowKit
mutual
def chkV : Nat → Nat → Der → Int × Nat
  | lvl, n, .mk c t m s ks => if c < 0 ∨ 3 < c ∨ t < 0 ∨ 30 < t then (4, n + 1) else
    if (m=true∧s≠[])∨(m=false∧ks≠[]) then (13,n+1) else
    if 24<lvl then (9,n+1) else if 256<n+1 then (3,n+1) else chkK (lvl+1) (n+1) ks
def chkK:Nat→Nat→List Der→Int × Nat
  | _,n,[]=>(0,n)
  | lvl,n,k :: r=>if (chkV lvl n k).1≠0 then chkV lvl n k else chkK lvl (chkV lvl n k).2 r
end
theorem chk_n : ∀ m, (∀ (d : Der) (lvl n : Nat), d.sz ≤ m → (chkV lvl n d).1 = 0 → (chkV lvl n d).2 ≤ 256) ∧ (∀ (ks : List Der) (lvl n : Nat), szs ks ≤ m → (chkK lvl n ks).1 = 0 → (chkK lvl n ks).2 ≤ n ∨ (chkK lvl n ks).2 ≤ 256) := by
  intro m
  induction m with
  | zero =>
    refine ⟨fun d lvl n hd=>absurd hd (by have:=szs_pos d; omega),fun ks lvl n hk _=>?_⟩
    cases ks with
    | nil=>unfold chkK; exact .inl (Nat.le_refl _)
    | cons k r=>have:=szs_pos k; unfold szs at hk; omega
  | succ m ih =>
    have hV:∀ (d:Der) (lvl n:Nat),d.sz≤m+1→(chkV lvl n d).1=0→(chkV lvl n d).2≤256:=by
      intro d lvl n hd h
      obtain ⟨c,t,mm,s,ks⟩:=d
      unfold Der.sz at hd
      unfold chkV at h ⊢
      split at h
      · cases h
      rename_i c1
      split at h
      · cases h
      rename_i c2
      split at h
      · cases h
      rename_i c3
      split at h
      · cases h
      rename_i c4
      rw [if_neg c1,if_neg c2,if_neg c3,if_neg c4]
      have:=ih.2 ks (lvl+1) (n+1) (by omega) h
      omega
    refine ⟨hV,fun ks=>?_⟩
    induction ks with
    | nil=>intro lvl n _ _; unfold chkK; exact .inl (Nat.le_refl _)
    | cons k r ihr =>
      intro lvl n hk h
      unfold szs at hk
      unfold chkK at h ⊢
      split at h
      · rename_i h1; exact absurd h h1
      · rename_i h1
        rw [if_neg h1]
        have h1:(chkV lvl n k).1=0:=by simpa using h1
        have:=hV k lvl n (by omega) h1
        have:=ihr lvl _ (by omega) h
        omega
section
variable {h0:AHeap}
theorem chk_step {k:Der} {r:List Der} {lvl n:Nat}:chkK lvl n (k :: r)=if (chkV lvl n k).1≠0 then chkV lvl n k else chkK lvl (chkV lvl n k).2 r:=by
  rw [chkK]
theorem check_n : ∀ m, m ≤ 1000000 → ∀ (d : Der) (cs : List AV) (F : Nat → Prop) (lvl n id0 : Nat) (h : AHeap) (Q : AV → AHeap → Prop), d.sz ≤ m → lvl ≤ 1000 → n ≤ 256 → RecAt h id0 [.i .i64 (n : Int)] → DV h F d cs → (∀ i, F i → i ≠ id0) →
    (∀ h',Upd (· = id0) h h'→RecAt h' id0 [.i .i64 ((chkV lvl n d).2:Int)]→Q (.i .i64 (chkV lvl n d).1) h')→C Y26.id [.p (some ⟨id0,1,0⟩),.ag cs,.i .i64 (lvl:Int)] h Q:=by
  intro m
  induction m with
  | zero=>intro _ d cs F lvl n id0 h Q hd; have:=szs_pos d; omega
  | succ m ih =>
    intro hm d cs F lvl n id0 h Q hd hlv hn R D hF hq
    cases D with
    | @mk c t mm s ks v rows Dk sv fv ov=>
    refine Y26.call ?_
    simp only [Y26.t,Y26.j0]
    unfold Der.sz at hd
    have hkl:=szs_len ks
    have hln:=Dk.length
    have id0l:=R.lt
    refine st_box rfl fun h1 hl1 U1 BP=>st_box rfl fun h2 hl2 U2 B=>st_box rfl fun h3 hl3 U3 BL=>?_
    have U03:Upd (fun _=>False) h h3:=(U1.trans U2 fun _ _ h=>h).trans U3 fun _ _ h=>h
    have R3:=R.upd U03 fun h=>h
    have BP:=(BP.upd U2 fun h=>h).upd U3 fun h=>h
    have B:=B.upd U3 fun h=>h
    refine st_load BP rfl rfl ?_
    refine st_nil (st_fld (st_load R3 rfl rfl (st_asI (inc (by omega) (st_nil (st_fld (st_store R3 rfl (by simp) rfl rfl rfl fun h4 hl4 U4 R4=>?_)))))))
    have R4:RecAt h4 id0 [.i .i64 ((n+1:Nat):Int)]:=R4
    have BP:=BP.upd U4 (by omega)
    have B:=B.upd U4 (by omega)
    have BL:=BL.upd U4 (by omega)
    have U:Upd (· = id0) h h4:=(U03.mono fun _ _ h=>h.elim).trans U4 fun _ _ h=>h
    have S4:=sv.upd U fun i hs _=>hF i (fv i hs).1
    unfold chkV at hq
    have lens:∀ K:Int→Prop,K (ks.length:Int)→pLenSl v K:=fun K hk=>S4.len (by rw [← hln]; exact hk)
    have hks:∀ k∈ks,k.sz≤m:=fun k hk=>by have:=szs_mem hk; omega
    have p1 : ¬ (c < 0 ∨ 3 < c ∨ t < 0 ∨ 30 < t) → ∀ b, b = decide ((mm = true ∧ s ≠ []) ∨ (mm = false ∧ ks ≠ [])) → Y26.p1 (kRet h Q) (.p (some ⟨h.length, 1, 0⟩)) (.p (some ⟨h1.length, 5, 0⟩)) (.p (some ⟨h2.length, 1, 0⟩)) b h4 := by
      intro c1 b hb
      rw [if_neg c1] at hq
      refine Y26.i1 ?_
      simp only [Y26.t1]
      refine bif_both (fun e=>?_) fun e=>?_
      · subst e
        rw [if_pos (by simpa using hb.symm)] at hq
        exact .inl (hq h4 U R4)
      · subst e
        rw [if_neg (of_decide_eq_false hb.symm)] at hq
        refine st_load BL rfl rfl (st_asI ?_)
        by_cases c3:24<lvl
        · rw [if_pos c3] at hq
          exact bif_t (by simp; omega) (.inl (hq h4 U R4))
        rw [if_neg c3] at hq
        refine bif_f (by simp; omega) (st_load BP rfl rfl (st_nil (st_fld (st_load R4 rfl rfl (st_asI ?_)))))
        by_cases c4:256<n+1
        · rw [if_pos c4] at hq
          exact bif_t (by simp; omega) (.inl (hq h4 U R4))
        rw [if_neg c4] at hq
        refine bif_f (by simp; omega) (st_alloc fun h5 hl5 U5 RE=>st_store RE rfl (by simp) rfl rfl rfl fun h6 hl6 U6 RE=>?_)
        have RE:RecAt h6 h4.length [.i .i64 0]:=RE
        have BP:=(BP.upd U5 fun h=>h).upd U6 (by omega)
        have B:=(B.upd U5 fun h=>h).upd U6 (by omega)
        have BL:=(BL.upd U5 fun h=>h).upd U6 (by omega)
        have R6:=(R4.upd U5 fun h=>h).upd U6 (by omega)
        have U6:Upd (· = id0) h h6:=(U.trans U5 fun _ _ h=>h.elim).trans U6 fun i hi he=>absurd he (by omega)
        refine st_fld (st_load B rfl rfl ?_)
        have S6:=sv.upd U6 fun i hs _=>hF i (fv i hs).1
        refine Y36.call ?_
        simp only [Y36.t,Y36.j0]
        refine S6.len ?_
        rw [← hln]
        generalize hK:(fun (v76:AV) (h77:AHeap)=>asB v76 fun c78=>pLoad1 (.p (some ⟨h4.length,1,0⟩)) h77 fun v80=>asI .i64 v80 fun n81=>kRet h Q (.i .i64 n81) h77)=K
        have hKe:∀ b (h7:AHeap) (e:Int) (n':Nat),Upd (· = id0) h h7→RecAt h7 h4.length [.i .i64 e]→RecAt h7 id0 [.i .i64 (n':Int)]→(∀ h',Upd (· = id0) h h'→RecAt h' id0 [.i .i64 (n':Int)]→Q (.i .i64 e) h')→K (.b b) h7:=by
          intro b h7 e n' U7 RE R7 hq
          rw [← hK]
          exact st_asB (st_load RE rfl rfl (st_asI (.inl (hq h7 U7 R7))))
        clear hK
        have go:∀ (r:List Der) (i n2:Nat) (hh:AHeap),ks.drop i=r→i≤ks.length→n2≤256→Upd (· = id0) h hh→h6.length≤hh.length→RecAt hh h.length [.p (some ⟨id0,1,0⟩)]→RecAt hh h2.length [.i .i64 (lvl:Int)]→RecAt hh h4.length [.i .i64 0]→RecAt hh id0 [.i .i64 (n2:Int)] →
            (∀ h',Upd (· = id0) h h'→RecAt h' id0 [.i .i64 ((chkK (lvl+1) n2 r).2:Int)]→Q (.i .i64 (chkK (lvl+1) n2 r).1) h') →
            Y36.p0 (kRet h6 K) (.fn (.func Y55.id) [] [.p (some ⟨h.length,1,0⟩),.p (some ⟨h2.length,1,0⟩),.p (some ⟨h4.length,1,0⟩)]) v ks.length i hh:=by
          intro r
          induction r with
          | nil =>
            intro i n2 hh hr hi hn2 U hlh BP BL RE R hk
            have hle:=drop_end hr
            refine Y36.i0 ?_
            simp only [Y36.t0]
            refine bif_f (by simp; omega) (.inl (hKe true hh 0 n2 U RE R ?_))
            unfold chkK at hk
            exact hk
          | cons k r ihr =>
            intro i n2 hh hr hi hn2 U hlh BP BL RE R hk
            have hlt:=drop_lt hr
            have hn':=drop_next hr
            have hki:=at_of_drop hr
            have S2:=sv.upd U fun i hs _=>hF i (fv i hs).1
            have D2:=Dk.upd (F':=fun i=>F i∧i<h.length) U fun i hi hl=>⟨hF i hi,hi,hl⟩
            obtain ⟨r1,g1,e1⟩:=D2.get hki
            obtain ⟨id1,ver1,off1,cap1,b1,rfl,A1⟩:=S2.at (by omega)
            have q1:=rows_get rows i r1 D2.len5 g1
            have hk0:=List.mem_of_getElem? hki
            refine Y36.i0 ?_
            simp only [Y36.t0,Y36.j0]
            refine bif_t (by simp; omega) (st_idx A1 (by omega) (st_elemN A1 (by omega) q1 ?_))
            refine st_alloc fun g1 gl1 V1 RK=>st_storeN RK rfl e1.len e1.cells fun g2 gl2 V2 RK=>st_loadN RK e1.len.symm ?_
            have V12:Upd (fun _=>False) hh g2:=(V1.mono (M':=fun i=>i=hh.length) fun _ _ h=>h.elim).trans V2 (fun _ _ h=>h) |>.mono fun i hi he=>by omega
            refine callV_c rfl ?_
            show C Y55.id [.ag r1,.p (some ⟨h.length,1,0⟩),.p (some ⟨h2.length,1,0⟩),.p (some ⟨h4.length,1,0⟩)] g2 _
            refine Y55.call ?_
            simp only [Y55.t]
            refine st_box rfl fun g3 gl3 V3 RB=>?_
            have V13:Upd (fun _=>False) hh g3:=V12.trans V3 fun _ _ h=>h
            have BP3:=BP.upd V13 fun h=>h
            have BL3:=BL.upd V13 fun h=>h
            have RE3:=RE.upd V13 fun h=>h
            have R3:=R.upd V13 fun h=>h
            have e3:=e1.ext V13
            have RB:RecAt g3 g2.length r1:=RB
            refine st_load BP3 rfl rfl ?_
            have eP:(AV.ag r1).parts.length=5:=e1.len
            rw [eP]
            refine st_loadN RB e1.len.symm (st_load BL3 rfl rfl (st_asI (inc (by omega) ?_)))
            refine ih (by omega) k r1 (fun i=>F i∧i<h.length) (lvl+1) n2 id0 g3 _ (hks k hk0) (by omega) hn2 R3 e3 (fun i hi=>hF i hi.1) fun g4 V4 R4=>st_asI ?_
            have gg:=V4.1
            have RE4:=RE3.upd V4 (by omega)
            refine st_store RE4 rfl (by simp) rfl rfl rfl fun g5 gl5 V5 RE5=>st_load RE5 rfl rfl (st_asI (.inl (st_asB ?_)))
            have RE5:RecAt g5 h4.length [.i .i64 (chkV (lvl+1) n2 k).1]:=RE5
            have R5:=R4.upd V5 (by omega)
            have BP5:=(BP3.upd V4 (by omega)).upd V5 (by omega)
            have BL5:=(BL3.upd V4 (by omega)).upd V5 (by omega)
            have UU:Upd (· = id0) h g5:=((U.trans V13 fun _ _ h=>h.elim).trans V4 fun _ _ h=>h).trans V5 fun i hi he=>absurd he (by omega)
            have gg2:=V13.1
            rw [chk_step] at hk
            by_cases he:(chkV (lvl+1) n2 k).1≠0
            · rw [if_pos he] at hk
              exact bif_t (by simp [he]) (.inl (hKe false g5 _ _ UU RE5 R5 hk))
            · rw [if_neg he] at hk
              have he0:(chkV (lvl+1) n2 k).1=0:=by simpa using he
              rw [he0] at RE5
              refine bif_f (by simp [he0]) (inc (by omega) ?_)
              exact ihr (i+1) _ g5 hn' (by omega) ((chk_n k.sz).1 k _ _ (Nat.le_refl _) he0) UU (by omega) BP5 BL5 RE5 R5 hk
        exact go ks 0 (n+1) h6 rfl (by omega) (by omega) U6 (Nat.le_refl _) BP BL RE R6 hq
    have p0 : ∀ b, b = decide (c < 0 ∨ 3 < c ∨ t < 0 ∨ 30 < t) → Y26.p0 (kRet h Q) (.p (some ⟨h.length, 1, 0⟩)) (.p (some ⟨h1.length, 5, 0⟩)) (.p (some ⟨h2.length, 1, 0⟩)) b h4 := by
      intro b hb
      refine Y26.i0 ?_
      simp only [Y26.t0,Y26.j1]
      refine bif_both (fun e=>?_) fun e=>?_
      · subst e
        rw [if_pos (by simpa using hb.symm)] at hq
        exact .inl (hq h4 U R4)
      · subst e
        have p1:=p1 (of_decide_eq_false hb.symm)
        refine st_fld (st_load B rfl rfl (st_asB ?_))
        cases mm with
        | true =>
          refine bif_t rfl (st_fld (st_load B rfl rfl (st_asS ?_)))
          refine bif_both (fun e=>p1 _ ?_) fun e=>st_fld (st_load B rfl rfl (st_asB (bif_f rfl (p1 _ ?_))))
          · have : s ≠ [] := by simpa using e
            simp [this]
          · have : s = [] := by simpa using e
            simp [this]
        | false =>
          refine bif_f rfl (st_fld (st_load B rfl rfl (st_asB (bif_t rfl (st_fld (st_load B rfl rfl (lens _ (p1 _ ?_))))))))
          rw [decide_eq_decide]
          simp only [Bool.false_eq_true,false_and,true_and,false_or]
          rw [← List.length_pos_iff]; omega
    refine st_fld (st_load B rfl rfl (st_asI ?_))
    refine bif_both (fun e=>p0 _ ?_) fun e1=>st_fld (st_load B rfl rfl (st_asI ?_))
    · simp only [decide_eq_true_eq] at e
      simp [e]
    refine bif_both (fun e=>p0 _ ?_) fun e2=>st_fld (st_load B rfl rfl (st_asI ?_))
    · simp only [decide_eq_true_eq] at e
      simp [e]
    refine bif_both (fun e=>p0 _ ?_) fun e3=>st_fld (st_load B rfl rfl (st_asI (p0 _ ?_)))
    · simp only [decide_eq_true_eq] at e
      simp [e]
    simp only [decide_eq_false_iff_not] at e1 e2 e3
    rw [decide_eq_decide]; omega
end
end Go.Proofs.YtcdkpkkdolmfdaaGreatDoor
namespace Go.Proofs.YtcdkpkkdolmfdaaGreatDoor
open Go.GAM Go.RowKit
mutual
def wfV:Der→Prop
  | .mk c t m s ks=>(0≤c∧c≤3∧0≤t∧t≤30)∧(m=true→s=[])∧(m=false→ks=[])∧wfK ks
def wfK:List Der→Prop
  | []=>True
  | k :: r=>wfV k∧wfK r
end
mutual
def dsum:Der→Nat
  | .mk _ _ _ s ks=>s.length+10+dsums ks
def dsums:List Der→Nat
  | []=>0
  | k :: r=>dsum k+dsums r
end
def lenB (n:Nat):List UInt8:=if n<128 then [UInt8.ofNat n] else if n<256 then [129,UInt8.ofNat n] else [130,UInt8.ofNat (n / 256),UInt8.ofNat n]
def hdB (c t:Int) (m:Bool):UInt8:=UInt8.ofNat (c.toNat * 64+t.toNat+if m=true then 32 else 0)
mutual
def bytesS:Der→List UInt8
  | .mk c t m s ks=>hdB c t m :: lenB (s++bytesK ks).length++(s++bytesK ks)
def bytesK:List Der→List UInt8
  | []=>[]
  | k :: r=>bytesS k++bytesK r
end
def encS (d:Der):Except Int (List UInt8):=
  if (chkV 1 0 d).1≠0 then .error (chkV 1 0 d).1 else if 65535<(bytesS d).length then .error 3 else .ok (bytesS d)
theorem lenB_len (n:Nat):(lenB n).length≤3:=by unfold lenB; split <;> (try split) <;> simp
theorem bytes_n:∀ m,(∀ d:Der,d.sz≤m→(bytesS d).length≤dsum d)∧∀ ks:List Der,szs ks≤m→(bytesK ks).length≤dsums ks:=by
  intro m
  induction m with
  | zero =>
    refine ⟨fun d hd=>absurd hd (by have:=szs_pos d; omega),fun ks hk=>?_⟩
    cases ks with
    | nil=>simp [bytesK]
    | cons k r=>have:=szs_pos k; unfold szs at hk; omega
  | succ m ih =>
    have hV:∀ d:Der,d.sz≤m+1→(bytesS d).length≤dsum d:=by
      intro d hd
      obtain ⟨c,t,mm,s,ks⟩:=d
      unfold Der.sz at hd
      have:=ih.2 ks (by omega)
      have:=lenB_len (s++bytesK ks).length
      unfold bytesS dsum
      simp only [List.length_cons,List.length_append] at *
      omega
    refine ⟨hV,fun ks=>?_⟩
    induction ks with
    | nil=>intro _; simp [bytesK]
    | cons k r ihr =>
      intro hk
      unfold szs at hk
      have:=hV k (by omega)
      have:=ihr (by omega)
      unfold bytesK dsums
      rw [List.length_append]; omega
theorem bytes_len (d:Der):(bytesS d).length≤dsum d:=(bytes_n d.sz).1 d (Nat.le_refl _)
theorem bytesK_len (ks:List Der):(bytesK ks).length≤dsums ks:=(bytes_n (szs ks)).2 ks (Nat.le_refl _)
theorem bytesK_app:∀ (a b:List Der),bytesK (a++b)=bytesK a++bytesK b
  | [],b=>by simp [bytesK]
  | k :: a,b=>by simp [bytesK,bytesK_app a b]
theorem dsums_app:∀ (a b:List Der),dsums (a++b)=dsums a+dsums b
  | [],b=>by simp [dsums]
  | k :: a,b=>by simp [dsums,dsums_app a b]; omega
theorem dsums_take (ks:List Der) (i:Nat):dsums (ks.take i)≤dsums ks:=by
  have:=dsums_app (ks.take i) (ks.drop i)
  rw [List.take_append_drop] at this; omega
theorem dsums_mem:∀ {ks:List Der} {k:Der},k∈ks→dsum k≤dsums ks
  | [],k,h=>by cases h
  | a :: r, k, h => by
    unfold dsums
    rcases List.mem_cons.1 h with rfl | h
    · omega
    · have:=dsums_mem h; omega
theorem wfK_mem:∀ {ks:List Der} {k:Der},wfK ks→k∈ks→wfV k
  | [],k,_,h=>by cases h
  | a :: r, k, hw, h => by
    unfold wfK at hw
    rcases List.mem_cons.1 h with rfl | h
    · exact hw.1
    · exact wfK_mem hw.2 h
theorem chk_wf : ∀ m, (∀ (d : Der) (lvl n : Nat), d.sz ≤ m → (chkV lvl n d).1 = 0 → wfV d) ∧ (∀ (ks : List Der) (lvl n : Nat), szs ks ≤ m → (chkK lvl n ks).1 = 0 → wfK ks) := by
  intro m
  induction m with
  | zero =>
    refine ⟨fun d lvl n hd=>absurd hd (by have:=szs_pos d; omega),fun ks lvl n hk _=>?_⟩
    cases ks with
    | nil=>unfold wfK; trivial
    | cons k r=>have:=szs_pos k; unfold szs at hk; omega
  | succ m ih =>
    have hV:∀ (d:Der) (lvl n:Nat),d.sz≤m+1→(chkV lvl n d).1=0→wfV d:=by
      intro d lvl n hd h
      obtain ⟨c,t,mm,s,ks⟩:=d
      unfold Der.sz at hd
      unfold chkV at h
      split at h
      · cases h
      rename_i c1
      split at h
      · cases h
      rename_i c2
      split at h
      · cases h
      split at h
      · cases h
      unfold wfV
      refine ⟨by omega,fun hm=>?_,fun hm=>?_,ih.2 ks _ _ (by omega) h⟩
      · exact Classical.byContradiction fun hs=>c2 (.inl ⟨hm,hs⟩)
      · exact Classical.byContradiction fun hs=>c2 (.inr ⟨hm,hs⟩)
    refine ⟨hV,fun ks=>?_⟩
    induction ks with
    | nil=>intro lvl n _ _; unfold wfK; trivial
    | cons k r ihr =>
      intro lvl n hk h
      unfold szs at hk
      unfold chkK at h
      unfold wfK
      split at h
      · rename_i h1; exact absurd h h1
      · rename_i h1
        exact ⟨hV k lvl n (by omega) (by simpa using h1),ihr _ _ (by omega) h⟩
theorem hd_or {c t:Nat} (hc:c<4) (ht:t<31):c * 64 ||| t=c * 64+t∧(c * 64+t) ||| 32=c * 64+t+32:=by
  have:∀ c,c<4→∀ t,t<31→c * 64 ||| t=c * 64+t∧(c * 64+t) ||| 32=c * 64+t+32:=by decide +kernel
  exact this c hc t ht
section
variable {h0:AHeap} {Q:AV→AHeap→Prop}
theorem write_p3 {acc l:List UInt8} {v:AV} {h:AHeap} (T:Tx h0 h v l) (hl:l.length+acc.length≤1000000) (hq:Q (.s (l++acc)) h0):Y13.p3 (kRet h0 Q) acc v h:=by
  refine Y13.i3 ?_
  simp only [Y13.t3]
  exact T.str ⟨by omega,kRet_pure rfl T.upd.ext hq⟩
theorem write_p2 {acc:List UInt8} {x:Nat} {h:AHeap} (U:Upd (fun _=>False) h0 h) (hx:x<256) (hl:acc.length<65536) (hq:Q (.s (UInt8.ofNat x :: lenB acc.length++acc)) h0):Y13.p2 (kRet h0 Q) acc x h:=by
  refine Y13.i2 ?_
  simp only [Y13.t2,Y13.j3]
  rw [wrap_u8_nat x,Nat.mod_eq_of_lt hx,show ((x:Nat):Int)=((UInt8.ofNat x).toNat:Int) by rw [UInt8.toNat_ofNat']; omega]
  refine Tx.one U fun v h1 T U1=>?_
  unfold lenB at hq
  by_cases h1:acc.length<128
  · rw [if_pos h1] at hq
    refine bif_t (by simp; omega) (withI_is (wrap_u8_nat _) ?_)
    rw [byte_mod]
    exact T.push (by simp) fun v' h' T'=>write_p3 T' (by simp; omega) (by simpa using hq)
  rw [if_neg h1] at hq
  refine bif_f (by simp; omega) ?_
  by_cases h2:acc.length<256
  · rw [if_pos h2] at hq
    refine bif_t (by simp; omega) (withI_is (wrap_u8_nat _) ?_)
    rw [byte_mod]
    exact T.push2 (c:=129) (by simp) fun v' h' T'=>write_p3 T' (by simp; omega) (by simpa using hq)
  rw [if_neg h2] at hq
  refine bif_f (by simp; omega) ?_
  have h3:decide ((acc.length:Int)<65536)=true:=by
    rw [decide_eq_true_eq]; omega
  rw [h3,cond_true]
  refine st_shr (k:=.i64) (b:=8) (by decide) (withI_is (wrap_u8_nat _) ?_)
  rw [wrap_u8_nat,byte_mod,byte_mod]
  exact T.push3 (c:=130) (by simp) fun v' h' T'=>write_p3 T' (by simp; omega) (by simpa using hq)
theorem write_n : ∀ m, m ≤ 1000000 → ∀ (d : Der) (cs : List AV) (F : Nat → Prop) (h : AHeap) (Q : AV → AHeap → Prop), d.sz ≤ m → wfV d → dsum d ≤ 60000 → DV h F d cs → Q (.s (bytesS d)) h → C Y13.id [.ag cs] h Q := by
  intro m
  induction m with
  | zero=>intro _ d cs F h Q hd; have:=szs_pos d; omega
  | succ m ih =>
    intro hm d cs F h Q hd hw hs D hq
    cases D with
    | @mk c t mm s ks v rows Dk sv fv ov=>
    unfold Der.sz at hd
    have hkl:=szs_len ks
    have hln:=Dk.length
    unfold wfV at hw
    obtain ⟨⟨hc0,hc3,ht0,ht30⟩,hw1,hw2,hw3⟩:=hw
    unfold dsum at hs
    obtain ⟨cn,rfl⟩:∃ n:Nat,c=n:=⟨c.toNat,by omega⟩
    obtain ⟨tn,rfl⟩:∃ n:Nat,t=n:=⟨t.toNat,by omega⟩
    refine Y13.call ?_
    simp only [Y13.t,Y13.j0]
    refine st_box rfl fun h1 hl1 U1 B=>st_fld (st_load B rfl rfl (st_asS (st_fld (st_load B rfl rfl ?_))))
    have S1:=sv.upd U1 fun _ _ _ h=>h
    refine S1.len ?_
    rw [← hln]
    have hbl:=bytesK_len ks
    have fin:∀ hh,Upd (fun _=>False) h hh→RecAt hh h.length [.i .i64 (cn:Int),.i .i64 (tn:Int),.b mm,.s s,v]→Y13.p1 (kRet h Q) (.p (some ⟨h.length,5,0⟩)) (s++bytesK ks) hh:=by
      intro hh U B
      refine Y13.i1 ?_
      simp only [Y13.t1,Y13.j2]
      obtain ⟨o1,o2⟩:=hd_or (c:=cn) (t:=tn) (by omega) (by omega)
      refine st_fld (st_load B rfl rfl (st_asI (st_shl (b:=6) (by omega) (by omega) ?_)))
      refine st_fld (st_load B rfl rfl (st_asI (withI_is (n:=((cn * 64+tn:Nat):Int)) ?_ ?_)))
      · rw [bits_or (by omega) (by omega),show cn * 2 ^ 6=cn * 64 from rfl,o1]
      refine st_fld (st_load B rfl rfl (st_asB ?_))
      unfold bytesS hdB at hq
      rw [Int.toNat_natCast,Int.toNat_natCast] at hq
      have hcl:(s++bytesK ks).length<65536:=by rw [List.length_append]; omega
      cases mm with
      | true =>
        refine bif_t rfl ?_
        have:=bits_or (x:=cn * 64+tn) (y:=32) (by omega) (by omega)
        rw [o2] at this
        rw [show bitsOp .or .i64 ((cn * 64+tn:Nat):Int) 32=((cn * 64+tn+32:Nat):Int) from this]
        exact write_p2 U (by omega) hcl hq
      | false =>
        exact bif_f rfl (write_p2 U (by omega) hcl hq)
    have loop:∀ (r:List Der) (i:Nat) (hh:AHeap),ks.drop i=r→i≤ks.length→Upd (fun _=>False) h hh→RecAt hh h.length [.i .i64 (cn:Int),.i .i64 (tn:Int),.b mm,.s s,v]→Y13.p0 (kRet h Q) (.p (some ⟨h.length,5,0⟩)) (s++bytesK (ks.take i)) v ks.length i hh:=by
      intro r
      induction r with
      | nil =>
        intro i hh hr hi U B
        have hle:=drop_end hr
        refine Y13.i0 ?_
        simp only [Y13.t0,Y13.j1]
        rw [List.take_of_length_le hle]
        exact bif_f (by simp; omega) (fin hh U B)
      | cons k r ihr =>
        intro i hh hr hi U B
        have hlt:=drop_lt hr
        have hn':=drop_next hr
        have hki:=at_of_drop hr
        have S2:=sv.upd U fun _ _ _ h=>h
        obtain ⟨r1,g1,e1⟩:=(Dk.upd (F':=F) U fun i hi _=>⟨fun h=>h,hi⟩).get hki
        obtain ⟨id1,ver1,off1,cap1,b1,rfl,A1⟩:=S2.at (by omega)
        have q1:=rows_get rows i r1 Dk.len5 g1
        have hk0:=List.mem_of_getElem? hki
        have hsz:=szs_mem hk0
        have hds:=dsums_mem hk0
        have hbt:=bytesK_len (ks.take i)
        have hdt:=dsums_take ks i
        have hbk:=bytes_len k
        refine Y13.i0 ?_
        simp only [Y13.t0,Y13.j0,Y13.j1]
        refine bif_t (by simp; omega) (st_idx A1 (by omega) (st_elemN A1 (by omega) q1 ?_))
        refine st_alloc fun g1 gl1 V1 RK=>st_storeN RK rfl e1.len e1.cells fun g2 gl2 V2 RK=>st_loadN RK e1.len.symm ?_
        have V12:Upd (fun _=>False) hh g2:=(V1.mono (M':=fun i=>i=hh.length) fun _ _ h=>h.elim).trans V2 (fun _ _ h=>h) |>.mono fun i hi he=>by omega
        refine ih (by omega) k r1 F g2 _ (by omega) (wfK_mem hw3 hk0) (by omega) (e1.ext V12) (st_asS ⟨by rw [List.length_append]; omega, ?_⟩)
        have e:s++bytesK (ks.take i)++bytesS k=s++bytesK (ks.take (i+1)):=by
          rw [take_snoc hki,bytesK_app,List.append_assoc]
          simp [bytesK]
        rw [e]
        have hbt2:=bytesK_len (ks.take (i+1))
        have hdt2:=dsums_take ks (i+1)
        refine bif_f (by rw [List.length_append]; simp; omega) (inc (by omega) ?_)
        exact ihr (i+1) g2 hn' (by omega) (U.trans V12 fun _ _ h=>h) (B.upd V12 fun h=>h)
    have:=loop ks 0 h1 rfl (by omega) U1 B
    rw [List.take_zero,bytesK,List.append_nil] at this
    exact this
def encR:Except Int (List UInt8)→AV
  | .error e=>.tu [.s [],.i .i64 e]
  | .ok l=>.tu [.s l,.i .i64 0]
theorem encode_c {d:Der} {cs:List AV} {F:Nat→Prop} {h:AHeap} {Q:AV→AHeap→Prop} (hsz:d.sz≤100000) (hs:dsum d≤60000) (D:DV h F d cs) (hF:∀ i,F i→i<h.length) (hq:Q (encR (encS d)) h):C Y56.id [.ag cs] h Q:=by
  refine Y56.call ?_
  simp only [Y56.t]
  refine st_box rfl fun h1 hl1 U1 B=>st_box rfl fun h2 hl2 U2 R=>?_
  have B:RecAt h1 h.length cs:=B
  have B2:=B.upd U2 fun h=>h
  have hp:(AV.ag cs).parts.length=5:=D.len
  rw [hp]
  have D2:=(D.ext U1).ext U2
  unfold encS at hq
  refine st_loadN B2 D.len.symm (check_n d.sz (by omega) d cs F 1 0 h1.length h2 _ (Nat.le_refl _) (by omega) (by omega) R D2 (fun i hi=>by have:=hF i hi; omega) fun h3 U3 R3=>st_asI ?_)
  have E:Ext h h3:=((((U1.mono (M':=fun i=>h.length≤i) fun _ _ h=>h.elim).trans U2 fun _ _ h=>h.elim).trans U3 fun i hi he=>by omega).mono (M':=fun i=>False) fun i hi he=>by omega).ext
  by_cases he:(chkV 1 0 d).1≠0
  · rw [if_pos he] at hq
    exact bif_t (by simp [he]) (kRet_pure rfl E hq)
  · rw [if_neg he] at hq
    have he0:(chkV 1 0 d).1=0:=by simpa using he
    have hw:=(chk_wf d.sz).1 d 1 0 (Nat.le_refl _) he0
    have D3:=D2.upd (F':=F) U3 fun i hi _=>⟨by have:=hF i hi; omega,hi⟩
    have B3:=B2.upd U3 (by omega)
    have hbl:=bytes_len d
    refine bif_f (by simp [he0]) (st_loadN B3 D.len.symm (write_n d.sz (by omega) d cs F h3 _ (Nat.le_refl _) hw hs D3 (st_asS ?_)))
    rw [if_neg (by omega)] at hq
    exact bif_f (by simp; omega) (kRet_pure rfl E hq)
end
end Go.Proofs.YtcdkpkkdolmfdaaGreatDoor
namespace Go.Proofs.YtcdkpkkdolmfdaaGreatDoor
open Go.GAM Go.RowKit
section
variable {h0:AHeap} {Q:AV→AHeap→Prop}
def intBad (s:List UInt8):Bool:=match s with
  | []=>true
  | [_]=>false
  | a :: b :: r=>decide (6<(a :: b :: r).length)||((decide (a.toNat=0)&&decide (b.toNat<128))||(decide (a.toNat=255)&&decide (128≤b.toNat)))
theorem intBad_2 (a b:UInt8) (r:List UInt8):intBad (a :: b :: r)=(decide (6<(a :: b :: r).length)||((decide (a.toNat=0)&&decide (b.toNat<128))||(decide (a.toNat=255)&&decide (128≤b.toNat)))):=rfl
def intF (n:Int) (l:List UInt8):Int:=l.foldl (fun n c=>n * 256+(c.toNat:Int)) n
def intV:List UInt8→Int
  | []=>0
  | a :: r=>intF (if a.toNat<128 then (a.toNat:Int) else (a.toNat:Int) - 256) r
def intS (d:Der):Int × Bool:=if dPlain 2 d=true∧intBad d.data=false then (intV d.data,true) else (0,false)
theorem int_p2 {s:List UInt8} {h:AHeap} {v:Int} (hs:s.length≤6) (hq:Q (.tu [.i .i64 v,.b true]) h) {h1:AHeap} (E:Ext h h1):∀ (r:List UInt8) (i:Nat) (n:Int),s.drop i=r→i≤6 → -((256 ^ i:Nat):Int)≤n→n<((256 ^ i:Nat):Int)→intF n r=v→Y14.p2 (kRet h Q) s n i h1:=by
  intro r
  induction r with
  | nil =>
    intro i n hr hi h0 h2 hv
    have:=drop_end hr
    refine Y14.i2 ?_
    simp only [Y14.t2]
    have:n=v:=hv
    subst this
    exact bif_f (by simp; omega) (kRet_pure rfl E hq)
  | cons c r ih =>
    intro i n hr hi h0 h2 hv
    have hlt:=drop_lt hr
    have hn:=drop_next hr
    have hc:=c.toNat_lt
    have hp:256 ^ i≤256 ^ 5:=Nat.pow_le_pow_right (by omega) (by omega)
    have e:256 ^ (i+1)=256 ^ i * 256:=Nat.pow_succ ..
    refine Y14.i2 ?_
    simp only [Y14.t2,Y14.j2]
    refine bif_t (by simp; omega) ?_
    refine st_shlI (n:=n * 256) (b:=8) (by omega) rfl (by omega) (by omega) (st_at hr ?_)
    refine withI_is (n:=n * 256+(c.toNat:Int)) (by rw [wrap_i64 (by omega) (by omega),or_low (by omega) (by omega) (by omega)]) (inc (by omega) ?_)
    exact ih (i+1) _ hn (by omega) (by omega) (by omega) hv
def intR (x:Int × Bool):AV:=.tu [.i .i64 x.1,.b x.2]
theorem int_c {d : Der} {cs : List AV} {F : Nat → Prop} {h : AHeap} (D : DV h F d cs) (hs : d.data.length ≤ 100000) (hq : Q (intR (intS d)) h) : C Y14.id [.ag cs] h Q := by
  refine Y14.call ?_
  simp only [Y14.t,Y14.j0]
  refine D.box fun h1 hl1 U1 B D1=>st_fld (st_load B D.len.symm D.dat (st_asS (st_loadN B D.len.symm (plain_c D1 (st_asB ?_)))))
  have E:=U1.ext
  unfold intS at hq
  generalize d.data=s at *
  have p1:∀ b,b=true→(b=intBad s∨dPlain 2 d=false)→Y14.p0 (kRet h Q) s b h1:=by
    intro b hb hp
    subst hb
    refine Y14.i0 ?_
    simp only [Y14.t0]
    rw [if_neg (by rcases hp with h | h <;> simp [h] <;> simp [← h])] at hq
    exact bif_t rfl (kRet_pure rfl E hq)
  have p2:intBad s=false→dPlain 2 d=true→s.length≤6→∀ a r,s=a :: r→Y14.p1 (kRet h Q) s false h1:=by
    intro hb hp hl a r hsr
    have ha:=a.toNat_lt
    rw [if_pos ⟨hp,hb⟩] at hq
    refine Y14.i1 ?_
    simp only [Y14.t1,Y14.j2]
    refine bif_f rfl (st_at (i:=0) hsr ?_)
    rw [wrap_i8]
    have hw : -128≤(if a.toNat<128 then (a.toNat:Int) else (a.toNat:Int) - 256)∧(if a.toNat<128 then (a.toNat:Int) else (a.toNat:Int) - 256)<128:=by split <;> omega
    refine withI_is (wrap_i64 (by omega) (by omega)) ?_
    refine int_p2 (v:=intV s) hl hq E r 1 _ (by rw [hsr] <;> rfl) (by omega) ?_ ?_ (by rw [hsr] <;> rfl)
    · rw [Nat.pow_one]; omega
    · rw [Nat.pow_one]; omega
  refine bif_both (fun e=>p1 _ rfl (.inr (by simpa using e))) fun e=>?_
  have hp:dPlain 2 d=true:=by simpa using e
  obtain hs2 | ⟨a,r,hs2⟩:s=[]∨∃ a r,s=a :: r:=by
    cases s with
    | nil=>exact .inl rfl
    | cons a r=>exact .inr ⟨a,r,rfl⟩
  · exact bif_t (by rw [hs2] <;> rfl) (p1 _ rfl (.inl (by rw [hs2] <;> rfl)))
  ·
    refine bif_f (by rw [hs2] <;> rfl) ?_
    by_cases hl:6<s.length
    · rw [decide_eq_true (show (6 : Int) < s.length by omega)]
      refine p1 _ rfl (.inl ?_)
      rw [hs2] at hl ⊢
      cases r with
      | nil=>simp at hl
      | cons b r=>rw [intBad_2,decide_eq_true hl] <;> rfl
    rw [decide_eq_false (show ¬ (6:Int)<s.length by omega)]
    refine Y14.i0 ?_
    simp only [Y14.t0,Y14.j1]
    refine bif_f rfl ?_
    have q1:∀ b,b=intBad s→Y14.p1 (kRet h Q) s b h1:=by
      intro b hb
      cases b with
      | false=>exact p2 hb.symm hp (by omega) a r hs2
      | true =>
        refine Y14.i1 ?_
        simp only [Y14.t1]
        rw [if_neg (by simp [← hb])] at hq
        exact bif_t rfl (kRet_pure rfl E hq)
    cases hr2:r with
    | nil =>
      refine bif_f (by rw [hs2,hr2] <;> rfl) (q1 _ ?_)
      rw [hs2,hr2] <;> rfl
    | cons b r' =>
      have hs3:s=a :: b :: r':=by rw [hs2,hr2]
      have hb:intBad s=((decide (a.toNat=0)&&decide (b.toNat<128))||(decide (a.toNat=255)&&decide (128≤b.toNat))):=by
        rw [hs3] at hl ⊢
        rw [intBad_2,decide_eq_false hl] <;> rfl
      rw [hb] at q1
      have d0:s.drop 0=a :: b :: r':=hs3
      have d1:s.drop 1=b :: r':=by rw [hs3] <;> rfl
      refine bif_t (by rw [hs3]; simp; omega) (st_at (i:=0) d0 ?_)
      refine bif_both (fun e1=>st_at (i:=1) d1 ?_) fun e1=>st_at (i:=0) d0 ?_
      · simp only [decide_eq_true_eq] at e1
        have a0:a.toNat=0:=by omega
        refine bif_both (fun e2=>q1 _ ?_) fun e2=>st_at (i:=0) d0 ?_
        · simp only [decide_eq_true_eq] at e2
          have:b.toNat<128:=by omega
          simp [a0,this]
        · simp only [decide_eq_false_iff_not] at e2
          have:¬ b.toNat<128:=by omega
          refine bif_f (by simp; omega) (q1 _ (by simp [a0,this]))
      · simp only [decide_eq_false_iff_not] at e1
        have a0:a.toNat≠0:=by omega
        refine bif_both (fun e2=>st_at (i:=1) d1 (q1 _ ?_)) fun e2=>q1 _ ?_
        · simp only [decide_eq_true_eq] at e2
          have:a.toNat=255:=by omega
          simp [this]
          omega
        · simp only [decide_eq_false_iff_not] at e2
          have:a.toNat≠255:=by omega
          simp [a0,this]
end
end Go.Proofs.YtcdkpkkdolmfdaaGreatDoor
namespace Go.Proofs.YtcdkpkkdolmfdaaGreatDoor
open Go.GAM Go.RowKit
def beI:Nat→Int→List UInt8
  | 0,_=>[]
  | k+1,n=>UInt8.ofNat ((n / ((2 ^ (8 * k):Nat):Int)) % 256).toNat :: beI k n
def fitI (k:Nat) (n:Int):Prop:=-((2 ^ (8 * k - 1):Nat):Int)≤n∧n<((2 ^ (8 * k - 1):Nat):Int)
instance (k:Nat) (n:Int):Decidable (fitI k n):=by unfold fitI; infer_instance
def kI (n:Int):Nat:=if fitI 1 n then 1 else if fitI 2 n then 2 else if fitI 3 n then 3 else if fitI 4 n then 4 else if fitI 5 n then 5 else 6
def intBig (n:Int):Prop:=n < -140737488355328∨140737488355328≤n
instance (n:Int):Decidable (intBig n):=by unfold intBig; infer_instance
def intOfS (n:Int):List AV:=if intBig n then leafC 0 0 false [] else leafC 0 2 false (beI (kI n) n)
theorem kI_bd (n:Int):1≤kI n∧kI n≤6:=by
  unfold kI
  repeat' split
  all_goals omega
theorem kI_fit {n:Int} (h:¬ intBig n):fitI (kI n) n:=by
  unfold kI
  repeat' split
  all_goals first | assumption | skip
  unfold intBig at h
  unfold fitI
  omega
theorem kI_least {n:Int} {j:Nat} (h1:1≤j) (h2:j<kI n):¬ fitI j n:=by
  unfold kI at h2
  split at h2
  · omega
  rename_i f1
  by_cases e1:j=1
  · subst e1; exact f1
  split at h2
  · omega
  rename_i f2
  by_cases e2:j=2
  · subst e2; exact f2
  split at h2
  · omega
  rename_i f3
  by_cases e3:j=3
  · subst e3; exact f3
  split at h2
  · omega
  rename_i f4
  by_cases e4:j=4
  · subst e4; exact f4
  split at h2
  · omega
  rename_i f5
  have:j=5:=by omega
  subst this; exact f5
section
variable {h0:AHeap} {Q:AV→AHeap→Prop}
theorem pw47 {k:Nat} (h:k≤6):2 ^ (8 * k - 1)≤140737488355328∧0<2 ^ (8 * k - 1):=by
  have:(2:Nat) ^ (8 * k - 1)≤2 ^ 47:=Nat.pow_le_pow_right (by omega) (by omega)
  exact ⟨by simpa using this,Nat.two_pow_pos _⟩
theorem ret_leaf {h h1 hx:AHeap} {id:Nat} {z:List AV} {c t:Int} {s:List UInt8} (hz:z.length=5) (R:RecAt hx id z) (hid:h.length≤id) (U:Upd (fun _=>False) h hx) (hq:Q (.ag (leafC c t false s)) h) :
    pStore 5 (.p (some ⟨id,5,0⟩)) (.ag [.i .i64 c,.i .i64 t,.b false,.s s,.sl none 0 none]) hx fun h5=>pLoadN 5 (.p (some ⟨id,5,0⟩)) h5 fun v7=>kRet h Q v7 h5:=by
  refine st_storeN R hz.symm rfl rfl fun h5 hl5 U5 R5=>st_loadN R5 rfl (kRet_pure rfl ?_ hq)
  exact ((U.trans U5 fun i hi he=>absurd he (by omega)):Upd (fun _=>False) h h5).ext
theorem intOf_p3 {n:Int} {h h1:AHeap} {id:Nat} (hid:h.length≤id) (U1:Upd (fun _=>False) h h1) (R:RecAt h1 id z5):∀ (m:Nat) (v:AV) (l:List UInt8) (hx:AHeap),m≤6→l.length+m≤10→Tx h1 hx v l→Q (.ag (leafC 0 2 false (l++beI m n))) h →
    Y9.p3 (kRet h Q) n (.p (some ⟨id,5,0⟩)) v ((m:Int) - 1) hx:=by
  intro m
  induction m with
  | zero =>
    intro v l hx hm hl T hq
    refine Y9.i3 ?_
    simp only [Y9.t3]
    refine bif_f (by simp) (T.str ?_)
    exact ret_leaf (h1:=h1) rfl (R.upd T.upd fun h=>h) hid (U1.trans T.upd fun _ _ h=>h) (by simpa [beI] using hq)
  | succ m ih =>
    intro v l hx hm hl T hq
    refine Y9.i3 ?_
    simp only [Y9.t3,Y9.j3]
    have e1:((m+1:Nat):Int) - 1=(m:Int):=by omega
    rw [e1]
    refine bif_t (by simp) (withI_is (n:=((8 * m:Nat):Int)) (by rw [wrap_i64 (by omega) (by omega)]; omega) (st_shrI (by omega) rfl ?_))
    rw [wrap_u8_mod]
    refine T.push (by omega) fun v' h' T'=>withI_is (wrap_i64 (by omega) (by omega)) (ih v' _ h' (by omega) (by simp; omega) T' ?_)
    simpa [beI] using hq
theorem intOf_c {n : Int} {h : AHeap} (hq : Q (.ag (intOfS n)) h) : C Y9.id [.i .i64 n] h Q := by
  refine Y9.call ?_
  simp only [Y9.t,Y9.j0]
  refine st_alloc fun h1 hl1 U1 R=>?_
  unfold intOfS at hq
  have p1:¬ intBig n→∀ m k,k+m=kI n→1≤k→Y9.p1 (kRet h Q) n (.p (some ⟨h.length,5,0⟩)) k h1:=by
    intro hb m
    rw [if_neg hb] at hq
    have hkb:=kI_bd n
    induction m with
    | zero =>
      intro k hk h1k
      have hk:k=kI n:=by omega
      have hf:=kI_fit hb
      rw [← hk] at hf hq hkb
      unfold fitI at hf
      have hp:=pw47 hkb.2
      generalize hy:2 ^ (8 * k - 1)=y at hf hp
      refine Y9.i1 ?_
      simp only [Y9.t1,Y9.j2]
      refine withI_is (n:=((8 * k:Nat):Int)) (by rw [wrap_i64 (by omega) (by omega)]; omega) ?_
      refine withI_is (n:=((8 * k - 1:Nat):Int)) (by rw [wrap_i64 (by omega) (by omega)]; omega) ?_
      refine st_shlI (n:=-(y:Int)) (by omega) (by rw [← hy]; simp) (by omega) (by omega) ?_
      refine bif_f (by simp; omega) ?_
      refine withI_is (n:=((8 * k:Nat):Int)) (by rw [wrap_i64 (by omega) (by omega)]; omega) ?_
      refine withI_is (n:=((8 * k - 1:Nat):Int)) (by rw [wrap_i64 (by omega) (by omega)]; omega) ?_
      refine st_shlI (n:=(y:Int)) (by omega) (by rw [← hy]; simp) (by omega) (by omega) ?_
      rw [decide_eq_false (by omega)]
      refine Y9.i2 ?_
      simp only [Y9.t2,Y9.j3]
      refine bif_f rfl (withI_is (wrap_i64 (by omega) (by omega)) ?_)
      exact intOf_p3 (h1:=h1) (Nat.le_refl _) U1 R k _ [] h1 (by omega) (by simp; omega) (Tx.start h1) hq
    | succ m ih =>
      intro k hk h1k
      have hf:=kI_least (n:=n) (j:=k) h1k (by omega)
      unfold fitI at hf
      have hp:=pw47 (k:=k) (by omega)
      generalize hy:2 ^ (8 * k - 1)=y at hf hp
      have next:Y9.p2 (kRet h Q) n (.p (some ⟨h.length,5,0⟩)) k true h1:=by
        refine Y9.i2 ?_
        simp only [Y9.t2,Y9.j1]
        exact bif_t rfl (inc (by omega) (ih (k+1) (by omega) (by omega)))
      refine Y9.i1 ?_
      simp only [Y9.t1,Y9.j2]
      refine withI_is (n:=((8 * k:Nat):Int)) (by rw [wrap_i64 (by omega) (by omega)]; omega) ?_
      refine withI_is (n:=((8 * k - 1:Nat):Int)) (by rw [wrap_i64 (by omega) (by omega)]; omega) ?_
      refine st_shlI (n:=-(y:Int)) (by omega) (by rw [← hy]; simp) (by omega) (by omega) ?_
      refine bif_both (fun e=>next) fun e=>?_
      simp only [decide_eq_false_iff_not] at e
      refine withI_is (n:=((8 * k:Nat):Int)) (by rw [wrap_i64 (by omega) (by omega)]; omega) ?_
      refine withI_is (n:=((8 * k - 1:Nat):Int)) (by rw [wrap_i64 (by omega) (by omega)]; omega) ?_
      refine st_shlI (n:=(y:Int)) (by omega) (by rw [← hy]; simp) (by omega) (by omega) ?_
      rw [decide_eq_true (by omega)]
      exact next
  have p0:∀ b,b=decide (intBig n)→Y9.p0 (kRet h Q) n (.p (some ⟨h.length,5,0⟩)) b h1:=by
    intro b hb
    refine Y9.i0 ?_
    simp only [Y9.t0,Y9.j1]
    refine bif_both (fun e=>?_) fun e=>?_
    · subst e
      rw [if_pos (by simpa using hb.symm)] at hq
      exact ret_leaf (h1:=h1) rfl R (Nat.le_refl _) U1 hq
    · subst e
      exact p1 (of_decide_eq_false hb.symm) (kI n - 1) 1 (by have:=kI_bd n; omega) (by omega)
  refine bif_both (fun e=>p0 _ ?_) fun e=>p0 _ ?_
  · simp only [decide_eq_true_eq] at e
    symm; rw [decide_eq_true_eq]; exact .inl e
  · simp only [decide_eq_false_iff_not] at e
    rw [decide_eq_decide]; unfold intBig; omega
end
end Go.Proofs.YtcdkpkkdolmfdaaGreatDoor
namespace Go.Proofs.YtcdkpkkdolmfdaaGreatDoor
open Go.GAM Go.RowKit
def leapN (y:Nat):Bool:=decide (y % 4=0)&&(!decide (y % 100=0)||decide (y % 400=0))
def daysN (y m:Nat):Nat:=if m=2 then (if leapN y=true then 29 else 28) else if m=4∨m=6∨m=9∨m=11 then 30 else 31
def yearN (y:Nat):Nat:=if leapN y=true then 366 else 365
def befN (y:Nat):Nat:=365 * (y - 1970)+((y - 1) / 4+(y - 1) / 400) - (y - 1) / 100 - 477
def monN (y:Nat):Nat→Nat
  | 0=>0
  | k+1=>monN y k+if k=0 then 0 else daysN y k
theorem bef_succ {y:Nat} (h:1970≤y):befN (y+1)=befN y+yearN y:=by
  unfold befN yearN leapN
  by_cases h4:y % 4=0
  · by_cases h100 : y % 100 = 0
    · by_cases h400 : y % 400 = 0
      · simp [h4,h100,h400]; omega
      · simp [h4,h100,h400]; omega
    · simp [h4,h100]; omega
  · simp [h4]; omega
theorem bef_0:befN 1970=0:=by decide
theorem yearN_bd (y:Nat):365≤yearN y∧yearN y≤366:=by unfold yearN; split <;> omega
theorem daysN_bd (y m:Nat):28≤daysN y m∧daysN y m≤31:=by
  unfold daysN
  repeat' split
  all_goals omega
theorem mon_succ {y m:Nat} (h:1≤m):monN y (m+1)=monN y m+daysN y m:=by
  show monN y m+(if m=0 then 0 else daysN y m)=_
  rw [if_neg (by omega)]
theorem mon_1 (y:Nat):monN y 1=0:=rfl
theorem mon_13 (y:Nat):monN y 13=yearN y:=by
  simp only [monN,daysN,yearN]
  cases leapN y <;> rfl
theorem mon_mono {y a b:Nat} (h:1≤a) (hab:a≤b):monN y a≤monN y b:=by
  obtain ⟨k,rfl⟩:∃ k,b=a+k:=⟨b - a,by omega⟩
  clear hab
  induction k with
  | zero=>exact Nat.le_refl _
  | succ k ih =>
    have:=mon_succ (y:=y) (m:=a+k) (by omega)
    rw [show a+(k+1)=a+k+1 by omega]; omega
theorem bef_mono {a b:Nat} (h:1970≤a) (hab:a≤b):befN a+365 * (b - a)≤befN b:=by
  obtain ⟨k,rfl⟩:∃ k,b=a+k:=⟨b - a,by omega⟩
  clear hab
  induction k with
  | zero=>simp
  | succ k ih =>
    have:=bef_succ (y:=a+k) (by omega)
    have:=(yearN_bd (a+k)).1
    rw [show a+(k+1)=a+k+1 by omega]; omega
theorem bef_up {a b:Nat} (h:1970≤a) (hab:a≤b):befN b≤befN a+366 * (b - a):=by
  obtain ⟨k,rfl⟩:∃ k,b=a+k:=⟨b - a,by omega⟩
  clear hab
  induction k with
  | zero=>simp
  | succ k ih =>
    have:=bef_succ (y:=a+k) (by omega)
    have:=(yearN_bd (a+k)).2
    rw [show a+(k+1)=a+k+1 by omega]; omega
section
variable {h0:AHeap} {Q:AV→AHeap→Prop}
theorem rem_n {a b:Nat} {K:Int→Prop} (hb:b≠0) (hk:K ((a % b:Nat):Int)):pRem (a:Int) (b:Int) K:=
  st_rem (by omega) (by rw [Int.tmod_eq_emod_of_nonneg (by omega)] <;> rfl) hk
theorem leap_c {y:Nat} {h:AHeap} (hq:Q (.b (leapN y)) h):C Y41.id [.i .i64 (y:Int)] h Q:=by
  refine Y41.call ?_
  simp only [Y41.t,Y41.j0]
  have p0:∀ b,b=leapN y→Y41.p0 (kRet h Q) b h:=by
    intro b hb
    refine Y41.i0 ?_
    simp only [Y41.t0]
    subst hb
    exact .inl hq
  unfold leapN at p0
  refine rem_n (b:=4) (by omega) (bif_both (fun e1=>rem_n (b:=100) (by omega) ?_) fun e1=>p0 _ ?_)
  · simp only [decide_eq_true_eq] at e1
    rw [decide_eq_true (by omega:y % 4=0),Bool.true_and] at p0
    refine bif_both (fun e2=>p0 _ ?_) fun e2=>rem_n (b:=400) (by omega) (p0 _ ?_)
    · have e2 : ((y % 100 : Nat) : Int) ≠ 0 := by simpa using e2
      rw [decide_eq_false (by omega:¬ y % 100=0)] <;> rfl
    · have e2 : ((y % 100 : Nat) : Int) = 0 := by simpa using e2
      rw [decide_eq_true (by omega:y % 100=0)]
      show decide _=decide _
      rw [decide_eq_decide]; omega
  · simp only [decide_eq_false_iff_not] at e1
    rw [decide_eq_false (by omega:¬ y % 4=0)] <;> rfl
theorem days_c {y m:Nat} {h:AHeap} (hq:Q (.i .i64 (daysN y m:Nat)) h):C Y32.id [.i .i64 (y:Int),.i .i64 (m:Int)] h Q:=by
  refine Y32.call ?_
  simp only [Y32.t,Y32.j0]
  unfold daysN at hq
  have p0:m≠2→∀ b,b=decide (m=4∨m=6∨m=9∨m=11)→Y32.p0 (kRet h Q) b h:=by
    intro h2 b hb
    rw [if_neg h2] at hq
    refine Y32.i0 ?_
    simp only [Y32.t0]
    refine bif_both (fun e=>?_) fun e=>?_
    · subst e; rw [if_pos (by simpa using hb.symm)] at hq; exact .inl hq
    · subst e; rw [if_neg (of_decide_eq_false hb.symm)] at hq; exact .inl hq
  refine bif_both (fun e=>leap_c (st_asB ?_)) fun e=>?_
  · rw [if_pos (by simp only [decide_eq_true_eq] at e; omega)] at hq
    refine bif_both (fun e=>?_) fun e=>?_
    · rw [if_pos e] at hq; exact .inl hq
    · rw [if_neg (by rw [e]; simp)] at hq; exact .inl hq
  have p0:=p0 (by simp only [decide_eq_false_iff_not] at e; omega)
  have fin:∀ b:Bool,(b=true↔(m=4∨m=6∨m=9∨m=11))→Y32.p0 (kRet h Q) b h:=fun b hb=>p0 b (by
    cases b with
    | true=>rw [decide_eq_true (hb.1 rfl)]
    | false=>rw [decide_eq_false (fun hh=>by have:=hb.2 hh; cases this)])
  refine bif_both (fun e1=>fin _ ?_) fun e1=>bif_both (fun e2=>fin _ ?_) fun e2=>bif_both (fun e3=>fin _ ?_) fun e3=>fin _ ?_
  all_goals (simp only [decide_eq_true_eq,decide_eq_false_iff_not] at *; omega)
theorem past_c {k:Nat} {h:AHeap} (hk:k≤100000) (hq:Q (.i .i64 ((k / 4+k / 400 - k / 100:Nat):Int)) h):C Y51.id [.i .i64 (k:Int)] h Q:=by
  refine Y51.call ?_
  simp only [Y51.t]
  refine quo_n (b:=4) (by omega) (by omega) (quo_n (b:=100) (by omega) (by omega) ?_)
  refine withI_is (n:=((k / 4 - k / 100:Nat):Int)) (by rw [wrap_i64 (by omega) (by omega)]; omega) (quo_n (b:=400) (by omega) (by omega) ?_)
  refine withI_is (n:=((k / 4+k / 400 - k / 100:Nat):Int)) (by rw [wrap_i64 (by omega) (by omega)]; omega) (.inl hq)
theorem before_c {y:Nat} {h:AHeap} (h1:1970≤y) (h2:y≤90000) (hq:Q (.i .i64 (befN y:Nat)) h):C Y50.id [.i .i64 (y:Int)] h Q:=by
  refine Y50.call ?_
  simp only [Y50.t]
  unfold befN at hq
  refine withI_is (n:=((y - 1970:Nat):Int)) (by rw [wrap_i64 (by omega) (by omega)]; omega) ?_
  refine withI_is (n:=((365 * (y - 1970):Nat):Int)) (by rw [wrap_i64 (by omega) (by omega)]; omega) ?_
  refine withI_is (n:=((y - 1:Nat):Int)) (by rw [wrap_i64 (by omega) (by omega)]; omega) ?_
  refine callV_c rfl (past_c (by omega) (st_asI ?_))
  refine withI_is (n:=((365 * (y - 1970)+((y - 1) / 4+(y - 1) / 400 - (y - 1) / 100):Nat):Int)) (by rw [wrap_i64 (by omega) (by omega)]; omega) ?_
  refine callV_c rfl (past_c (k:=1969) (by omega) (st_asI ?_))
  refine withI_is (n:=((365 * (y - 1970)+((y - 1) / 4+(y - 1) / 400) - (y - 1) / 100 - 477:Nat):Int)) (by rw [wrap_i64 (by omega) (by omega)]; omega) (.inl hq)
def twoS (k:Nat):List UInt8:=[UInt8.ofNat (48+k / 10 % 10),UInt8.ofNat (48+k % 10)]
theorem Tx.two {h0 h:AHeap} (U:Upd (fun _=>False) h0 h) {c d:UInt8} {K:AV→AHeap→Prop} (hk:∀ v h',Tx h0 h' v [c,d]→K v h'):pBuildSl 1 2 [.i .u8 0,.i .u8 0] [(0,1,.i .u8 (c.toNat:Int)),(1,1,.i .u8 (d.toNat:Int))] h K:=by
  refine ⟨rfl,hk _ _ ⟨U.trans (Upd.app _ _) fun _ _ h=>h,.inr ⟨h.length,newBlk [byteAV c,byteAV d] 1 true,rfl,by simp [byteAV]; rfl,rfl,rfl,rfl,Nat.le_refl _,rfl,rfl⟩,fun i hi=>?_⟩⟩
  cases hi; exact U.1
theorem two_c {k:Nat} {h:AHeap} (hk:k<100) (hq:Q (.s (twoS k)) h):C Y48.id [.i .i64 (k:Int)] h Q:=by
  refine Y48.call ?_
  simp only [Y48.t]
  refine quo_n (b:=10) (by omega) (by omega) ?_
  refine withI_is (n:=((48+k / 10 % 10:Nat):Int)) (by rw [wrap_i64 (by omega) (by omega)]; omega) (rem_n (b:=10) (by omega) ?_)
  refine withI_is (n:=((48+k % 10:Nat):Int)) (by rw [wrap_i64 (by omega) (by omega)]; omega) ?_
  rw [wrap_u8_nat,wrap_u8_nat,byte_mod,byte_mod]
  exact Tx.two (Upd.refl _ _) fun v h' T=>T.ret hq
theorem two_mod (y:Nat):twoS (y % 100)=twoS y:=by
  unfold twoS
  rw [show y % 100 / 10 % 10=y / 10 % 10 by omega,show y % 100 % 10=y % 10 by omega]
structure Date (day y m d:Nat):Prop where
  y0:1970≤y
  y1:befN y≤day
  y2:day<befN (y+1)
  m0:1≤m
  m1:m≤12
  d0:day=befN y+monN y m+d
  d1:d<daysN y m
theorem date_is (day : Nat) : ∃ y m d, Date day y m d := by
  have hy : ∃ y, 1970 ≤ y ∧ befN y ≤ day ∧ day < befN (y + 1) := by
    have go:∀ k,(∃ y,1970≤y∧befN y≤day∧day<befN (y+1))∨befN (1970+k)≤day:=by
      intro k
      induction k with
      | zero=>right; rw [Nat.add_zero,bef_0]; omega
      | succ k ih =>
        rcases ih with h | h
        · exact .inl h
        · by_cases hd : day < befN (1970 + k + 1)
          · exact .inl ⟨1970+k,by omega,h,hd⟩
          · exact .inr (by rw [show 1970+(k+1)=1970+k+1 by omega]; omega)
    rcases go (day+1) with h | h
    · exact h
    · have := bef_mono (a := 1970) (b := 1970 + (day + 1)) (by omega) (by omega)
      omega
  obtain ⟨y,h1,h2,h3⟩:=hy
  have hb:=bef_succ h1
  have hm : ∃ m, 1 ≤ m ∧ m ≤ 12 ∧ monN y m ≤ day - befN y ∧ day - befN y < monN y (m + 1) := by
    have go:∀ k,k≤12→(∃ m,1≤m∧m≤12∧monN y m≤day - befN y∧day - befN y<monN y (m+1))∨monN y (1+k)≤day - befN y:=by
      intro k
      induction k with
      | zero=>intro _; right; rw [Nat.add_zero,mon_1]; omega
      | succ k ih =>
        intro hk
        rcases ih (by omega) with h | h
        · exact .inl h
        · by_cases hd : day - befN y < monN y (1 + k + 1)
          · exact .inl ⟨1+k,by omega,by omega,h,hd⟩
          · exact .inr (by rw [show 1+(k+1)=1+k+1 by omega]; omega)
    rcases go 12 (by omega) with h | h
    · exact h
    · have := mon_13 y
      rw [show 1+12=13 from rfl] at h
      omega
  obtain ⟨m,m0,m1,m2,m3⟩:=hm
  have:=mon_succ (y:=y) m0
  exact ⟨y,m,day - befN y - monN y m,h1,h2,h3,m0,m1,by omega,by omega⟩
def clockS (y m d r:Nat):List UInt8:=twoS y++twoS m++twoS (d+1)++twoS (r / 3600)++twoS (r / 60 % 60)++twoS (r % 60)++[90]
def timeOfS (y m d r:Nat):List AV:=if y<2050 then leafC 0 23 false (clockS y m d r) else leafC 0 24 false (twoS (y / 100)++clockS y m d r)
theorem twoS_len (k:Nat):(twoS k).length=2:=rfl
theorem Date.y4 {day y m d:Nat} (D:Date day y m d) (h:day≤2932896):y≤9999:=by
  have h1:=D.y1
  have h2:befN 10000=2932897:=by decide
  rcases Nat.lt_or_ge y 10000 with h | h
  · omega
  · have:=bef_mono (a:=10000) (by omega) h; omega
theorem timeOf_c {n y m d : Nat} {h : AHeap} (hn : n ≤ 253402300799) (D : Date (n / 86400) y m d) (hq : Q (.ag (timeOfS y m d (n % 86400))) h) : C Y15.id [.i .i64 (n : Int)] h Q := by
  have hday:n / 86400≤2932896:=by omega
  have hy:=D.y4 hday
  have hr:n % 86400<86400:=Nat.mod_lt _ (by omega)
  refine Y15.call ?_
  simp only [Y15.t,Y15.j0]
  refine st_alloc fun h1 hl1 U1 R=>?_
  refine bif_f (by simp) (quo_n (b:=86400) (by omega) (by omega) (before_c (y:=10000) (by omega) (by omega) (st_asI ?_)))
  rw [decide_eq_false (by rw [show befN 10000=2932897 by decide]; omega)]
  refine Y15.i0 ?_
  simp only [Y15.t0,Y15.j1]
  refine bif_f rfl (quo_n (b:=86400) (by omega) (by omega) (rem_n (b:=86400) (by omega) ?_))
  generalize n / 86400=day at *
  generalize n % 86400=r at *
  refine quo_n (b:=366) (by omega) (by omega) ?_
  refine withI_is (n:=((1970+day / 366:Nat):Int)) (by rw [wrap_i64 (by omega) (by omega)]; omega) ?_
  obtain ⟨y0,y1,y2,m0,m1,d0,d1⟩:=D
  have p2:∀ k m',m'+k=m→1≤m'→Y15.p2 (kRet h Q) (.p (some ⟨h.length,5,0⟩)) ((monN y m+d - monN y m':Nat):Int) r y m' h1:=by
    intro k
    induction k with
    | zero =>
      intro m' hm' _
      have:m'=m:=by omega
      subst this
      refine Y15.i2 ?_
      simp only [Y15.t2]
      refine days_c (st_asI (bif_f (by rw [decide_eq_false_iff_not]; omega) ?_))
      have hd31:=daysN_bd y m'
      refine rem_n (b:=100) (by omega) (callV_c rfl (two_c (by omega) (st_asS (callV_c rfl (two_c (by omega) (st_asS ⟨by simp [twoS_len], ?_⟩))))))
      refine withI_is (n:=((d+1:Nat):Int)) (by rw [wrap_i64 (by omega) (by omega)]; omega) (callV_c rfl (two_c (by omega) (st_asS ⟨by simp [twoS_len], ?_⟩)))
      refine quo_n (b:=3600) (by omega) (by omega) (callV_c rfl (two_c (by omega) (st_asS ⟨by simp [twoS_len], ?_⟩)))
      refine quo_n (b:=60) (by omega) (by omega) (rem_n (b:=60) (by omega) (callV_c rfl (two_c (by omega) (st_asS ⟨by simp [twoS_len], ?_⟩))))
      refine rem_n (b:=60) (by omega) (callV_c rfl (two_c (by omega) (st_asS ⟨by simp [twoS_len],⟨by simp [twoS_len], ?_⟩⟩)))
      rw [two_mod]
      unfold timeOfS at hq
      by_cases hy50:y<2050
      · rw [if_pos hy50] at hq
        exact bif_t (by rw [decide_eq_true_eq]; omega) (ret_leaf (h1:=h1) rfl R (Nat.le_refl _) U1 hq)
      · rw [if_neg hy50] at hq
        refine bif_f (by rw [decide_eq_false_iff_not]; omega) (quo_n (b:=100) (by omega) (by omega) (callV_c rfl (two_c (by omega) (st_asS ⟨by simp [twoS_len], ?_⟩))))
        exact ret_leaf (h1:=h1) rfl R (Nat.le_refl _) U1 hq
    | succ k ih =>
      intro m' hm' h1m
      have hms:=mon_succ (y:=y) h1m
      have hmm:=mon_mono (y:=y) (a:=m'+1) (b:=m) (by omega) (by omega)
      refine Y15.i2 ?_
      simp only [Y15.t2,Y15.j2]
      refine days_c (st_asI (bif_t (by rw [decide_eq_true_eq]; omega) (days_c (st_asI ?_))))
      refine withI_is (n:=((monN y m+d - monN y (m'+1):Nat):Int)) (by rw [wrap_i64 (by omega) (by omega)]; omega) (inc (by omega) ?_)
      exact ih (m'+1) (by omega) (by omega)
  have p1:∀ k y',y'+k=y→1970≤y'→Y15.p1 (kRet h Q) (.p (some ⟨h.length,5,0⟩)) day r y' h1:=by
    intro k
    induction k with
    | zero =>
      intro y' hy' _
      have:y'=y:=by omega
      subst this
      refine Y15.i1 ?_
      simp only [Y15.t1,Y15.j2]
      refine inc (by omega) (before_c (by omega) (by omega) (st_asI (bif_f (by rw [decide_eq_false_iff_not]; omega) (before_c (by omega) (by omega) (st_asI ?_)))))
      refine withI_is (n:=((monN y' m+d - monN y' 1:Nat):Int)) (by rw [wrap_i64 (by omega) (by omega),mon_1]; omega) ?_
      exact p2 (m - 1) 1 (by omega) (by omega)
    | succ k ih =>
      intro y' hy' h1y
      have:=bef_mono (a:=y'+1) (b:=y) (by omega) (by omega)
      refine Y15.i1 ?_
      simp only [Y15.t1,Y15.j1]
      refine inc (by omega) (before_c (by omega) (by omega) (st_asI (bif_t (by rw [decide_eq_true_eq]; omega) ?_)))
      exact inc (by omega) (ih (y'+1) (by omega) (by omega))
  have hle:1970+day / 366≤y:=by
    have h1:=bef_up (a:=1970) (b:=1970+day / 366) (by omega) (by omega)
    rw [bef_0] at h1
    rcases Nat.lt_or_ge y (1970+day / 366) with h2 | h2
    · have := bef_mono (a := y + 1) (b := 1970 + day / 366) (by omega) (by omega)
      omega
    · exact h2
  exact p1 (y - (1970+day / 366)) (1970+day / 366) (by omega) (by omega)
end
end Go.Proofs.YtcdkpkkdolmfdaaGreatDoor
namespace Go.GAM
end Go.GAM
namespace Go.Proofs.YtcdkpkkdolmfdaaGreatDoor
open Go.GAM Go.RowKit
def pairsN:List UInt8→List Nat
  | a :: b :: r=>((a.toNat - 48) * 10+(b.toNat - 48)) :: pairsN r
  | _=>[]
def secN (y mo da h mi s:Nat):Nat:=(befN y+monN y mo+da - 1) * 86400+h * 3600+mi * 60+s
def badT (y mo da h mi s:Nat):Prop:=y<1970∨mo<1∨12<mo∨da<1∨daysN y mo<da∨23<h∨59<mi∨59<s
instance (y mo da h mi s:Nat):Decidable (badT y mo da h mi s):=by unfold badT; infer_instance
def finT (y mo da h mi s:Nat):Int × Bool:=if badT y mo da h mi s then (0,false) else ((secN y mo da h mi s:Nat),true)
def finL (p:List Nat):Int × Bool:=match p with
  | [a,b,mo,da,h,mi,s]=>finT (100 * a+b) mo da h mi s
  | _=>(0,false)
def fullS (d:Der):Option (List UInt8):=
  if dPlain 24 d=true then (if d.data.length=15 then some d.data else none) else
  if dPlain 23 d=true then (if d.data.length=13 then some ((if 53≤(d.data.getD 0 0).toNat then [49,57] else [50,48])++d.data) else none) else none
def timeS (d:Der):Int × Bool:=match fullS d with
  | none=>(0,false)
  | some s=>if s.getD 14 0=90∧(s.take 14).all digB=true then finL (pairsN (s.take 14)) else (0,false)
theorem monN_bd (y m:Nat):monN y m≤31 * m:=by
  induction m with
  | zero=>simp [monN]
  | succ k ih =>
    have:=daysN_bd y k
    show monN y k+(if k=0 then 0 else daysN y k)≤_
    split <;> omega
theorem bef_bd {y:Nat} (h:1970≤y) (h2:y≤89999):befN y≤40000000:=by
  have:=bef_up (a:=1970) (b:=y) (by omega) h
  rw [bef_0] at this; omega
section
variable {h0:AHeap} {Q:AV→AHeap→Prop}
theorem time1_c (c:UInt8) (h:AHeap) (K:AV→AHeap→Prop) (hk:K (.b (digB c)) h):C Y42.id [.i .u8 (c.toNat:Int)] h K:=by
  refine Y42.call ?_
  simp only [Y42.t,Y42.j0]
  have p0:∀ b,b=digB c→Y42.p0 (kRet h K) b h:=by
    intro b hb
    refine Y42.i0 ?_
    simp only [Y42.t0]
    subst hb
    exact .inl hk
  unfold digB at p0
  refine bif_both (fun e=>p0 _ ?_) fun e=>p0 _ ?_
  · simp only [decide_eq_true_eq] at e
    rw [decide_eq_true (by omega:48≤c.toNat),Bool.true_and,decide_eq_decide]; omega
  · simp only [decide_eq_false_iff_not] at e
    rw [decide_eq_false (by omega:¬ 48≤c.toNat)] <;> rfl
def timeR (x:Int × Bool):AV:=.tu [.i .i64 x.1,.b x.2]
theorem time_p5 {h hx:AHeap} {v:AV} {y x mo da hh mi s:Nat} (E:Ext h hx) (R:Rd 1 hx v ([x,mo,da,hh,mi,s].map num) 6) (hy:1970≤y) (hy2:y≤89999) (hmo:mo≤12) (hda:1≤da∧da≤31) (h23:hh≤99) (h59:mi≤99) (h60:s≤99)
    (hq:Q (.tu [.i .i64 (secN y mo da hh mi s:Nat),.b true]) h):∀ k m',m'+k=mo→1≤m'→Y2.p5 (kRet h Q) v y ((befN y+monN y m'+da - 1:Nat):Int) m' hx:=by
  have hb:=bef_bd hy hy2
  intro k
  induction k with
  | zero =>
    intro m' hm h1
    have:m'=mo:=by omega
    subst this
    have hm:=monN_bd y m'
    refine Y2.i5 ?_
    simp only [Y2.t5]
    refine R.nat (i:=1) (by omega) rfl (bif_f (by rw [decide_eq_false_iff_not]; omega) ?_)
    unfold secN at hq
    refine withI_is (n:=(((befN y+monN y m'+da - 1) * 86400:Nat):Int)) (by rw [wrap_i64 (by omega) (by omega)]; omega) (R.nat (i:=3) (by omega) rfl ?_)
    refine withI_is (n:=((hh * 3600:Nat):Int)) (by rw [wrap_i64 (by omega) (by omega)]; omega) ?_
    refine withI_is (n:=(((befN y+monN y m'+da - 1) * 86400+hh * 3600:Nat):Int)) (by rw [wrap_i64 (by omega) (by omega)]; omega) (R.nat (i:=4) (by omega) rfl ?_)
    refine withI_is (n:=((mi * 60:Nat):Int)) (by rw [wrap_i64 (by omega) (by omega)]; omega) ?_
    refine withI_is (n:=(((befN y+monN y m'+da - 1) * 86400+hh * 3600+mi * 60:Nat):Int)) (by rw [wrap_i64 (by omega) (by omega)]; omega) (R.nat (i:=5) (by omega) rfl ?_)
    refine withI_is (n:=(((befN y+monN y m'+da - 1) * 86400+hh * 3600+mi * 60+s:Nat):Int)) (by rw [wrap_i64 (by omega) (by omega)]; omega) (kRet_pure rfl E hq)
  | succ k ih =>
    intro m' hm h1
    have hms:=mon_succ (y:=y) h1
    have hmb:=monN_bd y m'
    have hdb:=daysN_bd y m'
    refine Y2.i5 ?_
    simp only [Y2.t5,Y2.j5]
    refine R.nat (i:=1) (by omega) rfl (bif_t (by rw [decide_eq_true_eq]; omega) (days_c (st_asI ?_)))
    refine withI_is (n:=((befN y+monN y (m'+1)+da - 1:Nat):Int)) (by rw [wrap_i64 (by omega) (by omega)]; omega) (inc (by omega) ?_)
    exact ih (m'+1) (by omega) (by omega)
theorem time_p3 {h hx:AHeap} {v:AV} {y x mo da hh mi s:Nat} (E:Ext h hx) (R:Rd 1 hx v ([x,mo,da,hh,mi,s].map num) 6) (hy2:y≤89999) (hmo2:mo≤99) (hda2:da≤99) (h23:hh≤99) (h59:mi≤99) (h60:s≤99)
    (hq:Q (timeR (finT y mo da hh mi s)) h):Y2.p3 (kRet h Q) v y hx:=by
  obtain ⟨id,ver,off,cap,b,rfl,A⟩:=R.at (by omega)
  have R:=A.rd cap
  unfold finT timeR at hq
  have p4:∀ b:Bool,(b=true↔badT y mo da hh mi s)→Y2.p4 (kRet h Q) (.sl (some ⟨id,ver,off⟩) 6 cap) y b hx:=by
    intro b hb
    refine Y2.i4 ?_
    simp only [Y2.t4,Y2.j5]
    refine bif_both (fun e=>?_) fun e=>?_
    · rw [if_pos (hb.1 e)] at hq
      exact kRet_pure rfl E hq
    · have hg : ¬ badT y mo da hh mi s := fun hh => by have := hb.2 hh; rw [e] at this; cases this
      rw [if_neg hg] at hq
      unfold badT at hg
      have hdd:=daysN_bd y mo
      have hbb:=bef_bd (y:=y) (by omega) hy2
      refine st_idx A (i:=2) (by omega) (st_num A (by omega) rfl (before_c (by omega) (by omega) (st_asI (st_num A (by omega) rfl ⟨rfl,st_idx A (i:=2) (by omega) ⟨rfl, ?_⟩⟩))))
      refine withI_is (n:=((befN y+da:Nat):Int)) (by rw [wrap_i64 (by omega) (by omega)]; omega) ?_
      refine withI_is (n:=((befN y+monN y 1+da - 1:Nat):Int)) (by rw [mon_1,wrap_i64 (by omega) (by omega)]; omega) ?_
      exact time_p5 E R (by omega) hy2 (by omega) (by omega) h23 h59 h60 hq (mo - 1) 1 (by omega) (by omega)
  have hdd:=daysN_bd y mo
  unfold badT at p4
  refine Y2.i3 ?_
  simp only [Y2.t3,Y2.j4]
  refine bif_both (fun e1=>p4 _ ?_) fun e1=>st_idx A (i:=1) (by omega) (st_num A (by omega) rfl ?_)
  · simp only [decide_eq_true_eq] at e1; simp; omega
  refine bif_both (fun e2=>p4 _ ?_) fun e2=>st_idx A (i:=1) (by omega) (st_num A (by omega) rfl ?_)
  · simp only [decide_eq_true_eq] at e2; simp; omega
  refine bif_both (fun e3=>p4 _ ?_) fun e3=>st_idx A (i:=2) (by omega) (st_num A (by omega) rfl ?_)
  · simp only [decide_eq_true_eq] at e3; simp; omega
  refine bif_both (fun e4=>p4 _ ?_) fun e4=>st_idx A (i:=2) (by omega) (st_num A (by omega) rfl (st_idx A (i:=1) (by omega) (st_num A (by omega) rfl (days_c (st_asI ?_)))))
  · simp only [decide_eq_true_eq] at e4; simp; omega
  simp only [decide_eq_false_iff_not] at e1 e2 e3 e4
  refine st_idx A (i:=1) (by omega) ⟨rfl,st_num A (by omega) rfl ⟨rfl,st_idx A (i:=2) (by omega) ⟨rfl,st_num A (by omega) rfl ⟨rfl,st_idx A (i:=2) (by omega) ⟨rfl,st_num A (by omega) rfl ⟨rfl,st_idx A (i:=1) (by omega) ⟨rfl,st_num A (by omega) rfl ⟨rfl,st_idx A (i:=1) (by omega) ⟨rfl, ?_⟩⟩⟩⟩⟩⟩⟩⟩⟩
  refine bif_both (fun e5=>p4 _ ?_) fun e5=>R.nat (i:=3) (by omega) rfl ?_
  · simp only [decide_eq_true_eq] at e5; simp; omega
  refine bif_both (fun e6=>p4 _ ?_) fun e6=>R.nat (i:=4) (by omega) rfl ?_
  · simp only [decide_eq_true_eq] at e6; simp; omega
  refine bif_both (fun e7=>p4 _ ?_) fun e7=>R.nat (i:=5) (by omega) rfl (p4 _ ?_)
  · simp only [decide_eq_true_eq] at e7; simp; omega
  simp only [decide_eq_false_iff_not] at e5 e6 e7
  rw [decide_eq_true_eq]; omega
theorem pairsN_bd:∀ (l:List UInt8),l.all digB=true→∀ n∈pairsN l,n≤99
  | [],_,n,hn=>by simp [pairsN] at hn
  | [a],_,n,hn=>by simp [pairsN] at hn
  | a :: b :: r, h, n, hn => by
    simp only [List.all_cons,Bool.and_eq_true] at h
    have:=digB_bd h.1
    have:=digB_bd h.2.1
    simp only [pairsN,List.mem_cons] at hn
    rcases hn with rfl | hn
    · omega
    · exact pairsN_bd r h.2.2 n hn
theorem pairsN_len:∀ l:List UInt8,(pairsN l).length=l.length / 2
  | []=>by simp [pairsN]
  | [a]=>by simp [pairsN]
  | a :: b :: r => by
    have:=pairsN_len r
    simp only [pairsN,List.length_cons,this]; omega
theorem list7 {α:Type} {l:List α} (h:l.length=7):∃ a b c d e f g,l=[a,b,c,d,e,f,g]:=by
  match l,h with
  | [a,b,c,d,e,f,g],_=>exact ⟨a,b,c,d,e,f,g,rfl⟩
theorem list6 {α:Type} {l:List α} (h:l.length=6):∃ a b c d e f,l=[a,b,c,d,e,f]:=by
  match l,h with
  | [a,b,c,d,e,f],_=>exact ⟨a,b,c,d,e,f,rfl⟩
theorem time_p2 {h hx0:AHeap} {sz:Nat}:∀ (k:Nat) (ds:List UInt8) (done:List Nat) (v:AV) (hx:AHeap),ds.length=2 * k→k≤100→done.length+k≤100→ds.all digB=true→NewS hx0 hx v (done.map num) →
    (∀ v hx,NewS hx0 hx v ((done++pairsN ds).map num)→Y2.p2 (kRet h Q) sz [] v hx)→Y2.p2 (kRet h Q) sz ds v hx:=by
  intro k
  induction k with
  | zero =>
    intro ds done v hx hl _ _ _ S fin
    have:ds=[]:=List.eq_nil_of_length_eq_zero (by omega)
    subst this
    exact fin v hx (by simpa [pairsN] using S)
  | succ k ih =>
    intro ds done v hx hl hk hd hall S fin
    match ds,hl with
    | [],hl=>simp at hl
    | [a],hl=>simp at hl; omega
    | a :: b :: r, hl =>
      simp only [List.all_cons,Bool.and_eq_true] at hall
      have ha:=digB_bd hall.1
      have hb:=digB_bd hall.2.1
      refine Y2.i2 ?_
      simp only [Y2.t2,Y2.j2]
      refine bif_t (by simp) (st_at (i:=0) rfl ?_)
      refine withI_is (n:=((a.toNat - 48:Nat):Int)) (by rw [wrap_u8 (by omega) (by omega)]; omega) ?_
      refine withI_is (n:=(((a.toNat - 48) * 10:Nat):Int)) (by rw [wrap_i64 (n:=((a.toNat - 48:Nat):Int)) (by omega) (by omega),wrap_i64 (by omega) (by omega)]; omega) (st_at (i:=1) rfl ?_)
      refine withI_is (n:=((b.toNat - 48:Nat):Int)) (by rw [wrap_u8 (by omega) (by omega)]; omega) ?_
      refine withI_is (n:=(((a.toNat - 48) * 10+(b.toNat - 48):Nat):Int)) (by rw [wrap_i64 (n:=((b.toNat - 48:Nat):Int)) (by omega) (by omega),wrap_i64 (by omega) (by omega)]; omega) ?_
      refine S.push rfl rfl (by simp; omega) (by simp; omega) fun v' h' S' _ _=>st_subs (lo:=2) (by simp) ?_
      refine ih r (done++[(a.toNat - 48) * 10+(b.toNat - 48)]) v' h' (by simp at hl; omega) (by omega) (by simp; omega) hall.2.2 (by rw [List.map_append]; exact S') fun v2 h2 S2=>fin v2 h2 ?_
      simpa [pairsN] using S2
theorem getD_last {l:List UInt8} {n:Nat} (h:l.length=n+1):∃ c,l[n]? = some c∧l.getD n 0=c:=by
  obtain ⟨c,hc⟩:∃ c,l[n]? = some c:=⟨_,List.getElem?_eq_getElem (by omega)⟩
  exact ⟨c,hc,getD_some hc⟩
theorem time_c {d : Der} {cs : List AV} {F : Nat → Prop} {h : AHeap} (D : DV h F d cs) (hs : d.data.length ≤ 100000) (hq : Q (timeR (timeS d)) h) : C Y2.id [.ag cs] h Q := by
  refine Y2.call ?_
  simp only [Y2.t,Y2.j0]
  refine D.box fun h1 hl1 U1 B D1=>st_loadN B D.len.symm (plain_c D1 (st_asB ?_))
  have p1bad:∀ sz:Nat,timeS d=(0,false)→Y2.p1 (kRet h Q) (.p (some ⟨h.length,5,0⟩)) sz true h1:=by
    intro sz he
    rw [he] at hq
    refine Y2.i1 ?_
    simp only [Y2.t1]
    exact bif_t rfl (kRet_pure rfl U1.ext hq)
  have p1 : ∀ n : Nat, (n = 12 ∨ n = 14) → d.data.length = n + 1 →
      (timeS d=if (d.data.take n).all digB=true then (if n=14 then finL (pairsN (d.data.take 14)) else finL ((if 50≤(pairsN (d.data.take 12)).getD 0 0 then 19 else 20) :: pairsN (d.data.take 12))) else (0,false)) →
      Y2.p1 (kRet h Q) (.p (some ⟨h.length,5,0⟩)) ((n+1:Nat):Int) false h1:=by
    intro n hn hl he
    rw [he] at hq
    refine Y2.i1 ?_
    simp only [Y2.t1,Y2.j2]
    refine bif_f rfl (st_fld (st_load B D.len.symm D.dat (st_asS ?_)))
    refine withI_is (n:=(n:Int)) (by rw [wrap_i64 (by omega) (by omega)]; omega) (st_subs1 (by omega) (Tx.ofStr fun v h2 T=>?_))
    have E2:=(U1.trans T.upd fun _ _ h=>h)
    refine all_byte_c (p:=digB) rfl time1_c T.byt (by simp; omega) (st_asB ?_)
    cases ha:(d.data.take n).all digB with
    | false =>
      rw [ha,if_neg (by simp)] at hq
      exact bif_t rfl (kRet_pure rfl E2.ext hq)
    | true =>
      rw [ha,if_pos rfl] at hq
      refine bif_f rfl ?_
      have hbd:=pairsN_bd _ ha
      have hpl:=pairsN_len (d.data.take n)
      rw [List.length_take,Nat.min_eq_left (by omega)] at hpl
      refine time_p2 (sz:=n+1) (n / 2) (d.data.take n) [] _ h2 (by rw [List.length_take]; omega) (by omega) (by simp; omega) ha (NewS.start h2) fun v hx S=>?_
      rw [List.nil_append] at S
      have E:Ext h hx:=(E2.trans S.upd fun _ _ h=>h).ext
      have R:=S.stk.rd
      rw [List.length_map] at R
      refine Y2.i2 ?_
      simp only [Y2.t2,Y2.j3]
      refine bif_f (by simp) ?_
      rcases hn with rfl | rfl
      · rw [if_neg (by omega)] at hq
        obtain ⟨b,mo,da,hh,mi,s,hp⟩:=list6 hpl
        rw [hp] at hq R hbd
        have bb:=hbd b (by simp)
        refine R.nat (i:=0) (by simp) rfl ?_
        refine withI_is (n:=((b+2000:Nat):Int)) (by rw [wrap_i64 (by omega) (by omega)]; omega) (bif_f (by simp) (R.nat (i:=0) (by simp) rfl ?_))
        have hq:Q (timeR (finT ((if 50≤b then 1900 else 2000)+b) mo da hh mi s)) h:=by
          have e:finL ((if 50≤b then 19 else 20) :: [b,mo,da,hh,mi,s])=finT ((if 50≤b then 1900 else 2000)+b) mo da hh mi s:=by
            unfold finL
            simp only
            congr 1
            split <;> omega
          rw [← e]; exact hq
        refine bif_both (fun e=>R.nat (i:=0) (by simp) rfl ?_) fun e=>?_
        · rw [if_pos (by simp only [decide_eq_true_eq] at e; omega)] at hq
          refine withI_is (n:=((1900+b:Nat):Int)) (by rw [wrap_i64 (by omega) (by omega)]; omega) ?_
          exact time_p3 E R (by omega) (hbd _ (by simp)) (hbd _ (by simp)) (hbd _ (by simp)) (hbd _ (by simp)) (hbd _ (by simp)) hq
        · rw [if_neg (by simp only [decide_eq_false_iff_not] at e; omega)] at hq
          rw [Nat.add_comm]
          exact time_p3 E R (by omega) (hbd _ (by simp)) (hbd _ (by simp)) (hbd _ (by simp)) (hbd _ (by simp)) (hbd _ (by simp)) hq
      · rw [if_pos rfl] at hq
        obtain ⟨a,b,mo,da,hh,mi,s,hp⟩:=list7 hpl
        rw [hp] at hq R hbd
        have ba:=hbd a (by simp)
        have bb:=hbd b (by simp)
        refine R.nat (i:=0) (by simp) rfl ?_
        refine withI_is (n:=((a+2000:Nat):Int)) (by rw [wrap_i64 (by omega) (by omega)]; omega) (bif_t (by simp) (R.nat (i:=0) (by simp) rfl ?_))
        refine withI_is (n:=((100 * a:Nat):Int)) (by rw [wrap_i64 (by omega) (by omega)]; omega) (R.nat (i:=1) (by simp) rfl ?_)
        refine withI_is (n:=((100 * a+b:Nat):Int)) (by rw [wrap_i64 (by omega) (by omega)]; omega) (R.dropAt Nat.one_pos (lo:=1) (by simp) fun v' R'=>?_)
        exact time_p3 E R' (by omega) (hbd _ (by simp)) (hbd _ (by simp)) (hbd _ (by simp)) (hbd _ (by simp)) (hbd _ (by simp)) hq
  have p0:∀ n:Nat,(n=12∨n=14)→(d.data.length≠n+1→timeS d=(0,false)) →
      (d.data.length=n+1→timeS d=if d.data.getD n 0=90∧(d.data.take n).all digB=true then (if n=14 then finL (pairsN (d.data.take 14)) else finL ((if 50≤(pairsN (d.data.take 12)).getD 0 0 then 19 else 20) :: pairsN (d.data.take 12))) else (0,false)) →
      Y2.p0 (kRet h Q) (.p (some ⟨h.length,5,0⟩)) ((n+1:Nat):Int) h1:=by
    intro n hn he1 he2
    refine Y2.i0 ?_
    simp only [Y2.t0,Y2.j1]
    refine st_fld (st_load B D.len.symm D.dat (st_asS ?_))
    by_cases hl:d.data.length=n+1
    · refine bif_f (by rw [hl]; simp) (st_fld (st_load B D.len.symm D.dat (st_asS ?_)))
      refine withI_is (n:=(n:Int)) (by rw [wrap_i64 (by omega) (by omega)]; omega) ?_
      obtain ⟨c,hc1,hc2⟩:=getD_last hl
      have he2:=he2 hl
      rw [hc2] at he2
      refine idxStr hc1 ?_
      rw [show (90:Int)=(((90:UInt8).toNat:Nat):Int) from rfl,eq_byte]
      by_cases h90:c=90
      · rw [decide_eq_true h90]
        refine p1 n hn hl ?_
        rw [he2]
        simp [h90]
      · rw [decide_eq_false h90]
        refine p1bad _ ?_
        rw [he2,if_neg (fun hh=>h90 hh.1)]
    · refine bif_t (by simp; omega) (p1bad _ (he1 hl))
  refine bif_both (fun e=>p0 14 (.inr rfl) (fun hl=>?_) fun hl=>?_) fun e=>st_loadN B D.len.symm (plain_c D1 (st_asB ?_))
  · unfold timeS fullS
    rw [if_pos e,if_neg hl]
  · unfold timeS fullS
    rw [if_pos e,if_pos hl]
    simp only [if_true]
  · refine bif_both (fun e2 => ?_) fun e2 => p0 12 (.inl rfl) (fun hl => ?_) fun hl => ?_
    · have : timeS d = (0, false) := by
        unfold timeS fullS
        rw [if_neg (by rw [e]; simp),if_neg (by have:=e2; simp at this; rw [this]; simp)]
      rw [this] at hq
      exact kRet_pure rfl U1.ext hq
    · unfold timeS fullS
      rw [if_neg (by rw [e]; simp),if_pos (by simpa using e2),if_neg hl]
    · have hp : dPlain 23 d = true := by simpa using e2
      obtain ⟨c0,r,hd⟩:∃ c0 r,d.data=c0 :: r:=by
        cases hd:d.data with
        | nil=>rw [hd] at hl; cases hl
        | cons a r=>exact ⟨a,r,rfl⟩
      obtain ⟨c1,r',hr⟩:∃ c1 r',r=c1 :: r':=by
        cases r with
        | nil=>rw [hd] at hl; cases hl
        | cons a r=>exact ⟨a,r,rfl⟩
      unfold timeS fullS
      rw [if_neg (by rw [e]; simp),if_pos hp,if_pos hl]
      simp only
      have h0:d.data.getD 0 0=c0:=by rw [hd] <;> rfl
      have t12:d.data.take 12=c0 :: c1 :: r'.take 10:=by rw [hd,hr] <;> rfl
      rw [h0]
      have key:∀ x y:UInt8,digB x=true→digB y=true→(([x,y]++d.data).getD 14 0=d.data.getD 12 0)∧(([x,y]++d.data).take 14).all digB=(d.data.take 12).all digB∧pairsN (([x,y]++d.data).take 14)=((x.toNat - 48) * 10+(y.toNat - 48)) :: pairsN (d.data.take 12):=by
        intro x y hx hy
        exact ⟨rfl,by simp [hx,hy],rfl⟩
      by_cases h53:53≤c0.toNat
      · rw [if_pos h53]
        obtain ⟨k1,k2,k3⟩:=key 49 57 (by decide) (by decide)
        rw [k1,k2,k3]
        by_cases hc:d.data.getD 12 0=90∧(d.data.take 12).all digB=true
        · rw [if_pos hc, if_pos hc]
          simp only [if_neg (show ¬ (12=14) by omega)]
          have hg:(pairsN (d.data.take 12)).getD 0 0=(c0.toNat - 48) * 10+(c1.toNat - 48):=by rw [t12] <;> rfl
          rw [hg,if_pos (by omega)] <;> rfl
        · rw [if_neg hc,if_neg hc]
      · rw [if_neg h53]
        obtain ⟨k1,k2,k3⟩:=key 50 48 (by decide) (by decide)
        rw [k1,k2,k3]
        by_cases hc:d.data.getD 12 0=90∧(d.data.take 12).all digB=true
        · rw [if_pos hc, if_pos hc]
          simp only [if_neg (show ¬ (12=14) by omega)]
          have hg:(pairsN (d.data.take 12)).getD 0 0=(c0.toNat - 48) * 10+(c1.toNat - 48):=by rw [t12] <;> rfl
          have hall:=hc.2
          rw [t12] at hall
          simp only [List.all_cons,Bool.and_eq_true] at hall
          have:=digB_bd hall.1
          have:=digB_bd hall.2.1
          rw [hg,if_neg (by omega)] <;> rfl
        · rw [if_neg hc,if_neg hc]
end
end Go.Proofs.YtcdkpkkdolmfdaaGreatDoor
namespace Go.GAM
end Go.GAM
namespace Go.Proofs.YtcdkpkkdolmfdaaGreatDoor
open Go.GAM Go.RowKit
section
variable {h0:AHeap} {Q:AV→AHeap→Prop}
end
end Go.Proofs.YtcdkpkkdolmfdaaGreatDoor
namespace Go.GAM
end Go.GAM
namespace Go.Proofs.YtcdkpkkdolmfdaaGreatDoor
open Go.GAM Go.RowKit
instance (s:List UInt8):Decidable (lead0 s):=by unfold lead0; infer_instance
section
variable {h0:AHeap} {Q:AV→AHeap→Prop}
end
end Go.Proofs.YtcdkpkkdolmfdaaGreatDoor
namespace Go.Proofs.YtcdkpkkdolmfdaaGreatDoor
open Go.GAM Go.RowKit
section
variable {h0:AHeap} {Q:AV→AHeap→Prop}
end
end Go.Proofs.YtcdkpkkdolmfdaaGreatDoor
namespace Go.Proofs.YtcdkpkkdolmfdaaGreatDoor
open Go.GAM Go.RowKit
section
variable {h0:AHeap} {Q:AV→AHeap→Prop}
end
end Go.Proofs.YtcdkpkkdolmfdaaGreatDoor
namespace Go.Proofs.YtcdkpkkdolmfdaaGreatDoor
open Go.GAM Go.RowKit
end Go.Proofs.YtcdkpkkdolmfdaaGreatDoor
namespace Go.Proofs.YtcdkpkkdolmfdaaGreatDoor
open Go.GAM Go.RowKit
theorem numS_1 (a:UInt8):numS [a]=a.toNat:=by simp [numS]
theorem numS_2 (a b:UInt8):numS [a,b]=a.toNat * 256+b.toNat:=by simp [numS]
theorem toNat_of {n:Nat} (h:n<256):(UInt8.ofNat n).toNat=n:=by rw [UInt8.toNat_ofNat']; omega
theorem lenS_lenB {n : Nat} (h : n < 65536) (r : List UInt8) : lenS (lenB n ++ r) = .ok (n, r) := by
  unfold lenB
  split
  · rename_i h1
    rw [List.singleton_append,lenS,toNat_of (by omega),if_pos h1]
  · split
    · rename_i h1 h2
      show lenS (129 :: UInt8.ofNat n :: r)=_
      rw [lenS,if_neg (by decide),if_neg (by decide),if_neg (by show ¬ (r.length+1)<1; omega)]
      have e:(UInt8.ofNat n :: r).take ((129:UInt8).toNat - 128)=[UInt8.ofNat n]:=rfl
      rw [e,numS_1,toNat_of (by omega),if_neg (by
        rw [show 8 * ((129:UInt8).toNat - 128 - 1)=0 from rfl,Nat.pow_zero]; omega)]
      rfl
    · rename_i h1 h2
      show lenS (130 :: UInt8.ofNat (n / 256) :: UInt8.ofNat n :: r)=_
      rw [lenS,if_neg (by decide),if_neg (by decide),if_neg (by show ¬ (r.length+1+1)<2; omega)]
      have e:(UInt8.ofNat (n / 256) :: UInt8.ofNat n :: r).take ((130:UInt8).toNat - 128)=[UInt8.ofNat (n / 256),UInt8.ofNat n]:=rfl
      have e2:(UInt8.ofNat (n / 256)).toNat * 256+(UInt8.ofNat n).toNat=n:=by
        rw [UInt8.toNat_ofNat',UInt8.toNat_ofNat']; omega
      rw [e,numS_2,e2,if_neg (by
        rw [show 8 * ((130:UInt8).toNat - 128 - 1)=8 from rfl]; omega)]
      rfl
theorem lenS_inv {s r : List UInt8} {n : Nat} (h : lenS s = .ok (n, r)) (hn : n < 65536) : s = lenB n ++ r := by
  cases s with
  | nil=>cases h
  | cons c s =>
    have hc:=c.toNat_lt
    rw [lenS] at h
    split at h
    · rename_i h1
      cases h
      unfold lenB
      rw [if_pos h1,UInt8.ofNat_toNat] <;> rfl
    · rename_i h1
      split at h
      · cases h
      · rename_i h2
        split at h
        · cases h
        · rename_i h3
          split at h
          · cases h
          · rename_i h4
            cases h
            have hk:c.toNat - 128=1∨c.toNat - 128=2∨c.toNat - 128=3:=by omega
            rcases hk with hk | hk | hk
            · rw [hk] at h3 h4 hn ⊢
              obtain ⟨a,s',rfl⟩:∃ a s',s=a :: s':=by
                cases s with
                | nil=>simp at h3
                | cons a s'=>exact ⟨a,s',rfl⟩
              have e:(a :: s').take 1=[a]:=rfl
              rw [e,numS_1] at h4 hn ⊢
              have ha:=a.toNat_lt
              have hc2:c=129:=UInt8.toNat_inj.1 (by show c.toNat=129; omega)
              unfold lenB
              rw [if_neg (by omega),if_pos (by omega),UInt8.ofNat_toNat,hc2] <;> rfl
            · rw [hk] at h3 h4 hn ⊢
              obtain ⟨a,b,s',rfl⟩:∃ a b s',s=a :: b :: s':=by
                match s,h3 with
                | [],h3=>simp at h3
                | [a],h3=>simp at h3
                | a :: b :: s',_=>exact ⟨a,b,s',rfl⟩
              have e:(a :: b :: s').take 2=[a,b]:=rfl
              rw [e,numS_2] at h4 hn ⊢
              have ha:=a.toNat_lt
              have hb:=b.toNat_lt
              have hc2:c=130:=UInt8.toNat_inj.1 (by show c.toNat=130; omega)
              rw [show 8 * (2 - 1)=8 from rfl] at h4
              have e1:UInt8.ofNat ((a.toNat * 256+b.toNat) / 256)=a:=by
                rw [show (a.toNat * 256+b.toNat) / 256=a.toNat by omega,UInt8.ofNat_toNat]
              have e2:UInt8.ofNat (a.toNat * 256+b.toNat)=b:=UInt8.toNat_inj.1 (by rw [UInt8.toNat_ofNat']; omega)
              unfold lenB
              rw [if_neg (by omega),if_neg (by omega),e1,e2,hc2] <;> rfl
            · exfalso
              rw [hk] at h3 h4 hn
              rw [show 8 * (3 - 1)=16 from rfl] at h4
              omega
theorem hdB_nat {c t:Int} {m:Bool} (hc:0≤c∧c≤3) (ht:0≤t∧t≤30):(hdB c t m).toNat=c.toNat * 64+t.toNat+if m=true then 32 else 0:=by
  unfold hdB
  rw [toNat_of]
  split <;> omega
theorem dec_enc : ∀ m,
    (∀ (d:Der) (lvl n f:Nat) (rest:List UInt8),d.sz≤m→2 * (bytesS d).length+1≤f→(bytesS d).length≤65535→(chkV lvl n d).1=0→decV f lvl n (bytesS d++rest) = .ok (d,rest,(chkV lvl n d).2)) ∧
    (∀ (ks:List Der) (lvl n f:Nat),szs ks≤m→2 * (bytesK ks).length+2≤f→(bytesK ks).length≤65535→(chkK (lvl+1) n ks).1=0→decK f lvl n (bytesK ks) = .ok (ks,(chkK (lvl+1) n ks).2)):=by
  intro m
  induction m with
  | zero =>
    refine ⟨fun d lvl n f rest hd=>absurd hd (by have:=szs_pos d; omega),fun ks lvl n f hk hf _ _=>?_⟩
    cases ks with
    | nil =>
      obtain ⟨f,rfl⟩:∃ g,f=g+1:=⟨f - 1,by omega⟩
      unfold decK chkK bytesK; rfl
    | cons k r=>have:=szs_pos k; unfold szs at hk; omega
  | succ m ih =>
    have hV:∀ (d:Der) (lvl n f:Nat) (rest:List UInt8),d.sz≤m+1→2 * (bytesS d).length+1≤f→(bytesS d).length≤65535→(chkV lvl n d).1=0→decV f lvl n (bytesS d++rest) = .ok (d,rest,(chkV lvl n d).2):=by
      intro d lvl n f rest hd hf hl hc
      obtain ⟨c,t,mm,s,ks⟩:=d
      obtain ⟨f,rfl⟩:∃ g,f=g+1:=⟨f - 1,by omega⟩
      unfold Der.sz at hd
      unfold chkV at hc ⊢
      split at hc
      · cases hc
      rename_i c1
      split at hc
      · cases hc
      rename_i c2
      split at hc
      · cases hc
      rename_i c3
      split at hc
      · cases hc
      rename_i c4
      rw [if_neg c1,if_neg c2,if_neg c3,if_neg c4]
      have hh:=hdB_nat (c:=c) (t:=t) (m:=mm) (by omega) (by omega)
      unfold bytesS at hf hl ⊢
      generalize hct:s++bytesK ks=content at *
      simp only [List.cons_append,List.length_cons,List.length_append] at hf hl
      have hcl:content.length<65536:=by omega
      rw [List.cons_append,List.cons_append,List.append_assoc]
      unfold decV
      simp only
      have e32:(hdB c t mm).toNat % 32=t.toNat:=by rw [hh]; split <;> omega
      have e64:(hdB c t mm).toNat / 64=c.toNat:=by rw [hh]; split <;> omega
      rw [if_neg (by rw [e32]; omega),if_neg c3,if_neg c4,lenS_lenB hcl]
      simp only
      rw [if_neg (by rw [List.length_append]; omega),List.take_left' rfl,List.drop_left' rfl,e32,e64,Int.toNat_of_nonneg (by omega),Int.toNat_of_nonneg (by omega)]
      cases mm with
      | false =>
        have hks:ks=[]:=Classical.byContradiction fun h=>c2 (.inr ⟨rfl,h⟩)
        subst hks
        rw [if_pos (by rw [hh]; simp; omega)]
        have:content=s:=by rw [← hct]; simp [bytesK]
        rw [this]
        unfold chkK; rfl
      | true =>
        have hs:s=[]:=Classical.byContradiction fun h=>c2 (.inl ⟨rfl,h⟩)
        subst hs
        rw [if_neg (by rw [hh]; simp; omega)]
        have:content=bytesK ks:=by rw [← hct] <;> rfl
        rw [this] at hf hcl ⊢
        rw [ih.2 ks lvl (n+1) f (by omega) (by omega) (by omega) hc]
    refine ⟨hV,fun ks=>?_⟩
    induction ks with
    | nil =>
      intro lvl n f _ hf _ _
      obtain ⟨f,rfl⟩:∃ g,f=g+1:=⟨f - 1,by omega⟩
      unfold decK chkK bytesK; rfl
    | cons k r ihr =>
      intro lvl n f hk hf hl hc
      obtain ⟨f,rfl⟩:∃ g,f=g+1:=⟨f - 1,by omega⟩
      unfold szs at hk
      have hbk:bytesK (k :: r)=bytesS k++bytesK r:=by rw [bytesK]
      rw [hbk,List.length_append] at hf hl
      rw [hbk]
      rw [chk_step] at hc ⊢
      split at hc
      · rename_i h1; exact absurd hc h1
      rename_i h1
      rw [if_neg h1]
      have h1:(chkV (lvl+1) n k).1=0:=by simpa using h1
      have hv:=hV k (lvl+1) n f (bytesK r) (by omega) (by omega) (by omega) h1
      obtain ⟨x,b,hb⟩:∃ x b,bytesS k=x :: b:=by
        obtain ⟨c,t,mm,s,ks⟩:=k
        unfold bytesS
        exact ⟨_,_,rfl⟩
      have hlen:0<(bytesS k).length:=by rw [hb]; simp
      rw [hb] at hv ⊢
      unfold decK
      simp only [List.cons_append] at hv ⊢
      rw [hv]
      simp only
      rw [ihr lvl _ f (by omega) (by omega) (by omega) hc]
theorem enc_dec : ∀ f,
    (∀ (lvl n:Nat) (s:List UInt8) (d:Der) (r:List UInt8) (n':Nat),s.length≤65535→decV f lvl n s = .ok (d,r,n')→s=bytesS d++r∧chkV lvl n d=(0,n')) ∧
    (∀ (lvl n:Nat) (s:List UInt8) (ks:List Der) (n':Nat),s.length≤65535→decK f lvl n s = .ok (ks,n')→s=bytesK ks∧chkK (lvl+1) n ks=(0,n')):=by
  intro f
  induction f with
  | zero =>
    refine ⟨fun lvl n s d r n' _ h=>?_,fun lvl n s ks n' _ h=>?_⟩
    · unfold decV at h; cases h
    · unfold decK at h; cases h
  | succ f ih =>
    refine ⟨fun lvl n s d r n' hs h=>?_,fun lvl n s ks n' hs h=>?_⟩
    · unfold decV at h
      cases s with
      | nil=>cases h
      | cons c s =>
        have hc:=c.toNat_lt
        simp only [List.length_cons] at hs
        simp only at h
        split at h
        · cases h
        rename_i e31
        split at h
        · cases h
        rename_i e24
        split at h
        · cases h
        rename_i e256
        split at h
        · cases h
        · rename_i k t hl
          have hsh:=lenS_short hl
          split at h
          · cases h
          · rename_i hk
            have hinv:=lenS_inv hl (by omega)
            have htk:(t.take k).length=k:=by rw [List.length_take]; omega
            have hhd:∀ mm:Bool,(mm=true↔c.toNat / 32 % 2≠0)→hdB (c.toNat / 64:Nat) (c.toNat % 32:Nat) mm=c:=by
              intro mm hm
              unfold hdB
              rw [Int.toNat_natCast,Int.toNat_natCast]
              apply UInt8.toNat_inj.1
              rw [UInt8.toNat_ofNat']
              cases mm with
              | true=>have:=hm.1 rfl; simp; omega
              | false =>
                have:¬ c.toNat / 32 % 2≠0:=fun hh=>by have:=hm.2 hh; cases this
                simp; omega
            split at h
            · rename_i hm
              cases h
              refine ⟨?_, ?_⟩
              · unfold bytesS
                rw [hhd false (by simp [hm]),bytesK,List.append_nil,htk,List.cons_append,List.cons_append,List.append_assoc,List.take_append_drop, ← hinv]
              · unfold chkV
                rw [if_neg (by omega),if_neg (by simp),if_neg e24,if_neg e256]
                unfold chkK; rfl
            · rename_i hm
              split at h
              · cases h
              · rename_i ks n2 hd
                cases h
                obtain ⟨g1,g2⟩:=ih.2 lvl (n+1) (t.take k) ks n' (by omega) hd
                refine ⟨?_, ?_⟩
                · unfold bytesS
                  rw [hhd true (by simp [hm]),List.nil_append, ← g1,htk,List.cons_append,List.cons_append,List.append_assoc,List.take_append_drop, ← hinv]
                · unfold chkV
                  rw [if_neg (by omega),if_neg (by simp),if_neg e24,if_neg e256,g2]
    · unfold decK at h
      cases s with
      | nil=>cases h; unfold bytesK chkK; exact ⟨rfl,rfl⟩
      | cons c s =>
        simp only at h
        split at h
        · cases h
        · rename_i d t n2 hv
          have hsh:=(dec_short f).1 _ _ _ _ _ _ hv
          obtain ⟨g1,g2⟩:=ih.1 (lvl+1) n (c :: s) d t n2 hs hv
          split at h
          · cases h
          · rename_i ks2 n3 hk
            cases h
            obtain ⟨g3,g4⟩:=ih.2 lvl n2 t ks2 n' (by omega) hk
            refine ⟨?_, ?_⟩
            · rw [g1,g3,bytesK]
            · rw [chk_step,g2,if_neg (by simp),g4]
theorem dec_of_enc {d:Der} {t:List UInt8} (h:encS d = .ok t):t=bytesS d∧t.length≤65535∧decS t = .ok d∧2≤t.length∧(∀ x,x.length+t.length≤65535→x≠[]→decS (t++x) = .error 2):=by
  unfold encS at h
  split at h
  · cases h
  rename_i h1
  split at h
  · cases h
  rename_i h2
  cases h
  have h1:(chkV 1 0 d).1=0:=by simpa using h1
  have key:=fun f rest hf=>(dec_enc d.sz).1 d 1 0 f rest (Nat.le_refl _) hf (by omega) h1
  refine ⟨rfl,by omega, ?_, ?_, ?_⟩
  · unfold decS
    rw [if_neg h2]
    have:=key (2 * (bytesS d).length+1) [] (Nat.le_refl _)
    rw [List.append_nil] at this
    rw [this] <;> rfl
  · obtain ⟨c, t, mm, s, ks⟩ := d
    unfold bytesS
    have:1≤(lenB (s++bytesK ks).length).length:=by unfold lenB; split <;> (try split) <;> simp
    simp only [List.length_cons,List.length_append] at *
    omega
  · intro x hx hne
    unfold decS
    rw [if_neg (by rw [List.length_append]; omega),key _ x (by rw [List.length_append]; omega)]
    simp only
    rw [if_neg hne]
theorem enc_of_dec {s:List UInt8} {y:Der} (h:decS s = .ok y):encS y = .ok s:=by
  unfold decS at h
  split at h
  · cases h
  rename_i hl
  split at h
  · cases h
  · rename_i d r n hv
    split at h
    · rename_i hr
      cases h
      subst hr
      obtain ⟨g1,g2⟩:=(enc_dec _).1 _ _ _ _ _ _ (by omega) hv
      rw [List.append_nil] at g1
      unfold encS
      rw [g2,if_neg (by simp), ← g1,if_neg hl]
    · cases h
theorem decS_err {s:List UInt8} {e:Int} (h:decS s = .error e):e≠0:=by
  unfold decS at h
  split at h
  · cases h; decide
  split at h
  · rename_i hv; cases h; exact (dec_err _).1 _ _ _ _ (Nat.le_refl _) hv
  · split at h
    · cases h
    · cases h; decide
end Go.Proofs.YtcdkpkkdolmfdaaGreatDoor
namespace Go.Proofs.YtcdkpkkdolmfdaaGreatDoor
open Go.GAM Go.RowKit
theorem two_all (k:Nat):(twoS k).all digB=true:=by
  unfold twoS digB
  simp only [List.all_cons,List.all_nil,Bool.and_true,Bool.and_eq_true,decide_eq_true_eq,UInt8.toNat_ofNat']
  omega
theorem pair_two (k:Nat) (r:List UInt8):pairsN (twoS k++r)=(k % 100) :: pairsN r:=by
  show (((UInt8.ofNat (48+k / 10 % 10)).toNat - 48) * 10+((UInt8.ofNat (48+k % 10)).toNat - 48)) :: pairsN r=_
  rw [UInt8.toNat_ofNat',UInt8.toNat_ofNat']
  congr 1
  omega
theorem time_inv {n y m d:Nat} (hn:n≤253402300799) (D:Date (n / 86400) y m d) :
    ∃ t:Int, ∃ s,timeOfS y m d (n % 86400)=leafC 0 t false s∧s.length≤15∧timeS (.mk 0 t false s [])=((n:Int),true):=by
  have hy:=D.y4 (by omega)
  have hy0:=D.y0
  have hb:=daysN_bd y m
  have hm:=D.m1
  have hm0:=D.m0
  have hd:=D.d1
  have hd0:=D.d0
  have hr:n % 86400<86400:=Nat.mod_lt _ (by omega)
  have hfin:∀ r,r=n % 86400→finT y m (d+1) (r / 3600) (r / 60 % 60) (r % 60)=((n:Int),true):=by
    rintro r rfl
    unfold finT
    rw [if_neg (by unfold badT; omega)]
    unfold secN
    congr 1
    omega
  generalize hre:n % 86400=r at *
  have hfull:∀ c:List UInt8,c=twoS (y / 100)++clockS y m d r→(if c.getD 14 0=90∧(c.take 14).all digB=true then finL (pairsN (c.take 14)) else (0,false))=((n:Int),true):=by
    rintro c rfl
    have e:(twoS (y / 100)++clockS y m d r).take 14=twoS (y / 100)++(twoS y++(twoS m++(twoS (d+1)++(twoS (r / 3600)++(twoS (r / 60 % 60)++(twoS (r % 60)++[])))))):=rfl
    rw [e]
    rw [if_pos ⟨rfl,by simp only [List.all_append,two_all,List.all_nil,Bool.and_self]⟩]
    simp only [pair_two]
    rw [show pairsN []=[] from rfl]
    show finT (100 * (y / 100 % 100)+y % 100) (m % 100) ((d+1) % 100) (r / 3600 % 100) (r / 60 % 60 % 100) (r % 60 % 100)=_
    rw [show 100 * (y / 100 % 100)+y % 100=y by omega,show m % 100=m by omega,show (d+1) % 100=d+1 by omega,show r / 3600 % 100=r / 3600 by omega,show r / 60 % 60 % 100=r / 60 % 60 by omega,show r % 60 % 100=r % 60 by omega]
    exact hfin r rfl
  unfold timeOfS
  by_cases h50:y<2050
  · rw [if_pos h50]
    refine ⟨23,_,rfl,by show 13≤15; omega, ?_⟩
    unfold timeS fullS
    rw [if_neg (by simp [dPlain]),if_pos (by simp [dPlain]),if_pos (show (Der.mk 0 23 false (clockS y m d r) []).data.length=13 from rfl)]
    have e:(if 53≤((clockS y m d r).getD 0 0).toNat then [49,57] else [50,48]:List UInt8)=twoS (y / 100):=by
      show (if 53≤(UInt8.ofNat (48+y / 10 % 10)).toNat then [49,57] else [50,48]:List UInt8)=_
      rw [UInt8.toNat_ofNat']
      by_cases h2:y<2000
      · rw [if_pos (by omega),show y / 100=19 by omega] <;> rfl
      · rw [if_neg (by omega),show y / 100=20 by omega] <;> rfl
    show (match some ((if 53≤((clockS y m d r).getD 0 0).toNat then [49,57] else [50,48]:List UInt8)++clockS y m d r) with
      | none=>(0,false)
      | some s=>if s.getD 14 0=90∧(s.take 14).all digB=true then finL (pairsN (s.take 14)) else (0,false))=_
    rw [e]
    exact hfull _ rfl
  · rw [if_neg h50]
    refine ⟨24,_,rfl,by show 15≤15; omega, ?_⟩
    unfold timeS fullS
    rw [if_pos (by simp [dPlain]),if_pos (show (Der.mk 0 24 false (twoS (y / 100)++clockS y m d r) []).data.length=15 from rfl)]
    exact hfull _ rfl
end Go.Proofs.YtcdkpkkdolmfdaaGreatDoor
namespace Go.Proofs.YtcdkpkkdolmfdaaGreatDoor
open Go.GAM Go.RowKit
section
variable {h:AHeap} {Q:AV→AHeap→Prop}
abbrev Bld (h:AHeap) (id off:Nat) (cs:List AV) (buf:AV) (l:List UInt8):Prop:=BldAt prog 110 5 h id off cs buf l
theorem same_c {f:FuncId} {v:AV} (hm:(f,xSame)∈extT) (hk:Q v h):C f [v] h Q:=row_c hm hk
theorem set_same {α:Type} {l:List α} {i:Nat} {a:α} (h:l[i]? = some a):l.set i a=l:=by
  apply List.ext_getElem?
  intro j
  by_cases hj:i=j
  · subst hj; rw [List.getElem?_set_self (lt_of_some h),h]
  · rw [List.getElem?_set_ne hj]
theorem copyCheck_c {id off n:Nat} {cs:List AV} {buf:AV} {l:List UInt8} (B:Bld h id off cs buf l) (hn:n=cs.length)
    (hq:∀ h',h'.length=h.length→Upd (· = id) h h'→Bld h' id off (cs.set off (.p (some ⟨id,n,off⟩))) buf l→Q (.tu []) h'):C Y70.id [.p (some ⟨id,n,off⟩)] h Q:=by
  subst hn
  refine Y70.call ?_
  simp only [Y70.t]
  have hr:=B.room
  have hne:off≠off+1:=by omega
  have cell1:∀ v:AV,(cs.set off v)[off+1]? = some buf:=fun v=>by rw [List.getElem?_set_ne hne]; exact B.cell
  have cell0:∀ v:AV,(cs.set off v)[off]? = some v:=fun v=>by rw [List.getElem?_set_self (by omega)]
  rcases B.addr with h0 | h0
  · refine st_nil (st_fld (st_load B.rec' rfl h0 (st_nilEq (by kernel_rfl) (st_asB (bif_t rfl ?_)))))
    refine st_unsafe B.rec' rfl (by omega) (same_c Y87.row ?_)
    refine B.fromUnsafe (st_nil (st_fld ?_))
    refine B.store (by omega) rfl rfl rfl (.inr (cell0 _)) (cell1 _) B.is B.own fun h1 hl1 U1 B1=>?_
    exact .inl (hq h1 hl1 U1 B1)
  · refine st_nil (st_fld (st_load B.rec' rfl h0 (st_someEq (by kernel_rfl) (st_asB (bif_f rfl ?_)))))
    refine st_nil (st_fld (st_load B.rec' rfl h0 (st_selfNe (by kernel_rfl) (st_asB (bif_f rfl ?_)))))
    have e:cs.set off (.p (some ⟨id,cs.length,off⟩))=cs:=set_same h0
    refine .inl (hq h rfl (Upd.refl _ _) ?_)
    rw [e]; exact B
def wrB (cs:List AV) (id off:Nat) (buf:AV):List AV:=(cs.set off (.p (some ⟨id,cs.length,off⟩))).set (off+1) buf
theorem wrB_len {cs:List AV} {id off:Nat} {buf:AV}:(wrB cs id off buf).length=cs.length:=by simp [wrB]
theorem writeByte_c {id off n:Nat} {cs:List AV} {buf:AV} {l:List UInt8} {c:UInt8} {k:Int} (B:Bld h id off cs buf l) (hn:n=cs.length) (hk:k=(c.toNat:Int)) (hl:l.length<100000000)
    (hq:∀ buf' h',Upd (fun i=>i=id∨SlAt buf i) h h'→Bld h' id off (wrB cs id off buf') buf' (l++[c])→(∀ i,SlAt buf' i→SlAt buf i∨h.length≤i)→Q .ni h'):C Y69.id [.p (some ⟨id,n,off⟩),.i .u8 k] h Q:=by
  subst hn; subst hk
  refine Y69.call ?_
  simp only [Y69.t]
  refine copyCheck_c B rfl fun h1 hl1 U1 B1=>?_
  have hr:=B.room
  have hlt:=B.lt
  have hcl:cs.length=(cs.set off (.p (some ⟨id,cs.length,off⟩))).length:=by simp
  refine st_nil (st_fld (st_load B1.rec' hcl B1.cell ?_))
  refine st_build (cs:=[byteAV c]) rfl rfl fun y h2 hl2 U2 R2 F2=>?_
  have B2:=B1.upd U2 (fun h=>h) fun _ _ h=>h
  refine B2.is.append (t:=[c]) (fun K hK=>R2.news hK) (by simp; omega) fun v' h3 U3 T3 F3=>?_
  have hown:¬ SlAt v' id:=fun hi=>by
    rcases F3 id hi with h | h
    · exact B.own h
    · omega
  have hUall:Upd (fun i=>i=id∨SlAt buf i) h h3:=((U1.mono fun _ _ h=>Or.inl h).trans (U2.mono fun _ _ h=>h.elim) fun _ _ h=>h).trans (U3.mono fun _ _ h=>.inr h) fun _ _ h=>h
  refine st_nil (st_fld ?_)
  rw [hcl]
  refine B2.put U3 T3 hown fun h4 hl4 U4 B4=>?_
  refine .inl (hq v' h4 (hUall.trans (U4.mono fun _ _ h=>.inl h) fun _ _ h=>h) B4 fun i hi=>?_)
  rcases F3 i hi with h | h
  · exact .inl h
  · exact .inr (by omega)
theorem bstring_c {id off n:Nat} {cs:List AV} {buf:AV} {l:List UInt8} (B:Bld h id off cs buf l) (hn:n=cs.length) (hl:l.length≤100000000) (hq:∀ h',Upd (SlAt buf) h h'→h'.length=h.length→Q (.s l) h'):C Y65.id [.p (some ⟨id,n,off⟩)] h Q:=by
  subst hn
  refine Y65.call ?_
  simp only [Y65.t]
  have hlen:∀ K:Int→Prop,K (l.length:Int)→pLenSl buf K:=fun K hk=>by
    rcases B.is with ⟨rfl,rfl⟩ | ⟨_,_,rfl,_⟩ <;> exact hk
  refine st_nil (st_fld (st_load B.rec' rfl B.cell (st_nil (st_fld (st_load B.rec' rfl B.cell (hlen _ ?_))))))
  refine B.is.data ?_
  refine st_load B.rec' rfl B.cell ⟨rfl, ?_⟩
  refine B.is.text (by kernel_rfl) (by kernel_rfl) (by omega) fun h1 hl1 U1=>?_
  refine st_asS ?_
  have R1:=B.rec'.upd U1 B.own
  refine st_load R1 rfl B.cell ⟨rfl,st_load R1 rfl B.cell ⟨rfl,.inl (hq h1 U1 hl1)⟩⟩
def splitE:List UInt8→List UInt8→List (List UInt8)
  | cur,[]=>[cur]
  | cur,[c]=>if c=44 then [cur,[]] else [cur++[c]]
  | cur,c :: d :: r=>if c=92 then splitE (cur++[c,d]) r else if c=44 then cur :: splitE [] (d :: r) else splitE (cur++[c]) (d :: r)
theorem splitE_len:∀ (cur s:List UInt8),(splitE cur s).length≤s.length+1
  | cur,[]=>by simp [splitE]
  | cur,[c]=>by unfold splitE; split <;> simp
  | cur, c :: d :: r => by
    have h1:=splitE_len (cur++[c,d]) r
    have h2:=splitE_len [] (d :: r)
    have h3:=splitE_len (cur++[c]) (d :: r)
    unfold splitE
    simp only [List.length_cons] at *
    split
    · omega
    · split
      · simp only [List.length_cons]; omega
      · omega
def plainE:List UInt8→List UInt8
  | []=>[]
  | [c]=>[c]
  | c :: d :: r=>if c=92 then d :: plainE r else c :: plainE (d :: r)
theorem plainE_len:∀ s:List UInt8,(plainE s).length≤s.length
  | []=>by simp [plainE]
  | [c]=>by simp [plainE]
  | c :: d :: r => by
    have h1:=plainE_len r
    have h2:=plainE_len (d :: r)
    unfold plainE
    split <;> simp only [List.length_cons] at * <;> omega
theorem split_p0 {s : List UInt8} (hs : s.length ≤ 1000000) (hq : ∀ v h', NewS h h' v ((splitE [] s).map .s) → Q v h') :
    ∀ (k i:Nat) (v:AV) (frm:Nat) (done:List (List UInt8)) (hx:AHeap),s.length≤i+k→i≤s.length+1→frm≤i→frm≤s.length→NewS h hx v (done.map .s)→done.length≤i→done++splitE ((s.take i).drop frm) (s.drop i)=splitE [] s →
    Y23.p0 (kRet h Q) s v (frm:Int) (i:Int) hx:=by
  intro k
  induction k using Nat.strongRecOn with
  | _ k ih =>
    intro i v frm done hx hk hi hf hf2 S hd he
    refine Y23.i0 ?_
    simp only [Y23.t0,Y23.j1]
    by_cases hlt:i<s.length
    · refine bif_t (decide_eq_true (by omega)) ?_
      obtain ⟨c,hc⟩:∃ c,s[i]? = some c:=⟨s[i],List.getElem?_eq_getElem hlt⟩
      have hdr:=drop_of_at hc
      refine st_at hdr ?_
      have p1:∀ (v:AV) (frm j:Nat) (done:List (List UInt8)) (hy:AHeap),i≤j→j≤s.length→frm≤j+1→frm≤s.length→NewS h hy v (done.map .s)→done.length≤j+1→done++splitE ((s.take (j+1)).drop frm) (s.drop (j+1))=splitE [] s →
          Y23.p1 (kRet h Q) s v (frm:Int) (j:Int) hy:=by
        intro v frm j done hy hij hjs hf hf2 S hd he
        refine Y23.i1 ?_
        simp only [Y23.t1,Y23.j0]
        exact inc (by omega) (ih (s.length - (j+1)) (by omega) (j+1) v frm done hy (by omega) (by omega) hf hf2 S hd he)
      rw [hdr] at he
      have htk:∀ frm,frm≤i→(s.take (i+1)).drop frm=(s.take i).drop frm++[c]:=fun frm hf=>by
        rw [take_snoc hc,List.drop_append_of_le_length (by simp; omega)]
      refine bif_both (fun e=>?_) fun e=>?_
      · have e92 : c = 92 := by rw [show (92 : Int) = ((92 : UInt8).toNat : Int) by rfl, eq_byte] at e; exact of_decide_eq_true e
        refine withI_is (show IntKind.wrap .i64 ((i:Int)+1)=((i+1:Nat):Int) by rw [wrap_i64 (by omega) (by omega)]; omega) ?_
        refine p1 v frm (i+1) done hx (by omega) (by omega) (by omega) hf2 S (by omega) ?_
        rw [← he]
        cases hr:s.drop (i+1) with
        | nil =>
          have hl1:=drop_end hr
          have e1:s.take (i+1+1)=s.take (i+1):=by rw [List.take_of_length_le (by omega),List.take_of_length_le (by omega)]
          have e2:s.drop (i+1+1)=[]:=List.drop_eq_nil_of_le (by omega)
          rw [e1,e2,htk frm hf,e92]
          simp [splitE]
        | cons d r =>
          have hd1:=at_of_drop hr
          have e2:=drop_next hr
          rw [take_snoc hd1,List.drop_append_of_le_length (by have:=drop_lt hr; simp; omega),htk frm hf,e2,e92]
          conv=>rhs; rw [splitE,if_pos rfl]
          simp
      · have e92 : c ≠ 92 := by rw [show (92 : Int) = ((92 : UInt8).toNat : Int) by rfl, eq_byte] at e; exact of_decide_eq_false e
        refine bif_both (fun e2=>?_) fun e2=>?_
        · have e44 : c = 44 := by rw [show (44 : Int) = ((44 : UInt8).toNat : Int) by rfl, eq_byte] at e2; exact of_decide_eq_true e2
          refine st_subs2 hf (by omega) ?_
          refine NewS.push S rfl rfl (by simp; omega) (by simp; omega) fun v' h' S' _ _=>?_
          refine withI_is (show IntKind.wrap .i64 ((i:Int)+1)=((i+1:Nat):Int) by rw [wrap_i64 (by omega) (by omega)]; omega) ?_
          refine p1 v' (i+1) i (done++[(s.take i).drop frm]) h' (Nat.le_refl _) (by omega) (Nat.le_refl _) (by omega) (by simpa using S') (by simp; omega) ?_
          rw [← he]
          have e3:(s.take (i+1)).drop (i+1)=[]:=List.drop_eq_nil_of_le (by simp; omega)
          rw [e3]
          cases hr:s.drop (i+1) with
          | nil=>simp [splitE,e44]
          | cons d r=>simp [splitE,e44]
        · have e44 : c ≠ 44 := by rw [show (44 : Int) = ((44 : UInt8).toNat : Int) by rfl, eq_byte] at e2; exact of_decide_eq_false e2
          refine p1 v frm i done hx (Nat.le_refl _) (by omega) (by omega) hf2 S (by omega) ?_
          rw [← he,htk frm hf]
          cases hr:s.drop (i+1) with
          | nil=>simp [splitE,e44]
          | cons d r=>simp [splitE,e44,e92]
    · refine bif_f (decide_eq_false (by omega)) ?_
      have e1:s.take i=s:=List.take_of_length_le (by omega)
      have e2:s.drop i=[]:=List.drop_eq_nil_of_le (by omega)
      rw [e1,e2] at he
      refine st_subs hf2 ?_
      refine NewS.push S rfl rfl (by simp; omega) (by simp; omega) fun v' h' S' _ _=>?_
      refine .inl (hq v' h' ?_)
      rw [← he]
      simpa [splitE] using S'
theorem csplit_c {s:List UInt8} (hs:s.length≤1000000) (hq:∀ v h',NewS h h' v ((splitE [] s).map .s)→Q v h'):C Y23.id [.s s] h Q:=by
  refine Y23.call ?_
  simp only [Y23.t,Y23.j0]
  exact split_p0 hs hq s.length 0 _ 0 [] h (by omega) (by omega) (by omega) (by omega) (NewS.start h) (by simp) (by simp)
theorem plain_p0 {s : List UInt8} (hs : s.length ≤ 1000000) (hq : Q (.s (plainE s)) h) {id : Nat} (hid : h.length ≤ id) :
    ∀ (k i:Nat) (cs:List AV) (buf:AV) (done:List UInt8) (hx:AHeap),s.length≤i+k→i≤s.length→cs.length=2→Upd (fun _=>False) h hx→(∀ j,SlAt buf j→h.length≤j)→Bld hx id 0 cs buf done→done.length≤i→done++plainE (s.drop i)=plainE s →
    Y18.p0 (kRet h Q) s (.p (some ⟨id,2,0⟩)) (i:Int) hx:=by
  intro k
  induction k using Nat.strongRecOn with
  | _ k ih =>
    intro i cs buf done hx hk hi hcl U hb B hd he
    refine Y18.i0 ?_
    simp only [Y18.t0,Y18.j1]
    by_cases hlt:i<s.length
    · refine bif_t (decide_eq_true (by omega)) ?_
      obtain ⟨c,hc⟩:∃ c,s[i]? = some c:=⟨s[i],List.getElem?_eq_getElem hlt⟩
      have hdr:=drop_of_at hc
      refine st_at hdr ?_
      rw [hdr] at he
      have p2:∀ (j:Nat) (d:UInt8),i≤j→s[j]? = some d→done++d :: plainE (s.drop (j+1))=plainE s→Y18.p2 (kRet h Q) s (.p (some ⟨id,2,0⟩)) (j:Int) hx:=by
        intro j d hij hjd he
        have hjl:=lt_of_some hjd
        refine Y18.i2 ?_
        simp only [Y18.t2,Y18.j0]
        refine st_at (drop_of_at hjd) ?_
        refine writeByte_c B hcl.symm rfl (by omega) fun buf' h' U' B' F'=>?_
        refine inc (by omega) ?_
        have hlen:=U.1
        refine ih (s.length - (j+1)) (by omega) (j+1) _ buf' _ h' (by omega) (by omega) (by rw [wrB_len,hcl]) (U.trans U' fun j hj hm=>?_) (fun j hj=>?_) B' (by simp; omega) (by simpa using he)
        · rcases hm with rfl | hm
          · omega
          · have:=hb j hm; omega
        · rcases F' j hj with h | h
          · exact hb j h
          · omega
      have p1t:∀ d,s[i+1]? = some d→c=92→Y18.p1 (kRet h Q) s (.p (some ⟨id,2,0⟩)) (i:Int) true hx:=by
        intro d hd1 hc92
        refine Y18.i1 ?_
        simp only [Y18.t1,Y18.j2]
        refine bif_t rfl (withI_is (show IntKind.wrap .i64 ((i:Int)+1)=((i+1:Nat):Int) by rw [wrap_i64 (by omega) (by omega)]; omega) ?_)
        refine p2 (i+1) d (by omega) hd1 ?_
        rw [← he,drop_of_at hd1,hc92]
        simp [plainE]
      have p1f:(c≠92∨s.drop (i+1)=[])→Y18.p1 (kRet h Q) s (.p (some ⟨id,2,0⟩)) (i:Int) false hx:=by
        intro hn
        refine Y18.i1 ?_
        simp only [Y18.t1,Y18.j2]
        refine bif_f rfl (p2 i c (Nat.le_refl _) hc ?_)
        rw [← he]
        cases hr:s.drop (i+1) with
        | nil=>simp [plainE]
        | cons d r =>
          rw [hr] at hn
          have hn':c≠92:=hn.resolve_right (by simp)
          simp [plainE,hn']
      refine bif_both (fun e=>?_) fun e=>?_
      · have e92 : c = 92 := by rw [show (92 : Int) = ((92 : UInt8).toNat : Int) by rfl, eq_byte] at e; exact of_decide_eq_true e
        refine withI_is (show IntKind.wrap .i64 ((i:Int)+1)=((i+1:Nat):Int) by rw [wrap_i64 (by omega) (by omega)]; omega) ?_
        by_cases h2:i+1<s.length
        · rw [decide_eq_true (by omega : ((i + 1 : Nat) : Int) < (s.length : Int))]
          exact p1t s[i+1] (List.getElem?_eq_getElem h2) e92
        · rw [decide_eq_false (by omega : ¬ ((i + 1 : Nat) : Int) < (s.length : Int))]
          exact p1f (.inr (List.drop_eq_nil_of_le (by omega)))
      · have e92 : c ≠ 92 := by rw [show (92 : Int) = ((92 : UInt8).toNat : Int) by rfl, eq_byte] at e; exact of_decide_eq_false e
        exact p1f (.inl e92)
    · refine bif_f (decide_eq_false (by omega)) ?_
      rw [List.drop_eq_nil_of_le (by omega)] at he
      simp only [plainE,List.append_nil] at he
      subst he
      refine bstring_c B hcl.symm (by omega) fun h' U' hl'=>st_asS ?_
      refine kRet_pure rfl (U.trans U' fun j hj hm=>?_).ext hq
      have:=hb j hm; omega
theorem cplain_c {s:List UInt8} (hs:s.length≤1000000) (hq:Q (.s (plainE s)) h):C Y18.id [.s s] h Q:=by
  refine Y18.call ?_
  simp only [Y18.t,Y18.j0]
  have U:Upd (fun _=>False) h (h++[newBlk [.p none,.sl none 0 none] 1 true (some 110)]):=Upd.app _ _
  refine plain_p0 hs hq (Nat.le_refl _) s.length 0 [.p none,.sl none 0 none] _ [] _ (by omega) (by omega) rfl U (fun j hj=>(show SlAt (.sl none 0 none) j from hj).elim) ?_ (by simp) (by simp)
  exact ⟨⟨newBlk [.p none,.sl none 0 none] 1 true (some 110),110,by simp,rfl,Nat.le_refl _,rfl,rfl,by kernel_rfl⟩,by decide,.inl rfl,rfl,.inl ⟨rfl,rfl⟩,fun h=>h.elim⟩
end
end Go.Proofs.YtcdkpkkdolmfdaaGreatDoor
