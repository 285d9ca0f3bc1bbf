/- Lemmas (several texts in one). -/
import Derived.Test.YtpaphfeihpgamaaDoorMg4
set_option linter.unusedVariables false
set_option linter.unusedSimpArgs false
set_option linter.unusedSectionVars false
set_option maxRecDepth 20000
namespace Go.Proofs.YtpaphfeihpgamaaDoor
open Go.GAM Go.RowKit Go.ChangeShapes
open Go.Infl (bS cZ b8 Out Lim)
section
variable [XR] {h:aA} {Q:AV→aA→Prop} {L:Lim} {s:List UInt8} {o ra:Int}
structure Fed (L:Lim) (s:List UInt8) (h:aA) (F:Nat→Prop) (d:Nat) (i:Nat):Prop where
 go:∃ r told inp rest,DSt L h F d r told (bF L (s.take i)).2 inp rest∧∀ k w c,(bF L (s.take i)).2 = .wait k w c→inp=(s.take i).length∧rest=[]
theorem Fed.upd {h h':aA} {F F' N:Nat→Prop} {d i:Nat} (Y:Fed L s h F d i) (U:Upd N h h') (hN:∀ i,F i→¬ N i) (hO:¬ N 0) (hG:∀ i,i<h.length→F i→F' i):Fed L s h' F' d i:=by
 obtain ⟨r,told,inp,rest,D,h2⟩:=Y.go
 exact ⟨r,told,inp,rest,D.upd U hN hO hG,h2⟩
theorem Fed.done {F:Nat→Prop} {d i:Nat} (Y:Fed L s h F d i) (hq:Q (.b (eU (bF L (s.take i)).2)) h):C Y19.id [dp d] h Q:=by
 obtain ⟨r,told,inp,rest,D,h2⟩:=Y.go
 exact aDH D hq
theorem Fed.errs {F:Nat→Prop} {d i:Nat} (Y:Fed L s h F d i):wW (bF L (s.take i)).2:=by
 obtain ⟨r,told,inp,rest,D,h2⟩:=Y.go
 exact D.errs
theorem Fed.feed {F:Nat→Prop} {d i j:Nat} (Y:Fed L s h F d i) (hij:i≤j) (hj:j≤s.length) (hs:s.length≤400) (hF0:¬ F 0) (hF:∀ i,h.length≤i→F i) (hw1:fM (bF L (s.take i)).2=false) (hw2:eU (bF L (s.take i)).2=false)
  (hq:∀ h',Upd F h h'→Fed L s h' F d j→Q (.tu [.s ((bF L (s.take j)).2.core.out.drop (bF L (s.take i)).2.core.out.length),.i .i64 (dY (bF L (s.take j)).2)]) h'):C Y0.id [dp d,.s ((s.take j).drop i)] h Q:=by
 obtain ⟨k,w,c,hst⟩:=tB hw1 hw2
 obtain ⟨r,told,inp,rest,D,h2⟩:=Y.go
 obtain ⟨rfl,rfl⟩:=h2 k w c hst
 rw [hst] at D
 have e:s.take i++(s.take j).drop i=s.take j:=by
  have:=List.take_append_drop i (s.take j)
  rwa [List.take_take,Nat.min_eq_left hij] at this
 refine aC6 hst D (by simp; omega) hF0 hF fun h1 r1 told1 inp1 rest1 U1 D1 h3=>?_
 rw [e] at D1 h3 ⊢
 have:=hq h1 U1 ⟨r1,told1,inp1,rest1,D1,h3⟩
 rw [hst] at this
 exact this
theorem tU {i:Nat} (h:fM (bF L (s.take i)).2=true∨eU (bF L (s.take i)).2=true):bF L s=bF L (s.take i):=by
 have:=xR (s:=s.drop i) (aDD h)
 rwa [List.take_append_drop] at this
theorem wX {i j:Nat} (hij:i≤j) (hw1:fM (bF L (s.take i)).2=false) (hw2:eU (bF L (s.take i)).2=false):(bF L (s.take i)).2.core.out++(bF L (s.take j)).2.core.out.drop (bF L (s.take i)).2.core.out.length=(bF L (s.take j)).2.core.out:=by
 obtain ⟨k,w,c,hst⟩:=tB hw1 hw2
 have e:s.take i++(s.take j).drop i=s.take j:=by
  have:=List.take_append_drop i (s.take j)
  rwa [List.take_take,Nat.min_eq_left hij] at this
 obtain ⟨t,ht⟩:=aBQ (s:=(s.take j).drop i) hst
 rw [e] at ht
 rw [ht,hst]
 show k.out++(k.out++t).drop k.out.length=_
 rw [List.drop_left]
theorem rA (L:Lim) (s:List UInt8) {h:aA} {F:Nat→Prop} {d i:Nat} (Y:Fed L s h F d i):(bF L (s.take i)).2.core.out.length≤65536:=by
 obtain ⟨r,told,inp,rest,D,h2⟩:=Y.go
 exact D.dec.len
theorem sL (aw:wE) {h0':aA} {da dc dg ic ig:Nat} {Fa Fc Fg:Nat→Prop} (hq:∀ h',Q (.b true) h') (O:cE h) (Ya:Fed L s h Fa da s.length) (Yc:Fed L s h Fc dc ic) (Yg:Fed L s h Fg dg ig) (hc:bF L s=bF L (s.take ic)) (hg:bF L s=bF L (s.take ig)) {i:Int} :
  Y1.p4 (aK h0' Q) s (dp da) (dp dc) (dp dg) (bF L s).2.core.out (dY (bF L s).2) (bF L s).2.core.out (dY (bF L s).2) (bF L s).2.core.out (dY (bF L s).2) i false h:=by
 have ea:bF L (s.take s.length)=bF L s:=by rw [List.take_length]
 refine Y1.i4 ?_
 simp only [Y1.t4, ← Y1.p5.eq_1]
 refine aV rfl (bA (by simp) (bA (by simp) (bA (by simp) (bA (by simp) ?_))))
 refine Ya.done (bE (Yc.done (bE ?_)))
 rw [ea, ← hc]
 refine bA (by simp) (Ya.done (bE (Yg.done (bE ?_))))
 rw [ea, ← hg]
 refine bA (by simp) (aw O fun h2 U2=>bE (Y1.i5 ?_))
 simp only [Y1.t5]
 exact .inl (hq h2)
theorem xT (aw : wE) {h0' : aA} {da dc dg ic : Nat} {Fa Fc Fg : Nat → Prop} (hs : s.length ≤ 400) (hq : ∀ h', Q (.b true) h') (hF0 : ¬ Fg 0) (hag : ∀ i, Fa i → ¬ Fg i) (hcg : ∀ i, Fc i → ¬ Fg i) (hc : bF L s = bF L (s.take ic)) :
  ∀ (m i : Nat) (h : aA), i + m = s.length → cE h → Fed L s h Fa da s.length → Fed L s h Fc dc ic → Fed L s h Fg dg i → (∀ i, h.length ≤ i → Fg i) →
   Y1.p3 (aK h0' Q) s (dp da) (dp dc) (dp dg) (bF L s).2.core.out (dY (bF L s).2) (bF L s).2.core.out (dY (bF L s).2) (bF L (s.take i)).2.core.out (dY (bF L (s.take i)).2) i h:=by
 intro m
 induction m with
 | zero =>
  intro i h hi O Ya Yc Yg hF
  obtain rfl:i=s.length:=by omega
  refine Y1.i3 ?_
  simp only [Y1.t3, ← Y1.p4.eq_1]
  have ea:bF L (s.take s.length)=bF L s:=by rw [List.take_length]
  refine aV (by simp) ?_
  rw [ea]
  exact sL aw hq O Ya Yc Yg hc ea.symm
 | succ m ih =>
  intro i h hi O Ya Yc Yg hF
  refine Y1.i3 ?_
  simp only [Y1.t3, ← Y1.p4.eq_1]
  refine bA (by simp; omega) ?_
  have over:(fM (bF L (s.take i)).2=true∨eU (bF L (s.take i)).2=true)→Y1.p4 (aK h0' Q) s (dp da) (dp dc) (dp dg) (bF L s).2.core.out (dY (bF L s).2) (bF L s).2.core.out (dY (bF L s).2) (bF L (s.take i)).2.core.out (dY (bF L (s.take i)).2) i false h:=fun ho=>by
   have e:=tU ho
   rw [← e]
   exact sL aw hq O Ya Yc Yg hc e
  have hce:=uG Yg.errs
  refine aP ?_ ?_ <;> intro e
  ·have e1 : fM (bF L (s.take i)).2 = false := hce.1 (by simpa using e)
   refine Yg.done (bE ?_)
   cases hd:eU (bF L (s.take i)).2 with
   | true=>exact over (.inr hd)
   | false =>
    refine Y1.i4 ?_
    simp only [Y1.t4, ← Y1.p3.eq_1]
    refine bA rfl (inc (by omega) (k7 (by omega) (by omega) ?_))
    refine Yg.feed (j:=i+1) (by omega) (by omega) hs hF0 hF e1 hd fun h1 U1 Yg1=>?_
    simp only [d6,d7]
    have hl1:=rA L s Yg
    have hl2:=rA L s Yg1
    refine cB (aD ⟨by rw [List.length_drop]; omega, ?_⟩)
    rw [wX (by omega) e1 hd]
    refine inc (by omega) (ih (i+1) h1 (by omega) (O.upd U1 hF0) (Ya.upd U1 hag hF0 fun _ _ h=>h) (Yc.upd U1 hcg hF0 fun _ _ h=>h) Yg1 fun i hi=>hF i (Nat.le_trans U1.1 hi))
  ·have e1 : fM (bF L (s.take i)).2 = true := by
    cases hx:fM (bF L (s.take i)).2 with
    | true=>rfl
    | false=>have:=hce.2 hx; simp [this] at e
   exact over (.inl e1)
theorem zU (aw:wE) (O:cE h) {at':Nat} (hat:at'<65536) (hq:∀ h',Q (.b true) h'):C Y1.id [.s s,.ag [.i .i64 o,.i .i64 ra],.i .u16 (at':Int)] h Q:=by
 refine Y1.call ?_
 simp only [Y1.t, ← Y1.p0.eq_1]
 refine bT (hk:=fun h1 l1 U1 R1=>?_)
 have R1:bC h1 h.length [.i .i64 o,.i .i64 ra]:=R1
 have e2:(AV.ag [.i .i64 o,.i .i64 ra]).parts.length=2:=rfl
 rw [e2]
 have O1:cE h1:=O.upd U1 fun h=>h
 refine aP ?_ ?_ <;> intro e
 ·exact aw O1 fun h2 U2=>bE (.inl (hq h2))
 have hs:s.length≤400:=by simp at e; omega
 refine dH R1 rfl (dH R1 rfl (dH R1 rfl ?_))
 refine wY O1 fun h2 da ra' U2 hda D2=>?_
 have R2:=R1.upd U2 fun h=>h
 refine dH R2 rfl ⟨rfl,dH R2 rfl ⟨rfl, ?_⟩⟩
 refine wY D2.ord fun h3 dc rc U3 hdc D3=>?_
 have R3:=R2.upd U3 fun h=>h
 refine dH R3 rfl ⟨rfl, ?_⟩
 refine wY D3.ord fun h4 dg rg U4 hdg D4=>?_
 have hgl:=O1.lt
 have u2:=U2.1
 have u3:=U3.1
 have u4:=U4.1
 let L:=iV o ra
 have st0:(bF L (s.take 0)).2=Infl.start:=by rw [List.take_zero,aAA]
 have mk:∀ {h:aA} {F:Nat→Prop} {d:Nat} {r:DR},DSt L h F d r 0 Infl.start 0 []→Fed L s h F d 0:=fun {h F d r} D=>⟨r,0,0,[],by rw [st0]; exact D,fun _ _ _ _=>⟨by simp,rfl⟩⟩
 let Fa:Nat→Prop:=fun i=>(h1.length≤i∧i<h2.length)∨h4.length≤i
 let Fc0:Nat→Prop:=fun i=>h2.length≤i∧i<h3.length
 let Fg0:Nat→Prop:=fun i=>h3.length≤i∧i<h4.length
 have Ya:Fed L s h4 Fa da 0:=((mk D2).upd (F':=fun i=>h1.length≤i∧i<h2.length) U3 (fun _ _ h=>h) (fun h=>h) fun i hl hi=>⟨hi,hl⟩).upd U4 (fun _ _ h=>h) (fun h=>h) fun i hl hi=>.inl hi
 have Yc:Fed L s h4 Fc0 dc 0:=(mk D3).upd U4 (fun _ _ h=>h) (fun h=>h) fun i hl hi=>⟨hi,hl⟩
 have Yg:Fed L s h4 Fg0 dg 0:=(mk D4).upd (Upd.refl (fun _=>False) h4) (fun _ _ h=>h) (fun h=>h) fun i hl hi=>⟨hi,hl⟩
 refine eM (by kernel_rfl) (bE (aV rfl (eM (by kernel_rfl) (bE (aV rfl (eM (by kernel_rfl) (bE ?_)))))))
 refine Y1.i0 ?_
 simp only [Y1.t0, ← Y1.p1.eq_1]
 refine aV rfl ?_
 have w1:fM (bF L (s.take 0)).2=false:=by rw [st0] <;> rfl
 have w2:eU (bF L (s.take 0)).2=false:=by rw [st0] <;> rfl
 have o0:(bF L (s.take 0)).2.core.out=[]:=by rw [st0] <;> rfl
 have ea:bF L (s.take s.length)=bF L s:=by rw [List.take_length]
 have hfa:C Y0.id [dp da,.s ((s.take s.length).drop 0)] h4=C Y0.id [dp da,.s s] h4:=by rw [List.take_length,List.drop_zero]
 rw [← hfa]
 refine Ya.feed (j:=s.length) (Nat.zero_le _) (Nat.le_refl _) hs (by rintro (hh | hh) <;> omega) (fun i hi=>.inr hi) w1 w2 fun h5 U5 Ya5=>?_
 simp only [d6,d7]
 rw [ea,o0,List.length_nil,List.drop_zero]
 have u5:=U5.1
 refine cB (aD (inc (by omega) ?_))
 have hwx:IntKind.wrap .i64 (at':Int)=(at':Int):=aW (by omega) (by omega)
 rw [hwx]
 refine vQ (n:=((at' % (s.length+1):Nat):Int)) (by omega) (by rw [Int.tmod_eq_emod_of_nonneg (by omega)]; omega) ?_
 have hk:at' % (s.length+1)≤s.length:=by have:=Nat.mod_lt at' (show 0<s.length+1 by omega); omega
 generalize at' % (s.length+1)=k at hk ⊢
 refine sV hk ?_
 let Fc:Nat→Prop:=fun i=>(h2.length≤i∧i<h3.length)∨h5.length≤i
 let Fa5:Nat→Prop:=fun i=>((h1.length≤i∧i<h2.length)∨h4.length≤i)∧i<h5.length
 have Yc5:Fed L s h5 Fc dc 0:=Yc.upd U5 (fun i hi=>by rintro (hh | hh) <;> (have:=hi.1; have:=hi.2; omega)) (by rintro (hh | hh) <;> omega) fun i hl hi=>.inl hi
 have Yg5:Fed L s h5 Fg0 dg 0:=Yg.upd U5 (fun i hi=>by rintro (hh | hh) <;> (have:=hi.1; have:=hi.2; omega)) (by rintro (hh | hh) <;> omega) fun i hl hi=>hi
 have Ya5':Fed L s h5 Fa5 da s.length:=Ya5.upd (Upd.refl (fun _=>False) h5) (fun _ _ h=>h) (fun h=>h) fun i hl hi=>⟨hi,hl⟩
 have O5:cE h5:=by obtain ⟨_,_,_,_,D,_⟩:=Ya5.go; exact D.ord
 have hFc0:¬ Fc 0:=by rintro (hh | hh) <;> omega
 have hac:∀ i,Fa5 i→¬ Fc i:=by rintro i ⟨hh | hh,h5⟩ (g | g) <;> omega
 have hgc:∀ i,Fg0 i→¬ Fc i:=by rintro i ⟨g1,g2⟩ (g | g) <;> omega
 have hfc:C Y0.id [dp dc,.s ((s.take k).drop 0)] h5=C Y0.id [dp dc,.s (s.take k)] h5:=by rw [List.drop_zero]
 rw [← hfc]
 refine Yc5.feed (j:=k) (Nat.zero_le _) hk hs hFc0 (fun i hi=>.inr hi) w1 w2 fun h6 U6 Yc6=>?_
 simp only [d6,d7]
 rw [o0,List.length_nil,List.drop_zero]
 have u6:=U6.1
 have Ya6:=Ya5'.upd (F':=Fa5) U6 hac hFc0 fun _ _ h=>h
 have Yg6:=Yg5.upd (F':=Fg0) U6 hgc hFc0 fun _ _ h=>h
 have O6:cE h6:=O5.upd U6 hFc0
 have last:∀ (h7:aA) (ic:Nat),cE h7→h6.length≤h7.length→Fed L s h7 Fa5 da s.length→Fed L s h7 Fc dc ic→Fed L s h7 Fg0 dg 0→bF L s=bF L (s.take ic)→Y1.p2 (aK h Q) s (dp da) (dp dc) (dp dg) (bF L s).2.core.out (dY (bF L s).2) (bF L s).2.core.out (dY (bF L s).2) h7:=fun h7 ic O7 hl7 Ya7 Yc7 Yg7 hc=>by
  refine Y1.i2 ?_
  simp only [Y1.t2, ← Y1.p3.eq_1]
  let Fg:Nat→Prop:=fun i=>(h3.length≤i∧i<h4.length)∨h7.length≤i
  have Yg':Fed L s h7 Fg dg 0:=Yg7.upd (Upd.refl (fun _=>False) h7) (fun _ _ h=>h) (fun h=>h) fun i hl hi=>.inl hi
  have Yc':Fed L s h7 (fun i=>Fc i∧i<h7.length) dc ic:=Yc7.upd (Upd.refl (fun _=>False) h7) (fun _ _ h=>h) (fun h=>h) fun i hl hi=>⟨hi,hl⟩
  have:=xT aw (h0':=h) (Fa:=Fa5) (Fc:=fun i=>Fc i∧i<h7.length) (Fg:=Fg) (L:=L) hs hq (by rintro (hh | hh) <;> omega) (by rintro i ⟨hh | hh,g5⟩ (g | g) <;> omega) (by rintro i ⟨hh | hh,g5⟩ (g | g) <;> omega) hc s.length 0 h7 (by omega) O7 Ya7 Yc' Yg' fun i hi=>.inr hi
  rw [o0,show dY (bF L (s.take 0)).2=0 from by rw [st0] <;> rfl] at this
  exact this
 have over:(fM (bF L (s.take k)).2=true∨eU (bF L (s.take k)).2=true)→Y1.p1 (aK h Q) s (dp da) (dp dc) (dp dg) (bF L s).2.core.out (dY (bF L s).2) k (bF L (s.take k)).2.core.out (dY (bF L (s.take k)).2) false h6:=fun ho=>by
  have e:=tU ho
  refine Y1.i1 ?_
  simp only [Y1.t1, ← Y1.p2.eq_1]
  rw [← e]
  exact aV rfl (last h6 k O6 (Nat.le_refl _) Ya6 Yc6 Yg6 e)
 have hce:=uG Yc6.errs
 refine cB (aD ?_)
 refine aP ?_ ?_ <;> intro e
 ·have e1 : fM (bF L (s.take k)).2 = false := hce.1 (by simpa using e)
  refine Yc6.done (bE ?_)
  cases hd:eU (bF L (s.take k)).2 with
  | true=>exact over (.inr hd)
  | false =>
   refine Y1.i1 ?_
   simp only [Y1.t1, ← Y1.p2.eq_1]
   refine bA rfl (rM hk ?_)
   have hfk:C Y0.id [dp dc,.s ((s.take s.length).drop k)] h6=C Y0.id [dp dc,.s (s.drop k)] h6:=by rw [List.take_length]
   rw [← hfk]
   refine Yc6.feed (j:=s.length) hk (Nat.le_refl _) hs hFc0 (fun i hi=>.inr (Nat.le_trans u6 hi)) e1 hd fun h7 U7 Yc7=>?_
   simp only [d6,d7]
   have hl1:=rA L s Yc6
   have hl2:=rA L s Yc7
   refine cB (aD ⟨by rw [List.length_drop]; omega, ?_⟩)
   rw [wX hk e1 hd,ea]
   exact last h7 s.length (O6.upd U7 hFc0) U7.1 (Ya6.upd U7 hac hFc0 fun _ _ h=>h) Yc7 (Yg6.upd U7 hgc hFc0 fun _ _ h=>h) ea.symm
 ·have e1 : fM (bF L (s.take k)).2 = true := by
   cases hx:fM (bF L (s.take k)).2 with
   | true=>rfl
   | false=>have:=hce.2 hx; simp [this] at e
  exact over (.inl e1)
end
theorem walk_InflateCuts {H:Type} {enc:TypeId × Value→H} {s:ByteArray} {v1:Value} {n:Int} (W:World) (hL:laidMet Tryd.prog Rows.inflateCutsRow.laid W) (k0:InW enc Tryd.prog W 9 (Value.string s).cells.toList) (k1:InW enc Tryd.prog W 23 v1.cells.toList)
  (k2:InW enc Tryd.prog W 31 (Value.int .u16 n).cells.toList):Calls Tryd.prog Y1.id #[.string s,v1,.int .u16 n] W fun e w'=>e = .returned (.bool true)∧Below W.heap.size W w':=by
 obtain ⟨o,ra,hv⟩:=aCI k1
 obtain ⟨m,hm,hw⟩:=k2.int (show prog.underlying 31=some (.int .u16) by kernel_rfl)
 have hm:n=m:=by simpa [Value.cells] using hm
 subst hm
 have hb:=aEI hw
 obtain ⟨k,rfl⟩:∃ k:Nat,n=(k:Int):=⟨n.toNat,by omega⟩
 exact sT mixedOK sizeOK aD9 (by kernel_rfl) (szOf:=fun _=>1) (.cons _ _ _ _ (.s _ _ rfl) (.cons _ _ _ _ hv (.cons _ _ _ _ (.i _ _) .nil))) (zU aCH (aD7 (l:=Rows.inflateCutsRow.laid) (List.mem_of_getElem? (i:=1) rfl) hL) (by omega) fun _=>rfl)
end Go.Proofs.YtpaphfeihpgamaaDoor
