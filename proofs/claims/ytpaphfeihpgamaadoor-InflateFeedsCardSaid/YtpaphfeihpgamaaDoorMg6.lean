/- Lemmas (several texts in one). -/
import Derived.Test.YtpaphfeihpgamaaDoorRows
import Derived.OpenShut
import Derived.Test.YtpaphfeihpgamaaDoorMg5
set_option linter.unusedVariables false
set_option linter.unusedSimpArgs false
set_option linter.unusedSectionVars false
set_option maxRecDepth 20000
namespace Go.Proofs.YtpaphfeihpgamaaDoor
open Go.GAM
open Go.Infl (bL cV bY Out Lim)
theorem uB {l : List Nat} {n c : Nat} (h15 : ∀ x ∈ l, x ≤ 15) (h : Huff.stepP l n c = .more) : n < 15 := by
 unfold Huff.stepP at h
 split at h
 ·cases h
 ·split at h
  ·have : Huff.longest l ≤ 15 := by
    rw [← fV h15]
    have:∀ n,lg l n≤n:=by
     intro n
     induction n with
     | zero=>exact Nat.le_refl _
     | succ n ih=>unfold lg; split <;> omega
    exact this 15
   omega
  ·cases h
section
variable [XR] {h:aA} {Q:AV→aA→Prop} {L:Lim} {s:List UInt8} {d:Nat} {r:RS} {out:List UInt8} {F:Infl.Fin}
def RUc (d id:Nat) (h:aA) (r:RS) (h':aA) (r':RS):Prop:=Upd (fun i=>dN d r i∨i=id) h h'∧r'.outv=r.outv
theorem aBL {h0 h0':aA} {r0:RS} {id:Nat} {l:List Nat} {lv cv:AV} {k:bL} {c:bY} {G:Nat→Prop} (hsk:k.skip=false) (ho:k.out=out) (hG:∀ i,G i→¬ dN d r0 i)
  (hq0:∀ h' r',RUc d id h0 r0 h' r'→RSt L s h' d r' out→jP r' out F→Q (iN 0) h')
  (hq1:∀ i h' r',i<l.length→RUc d id h0 r0 h' r'→RSt L s h' d r' out→r'.stop=false→r0.at'<r'.at'→eF h' G id l lv cv 0 0→F=Infl.go L ((Infl.bitsOf s).drop r'.at') r'.at' (Infl.settle L ((r'.at'+7) / 8) 3 (Infl.apply L ((r'.at'+7) / 8) k i c))→Q (iN i) h') :
  ∀ (m : Nat) (h : aA) (r : RS) (n x : Nat), 8 * s.length - r.at' = m → RUc d id h0 r0 h r → r0.at' ≤ r.at' → RSt L s h d r out → r.stop = false → n ≤ 15 → x < 2 ^ n → Huff.fst l (n + 1) ≤ 2 * x → eF h G id l lv cv n x →
   F=Infl.go L ((Infl.bitsOf s).drop r.at') r.at' (.wait k (.sym l n x) c)→Y30.p0 (aH h0' Q) (rp d) (kp id) h:=by
 intro m
 induction m with
 | zero =>
  intro h r n x hm U hle0 S hl hn hx hfst A hF
  have hle:=S.le
  refine Y30.i0 ?_
  simp only [Y30.t0]
  refine j1 S (fun e=>by rw [hl] at e; cases e) (fun _ hge h1 U1 S1=>?_) (fun _ hlt=>by omega)
  refine aC (bG S1 (aV (aW rfl (.inl ?_))))
  refine hq0 h1 { r with short:=true } ⟨U.1.trans U1 fun i _ e=>.inl (.inl e),U.2⟩ S1 ?_
  rw [List.drop_eq_nil_of_le (by rw [Infl.bits_len]; omega),Infl.go_nil] at hF
  rw [hF]
  exact ⟨ho,.inl ⟨rfl,rfl⟩⟩
 | succ m ih =>
  intro h r n x hm U hle0 S hl hn hx hfst A hF
  refine Y30.i0 ?_
  simp only [Y30.t0]
  refine j1 S (fun e=>by rw [hl] at e; cases e) (fun _ hge=>by omega) (fun _ hlt b h1 hb hb2 U1 S1=>?_)
  have hl1:RS.stop { r with at':=r.at'+1 }=false:=hl
  refine aC (bG S1 (aV (aL hl1 ?_)))
  have hGd:∀ i,G i→¬ i=d:=fun i hi e=>hG i hi (.inl e)
  have A1:eF h1 G id l lv cv n x:=A.upd U1 hGd fun _ _ h=>h
  have Ua:RUc d id h0 r0 h1 { r with at':=r.at'+1 }:=⟨U.1.trans U1 fun i _ e=>.inl (.inl e),U.2⟩
  have hout:¬ aQ r.outv id:=fun hs=>hG id A.g (.inr (by rw [← U.2]; exact hs))
  have hdn:¬ d=id:=fun e=>hGd id A.g e.symm
  have hc2:2 * x+b<2 ^ (n+1):=by rw [Nat.pow_succ]; omega
  have hse:=Huff.step_eq (l:=l) (n:=n+1) (c:=2 * x+b) (by omega) hc2 (by omega) (Huff.check_ok A.le A.ok)
  rw [nH hb,Infl.go_sym hsk,hse] at hF
  refine aGG A1 hn hx hb2 fun h2 U2=>?_
  have S2:RSt L s h2 d { r with at':=r.at'+1 } out:=S1.upd U2 fun i hm e=>by
   rcases hm with hm | hm
   ·exact hdn (hm.symm.trans e)
   ·exact hout (e ▸ hm)
  have Ub:RUc d id h0 r0 h2 { r with at':=r.at'+1 }:=⟨Ua.1.trans U2 fun i _ e=>.inr e,U.2⟩
  have hin:r.at' / 8+1=(r.at'+1+7) / 8:=by omega
  cases hs:Huff.stepR l (n+1) (2 * x+b) with
  | sym i =>
   rw [hs] at hF
   simp only at hF ⊢
   intro hi A2
   simp only [cW,cX,yK]
   refine aC (aV (aC (aL rfl (aW rfl (.inl ?_)))))
   refine hq1 i h2 _ hi Ub S2 hl (by show r0.at'<r.at'+1; omega) A2 ?_
   rw [hF,hin]
  | more =>
   rw [hs] at hF hse
   simp only at hF ⊢
   intro A2
   simp only [cW,cX,yK]
   refine aC (aV (aC (aL rfl (aL rfl ?_))))
   have hlt15:=uB A.le hse
   have hm2:Huff.fst l (n+1+1)≤2 * (2 * x+b):=Huff.step_more (b:=0) hse (by omega)
   exact ih h2 _ (n+1) (2 * x+b) (by show 8 * s.length - (r.at'+1)=m; omega) Ub (by show r0.at'≤r.at'+1; omega) S2 hl (by omega) hc2 hm2 A2 hF
  | bad =>
   rw [hs] at hF
   simp only at hF ⊢
   intro A2
   simp only [cW,cX,yK]
   refine aC (aV (aC (aW rfl ?_)))
   refine e7 S2 (fun e=>by rw [show RS.stop { r with at':=r.at'+1 }=false from hl] at e; cases e) fun _ h3 U3 S3=>.inl ?_
   refine hq0 h3 { r with at':=r.at'+1,e:=2 } ⟨Ub.1.trans U3 fun i _ e=>.inl (.inl e),U.2⟩ S3 ?_
   rw [hF]
   have hsh:r.short=false:=by unfold RS.stop at hl; revert hl; cases r.short <;> simp
   exact ⟨ho,.inr (.inl ⟨hsh,rfl,rfl⟩)⟩
theorem kU {id:Nat} {l:List Nat} {lv cv:AV} {k:bL} {c:bY} {G:Nat→Prop} (hsk:k.skip=false) (ho:k.out=out) (hG:∀ i,G i→¬ dN d r i) (S:RSt L s h d r out) (hl:r.stop=false) (A:eF h G id l lv cv 0 0)
  (hF:F=Infl.go L ((Infl.bitsOf s).drop r.at') r.at' (.wait k (.sym l 0 0) c))
  (hq0:∀ h' r',RUc d id h r h' r'→RSt L s h' d r' out→jP r' out F→Q (iN 0) h')
  (hq1:∀ i h' r',i<l.length→RUc d id h r h' r'→RSt L s h' d r' out→r'.stop=false→r.at'<r'.at'→eF h' G id l lv cv 0 0→F=Infl.go L ((Infl.bitsOf s).drop r'.at') r'.at' (Infl.settle L ((r'.at'+7) / 8) 3 (Infl.apply L ((r'.at'+7) / 8) k i c))→Q (iN i) h') :
  C Y30.id [rp d,kp id] h Q:=by
 refine Y30.call ?_
 simp only [Y30.t, ← Y30.p0.eq_1]
 refine dI (by kernel_rfl) (aV (aL rfl ?_))
 exact aBL hsk ho hG hq0 hq1 _ h r 0 0 rfl ⟨(Upd.refl _ _),rfl⟩ (Nat.le_refl _) S hl (by omega) (by decide) (Nat.le_refl _) A hF
theorem tU {p:AV} (hp:p = .p none∨∃ id,p=kp id) (S:RSt L s h d r out) (hst:r.stop=true) (hq:∀ h',Upd (· = d) h h'→RSt L s h' d r out→Q (iN 0) h'):C Y30.id [rp d,p] h Q:=by
 refine Y30.call ?_
 simp only [Y30.t, ← Y30.p0.eq_1]
 rcases hp with rfl | ⟨id,rfl⟩
 ·refine qL (by kernel_rfl) (aV (aW rfl ?_))
  exact e7 S (fun _=>.inl (hq h (Upd.refl _ _) S)) fun e=>by rw [hst] at e; cases e
 ·refine dI (by kernel_rfl) (aV (aL rfl ?_))
  refine Y30.i0 ?_
  simp only [Y30.t0]
  refine j1 S (fun _ h1 U1 S1=>?_) (fun e=>by rw [hst] at e; cases e) (fun e=>by rw [hst] at e; cases e)
  exact aC (bG S1 (aV (aW hst (.inl (hq h1 U1 S1)))))
theorem yA {h0' : aA} {n y : Nat} (hn : n ≤ 1000) : ∀ (m i : Nat) (h : aA) (v : AV) (l : List Nat), i + m = n → l.length + m ≤ 10000 → Exa h v l →
  (∀ h' v',Upd (aQ v) h h'→Exa h' v' (l++List.replicate m y)→(∀ i,aQ v' i→aQ v i∨h.length≤i)→Q v' h')→Y31.p0 (aH h0' Q) v n y i h:=by
 intro m
 induction m with
 | zero =>
  intro i h v l hi hlen S hq
  obtain rfl:i=n:=by omega
  refine Y31.i0 ?_
  simp only [Y31.t0]
  exact aL (by simp) (.inl (hq h v (Upd.refl _ _) (by simpa using S) fun i hi=>.inl hi))
 | succ m ih =>
  intro i h v l hi hlen S hq
  refine Y31.i0 ?_
  simp only [Y31.t0, ← Y31.p0.eq_1]
  refine aW (by simp; omega) ?_
  refine dZ (cs:=bB [y]) rfl rfl fun z h1 l1 U1 R1 F1=>?_
  have S1:Exa h1 v l:=S.upd U1 fun _ _ h=>h
  refine S1.app (ns:=[y]) (fun K hk=>R1.news hk) Nat.one_pos (by simp; omega) fun v2 h2 U2 S2 N2=>inc (by omega) ?_
  refine ih (i+1) h2 v2 (l++[y]) (by omega) (by simp; omega) S2 fun h3 v3 U3 S3 N3=>?_
  have hU1:=U1.1
  have hU2:=U2.1
  refine hq h3 v3 ?_ ?_ ?_
  ·refine (((U1.mono fun _ _ h => h.elim).trans U2 fun _ _ h => h)).trans U3 fun i hi hm => ?_
   rcases N2 i hm with g | g
   ·exact g
   ·omega
  ·rw [List.append_assoc] at S3
   rw [List.replicate_succ]
   exact S3
  ·intro i hi
   rcases N3 i hi with g | g
   ·rcases N2 i g with g2 | g2
    ·exact .inl g2
    ·right; omega
   ·right; omega
theorem mL {n y:Nat} {v:AV} {l:List Nat} (hn:n≤1000) (hlen:l.length+n≤10000) (S:Exa h v l) (hq:∀ h' v',Upd (aQ v) h h'→Exa h' v' (l++List.replicate n y)→(∀ i,aQ v' i→aQ v i∨h.length≤i)→Q v' h'):C Y31.id [v,iN n,iN y] h Q:=by
 refine Y31.call ?_
 simp only [Y31.t, ← Y31.p0.eq_1]
 exact yA hn n 0 h v l (by omega) hlen S hq
theorem nY {n y:Nat} (hn:n≤1000) (hq:∀ h' v',Upd (fun _=>False) h h'→Exa h' v' (List.replicate n y)→(∀ i,aQ v' i→h.length≤i)→Q v' h'):C Y31.id [.sl none 0 none,iN n,iN y] h Q:=
 mL hn (by simp; omega) (.inl ⟨rfl,rfl⟩) fun h' v' U S N=>hq h' v' (U.mono fun _ _ h=>h) (by simpa using S) fun i hi=>(N i hi).elim (fun h=>h.elim) fun h=>h
theorem aD9 (hq:∀ h' v',Upd (fun _=>False) h h'→Exa h' v' Infl.fixedL→(∀ i,aQ v' i→h.length≤i)→Q v' h'):C Y79.id [] h Q:=by
 refine Y79.call ?_
 simp only [Y79.t]
 refine nY (n:=144) (y:=8) (by decide) fun h1 v1 U1 S1 N1=>?_
 refine mL (n:=112) (y:=9) (by decide) (by simp) S1 fun h2 v2 U2 S2 N2=>?_
 refine mL (n:=24) (y:=7) (by decide) (by simp) S2 fun h3 v3 U3 S3 N3=>?_
 refine mL (n:=8) (y:=8) (by decide) (by simp) S3 fun h4 v4 U4 S4 N4=>?_
 have n2:∀ i,aQ v2 i→h.length≤i:=fun i hi=>(N2 i hi).elim (N1 i) fun g=>Nat.le_trans U1.1 g
 have V2:Upd (fun _=>False) h h2:=U1.ownP U2 N1
 have n3:∀ i,aQ v3 i→h.length≤i:=fun i hi=>(N3 i hi).elim (n2 i) fun g=>Nat.le_trans V2.1 g
 have V3:Upd (fun _=>False) h h3:=V2.ownP U3 n2
 exact .inl (hq h4 v4 (V3.ownP U4 n3) S4 fun i hi=>(N4 i hi).elim (n3 i) fun g=>Nat.le_trans V3.1 g)
omit [XR] in
theorem sO (k:bL):(Infl.block k).set:=by
 unfold Infl.block
 split
 ·trivial
 ·show 0<3; decide
omit [XR] in
theorem aAB (k:bL) (n:Nat):(Infl.raw k n).set:=by
 unfold Infl.raw
 split
 ·exact sO k
 ·show 0<8; decide
def At (L:Lim) (s:List UInt8) (F:Infl.Fin) (r:RS) (out:List UInt8) (o:Out):Prop:=(r.stop=true∧jP r out F)∨(r.stop=false∧F=Infl.go L ((Infl.bitsOf s).drop r.at') r.at' o)
theorem dM {r:RS} (h:r.stop=false):r.short=false∧r.e=0:=by
 unfold RS.stop at h
 rw [Bool.or_eq_false_iff] at h
 exact ⟨h.1,by simpa using h.2⟩
theorem aAC {c:UInt8} {f:bL→Out} {kl:Bool} (S:RSt L s h d r out) (hl:r.stop=false) (hset:∀ k,(f k).set)
  (hF:F=Infl.go L ((Infl.bitsOf s).drop r.at') r.at' (Infl.settle L ((r.at'+7) / 8) 3 (match Infl.putP L ((r.at'+7) / 8) ⟨out,kl,false⟩ c with | none=>.err 2 ⟨out,kl,false⟩ | some k'=>f k')))
  (hq:∀ h' r' out',RU d h r h' r'→RSt L s h' d r' out'→r'.at'=r.at'→(r'.stop=false→out'=out++[c])→At L s F r' out' (f ⟨out',kl,false⟩)→Q (.tu []) h'):C Y34.id [rp d,.i .u8 (c.toNat:Int)] h Q:=by
 obtain ⟨hsh,he⟩:=dM hl
 refine yZ S (fun e=>by rw [hl] at e; cases e) (fun _ hfull h1 U1 S1=>?_) fun _ hfull h1 v U1 S1=>?_
 ·unfold Infl.putP at hF
  rw [if_pos hfull] at hF
  simp only at hF
  rw [Infl.settle_set (by trivial),Infl.go_err] at hF
  refine hq h1 { r with e:=16 } out (RU.own U1 rfl) S1 rfl (fun e=>by unfold RS.stop at e; rw [hsh] at e; cases e) (.inl ⟨by unfold RS.stop; rw [hsh] <;> rfl, ?_⟩)
  rw [hF]
  exact ⟨rfl,.inr (.inr ⟨hsh,rfl,rfl⟩)⟩
 ·unfold Infl.putP at hF
  rw [if_neg (by simp [hfull])] at hF
  simp only at hF
  rw [Infl.settle_set (hset _)] at hF
  exact hq h1 { r with outv:=v } (out++[c]) U1 S1 rfl (fun _=>rfl) (.inr ⟨hl,hF⟩)
theorem sM {h0' : aA} {n : Nat} (hn : n < 65536) {kl : Bool} : ∀ (m i : Nat) (h : aA) (r : RS) (out : List UInt8), i + m = n → RSt L s h d r out → At L s F r out (Infl.raw ⟨out, kl, false⟩ m) →
  (∀ h' r' out',RU d h r h' r'→RSt L s h' d r' out'→(r'.stop=false→r.stop=false∧r.at'≤r'.at')→At L s F r' out' (Infl.block ⟨out',kl,false⟩)→Q (.tu []) h') →
  Y4.p2 (aH h0' Q) (rp d) n i h:=by
 intro m
 induction m with
 | zero =>
  intro i h r out hi S hF hq
  obtain rfl:i=n:=by omega
  refine Y4.i2 ?_
  simp only [Y4.t2, ← Y4.p3.eq_1]
  refine aL (by simp) (Y4.i3 ?_)
  simp only [Y4.t3]
  exact aL rfl (.inl (hq h r out (RU.refl _ _ _) S (fun e=>⟨e,Nat.le_refl _⟩) hF))
 | succ m ih =>
  intro i h r out hi S hF hq
  refine Y4.i2 ?_
  simp only [Y4.t2, ← Y4.p3.eq_1]
  refine aW (by simp; omega) (bG S (aV (Y4.i3 ?_)))
  simp only [Y4.t3, ← Y4.p2.eq_1]
  rcases hF with hF | ⟨hl,hF⟩
  ·rw [hF.1]
   exact aL rfl (.inl (hq h r out (RU.refl _ _ _) S (fun e=>by rw [hF.1] at e; cases e) (.inl hF)))
  ·rw [hl]
   refine aW rfl ?_
   have hraw:Infl.raw ⟨out,kl,false⟩ (m+1) = .wait ⟨out,kl,false⟩ (.num 8 0 0) (.raw (m+1)):=by unfold Infl.raw; rw [if_neg (by omega)]
   rw [hraw] at hF
   refine fQ (F:=F) (n:=8) (k:=⟨out,kl,false⟩) (c:=.raw (m+1)) (by decide) rfl S hl rfl (by rw [if_pos (by decide)]; exact hF) (fun v h1 r1 hv U1 S1 hs1 hf1=>?_) (fun v h1 r1 hv U1 S1 hs1 hle1 hlt1 hF1=>?_)
   ·refine aC ?_
    rw [wN hv]
    refine yZ S1 (fun _=>?_) (fun e=>by rw [hs1] at e; cases e) (fun e=>by rw [hs1] at e; cases e)
    refine inc (by omega) ?_
    have P3:Y4.p3 (aH h0' Q) (rp d) n ((i+1:Nat):Int) false h1:=by
     refine Y4.i3 ?_
     simp only [Y4.t3]
     exact aL rfl (.inl (hq h1 r1 out U1 S1 (fun e=>by rw [hs1] at e; cases e) (.inl ⟨hs1,hf1⟩)))
    refine Y4.i2 ?_
    simp only [Y4.t2, ← Y4.p3.eq_1]
    refine aG ?_ ?_ <;> intro e
    ·refine bG S1 (aV ?_)
     rw [hs1]
     exact P3
    ·exact P3
   ·refine aC ?_
    rw [wN hv]
    refine aAC (f:=fun k'=>Infl.raw k' m) (kl:=kl) S1 hs1 (fun k=>aAB k m) hF1 fun h2 r2 o2 U2 S2 he2 ho2 hA2=>?_
    refine inc (by omega) ?_
    exact ih (i+1) h2 r2 o2 (by omega) S2 hA2 fun h3 r3 o3 U3 S3 hle3 hA3=>hq h3 r3 o3 ((U1.trans U2).trans U3) S3 (fun e=>⟨hl,by have:=(hle3 e).2; omega⟩) hA3
theorem sF {h0':aA} {kl:Bool} (hq:∀ h' r',RU d h r h' r'→RSt L s h' d r' out→r'.stop=false→r.at'≤r'.at'→F=Infl.go L ((Infl.bitsOf s).drop r'.at') r'.at' (.wait ⟨out,kl,false⟩ (.num 16 0 0) .stored1)→r'.at' % 8=0→Y4.p0 (aH h0' Q) (rp d) h') :
  ∀ (m:Nat) (h1:aA) (r1:RS),(8 - r1.at' % 8) % 8=m→RU d h r h1 r1→r.at'≤r1.at'→RSt L s h1 d r1 out→r1.stop=false→F=Infl.go L ((Infl.bitsOf s).drop r1.at') r1.at' (.wait ⟨out,kl,true⟩ (.num 16 0 0) .stored1)→Y4.p0 (aH h0' Q) (rp d) h1:=by
 intro m
 induction m with
 | zero =>
  intro h1 r1 hm U hle S hl hF
  refine hq h1 r1 U S hl hle ?_ (by omega)
  rw [hF]
  have:=Infl.go_skip' (L:=L) (w:=.num 16 0 0) (c:=.stored1) (bs:=(Infl.bitsOf s).drop r1.at') (i:=r1.at') (k:=⟨out,kl,true⟩) (by unfold Infl.gap; omega) rfl
  rw [this,show Infl.gap r1.at'=0 from hm,List.drop_zero,Nat.add_zero]
 | succ m ih =>
  intro h1 r1 hm U hle S hl hF
  have hsl:=S.sl
  have hle2:=S.le
  refine Y4.i0 ?_
  simp only [Y4.t0,bF,bD, ← Y4.p0.eq_1]
  refine aE S.recd rfl rfl (aC ?_)
  refine lR (n:=((r1.at' % 8:Nat):Int)) (by decide) (by rw [Int.tmod_eq_emod_of_nonneg (by omega)]; omega) ?_
  refine aW (by simp; omega) ?_
  refine aE S.recd rfl rfl (aC (inc (by omega) ?_))
  refine aP S.recd rfl (ltr rfl) (hk:=fun h2 l2 U2 R2=>?_)
  have hlt:r1.at'+1≤8 * s.length:=by omega
  have S2:RSt L s h2 d { r1 with at':=r1.at'+1 } out:=S.with U2 R2 rfl hlt
  refine ih h2 { r1 with at':=r1.at'+1 } (by show (8 - (r1.at'+1) % 8) % 8=m; omega) (U.trans (RU.own U2 rfl)) (by show r.at'≤r1.at'+1; omega) S2 hl ?_
  obtain ⟨b,hb⟩:∃ b,(Infl.bitsOf s)[r1.at']? = some b:=⟨_,List.getElem?_eq_getElem (by rw [Infl.bits_len]; omega)⟩
  rw [hF,nH hb,Infl.go_bit,if_pos ⟨rfl,by omega⟩]
theorem aBW {kl : Bool} (S : RSt L s h d r out) (hl : r.stop = false) (hF : F = Infl.go L ((Infl.bitsOf s).drop r.at') r.at' (.wait ⟨out, kl, true⟩ (.num 16 0 0) .stored1))
  (hq:∀ h' r' out',RU d h r h' r'→RSt L s h' d r' out'→(r'.stop=false→r.at'≤r'.at')→At L s F r' out' (Infl.block ⟨out',kl,false⟩)→Q (.tu []) h'):C Y4.id [rp d] h Q:=by
 refine Y4.call ?_
 simp only [Y4.t, ← Y4.p0.eq_1]
 refine sF (r:=r) (kl:=kl) (F:=F) (fun h1 r1 U1 S1 hl1 hle1 hF1 hal=>?_) _ h r rfl (RU.refl _ _ _) (Nat.le_refl _) S hl hF
 have hsl:=S1.sl
 have hle2:=S1.le
 refine Y4.i0 ?_
 simp only [Y4.t0,bF,bD]
 refine aE S1.recd rfl rfl (aC ?_)
 refine lR (n:=((r1.at' % 8:Nat):Int)) (by decide) (by rw [Int.tmod_eq_emod_of_nonneg (by omega)]; omega) ?_
 refine aL (by rw [hal] <;> rfl) ?_
 have P1:∀ (n:Nat) (h':aA) (r':RS),n<65536→RU d h r h' r'→RSt L s h' d r' out→(r'.stop=false→r.at'≤r'.at')→At L s F r' out (Infl.raw ⟨out,kl,false⟩ n)→Y4.p1 (aH h Q) (rp d) n h':=fun n h' r' hn U' S' hle' hA'=>by
  refine Y4.i1 ?_
  simp only [Y4.t1, ← Y4.p2.eq_1]
  exact sM hn n 0 h' r' out (by omega) S' hA' fun h2 r2 o2 U2 S2 hle2 hA2=>hq h2 r2 o2 (U'.trans U2) S2 (fun e=>by
   have h1:=hle2 e
   have:=hle' h1.1
   omega) hA2
 refine fQ (F:=F) (n:=16) (k:=⟨out,kl,false⟩) (c:=.stored1) (by decide) rfl S1 hl1 rfl (by rw [if_pos (by decide)]; exact hF1) (fun v h2 r2 hv U2 S2 hs2 hf2=>?_) (fun v h2 r2 hv U2 S2 hs2 hle2 hlt2 hF2=>?_)
 ·refine aC (fO (by decide) hs2 S2 fun h3 U3 S3 => aC ?_)
  have hv:v<65536:=hv
  refine bS (n:=((65535 - v:Nat):Int)) (by omega) (by omega) (by omega) ?_
  have fin:∀ h',Upd (· = d) h2 h'→RSt L s h' d r2 out→Y4.p1 (aH h Q) (rp d) v h':=fun h' U' S'=>P1 v h' r2 hv ((U1.trans U2).trans (RU.own U' rfl)) S' (fun e=>by rw [hs2] at e; cases e) (.inl ⟨hs2,hf2⟩)
  refine aG ?_ ?_ <;> intro e
  ·refine e7 S3 (fun _=>fin h3 U3 S3) fun e=>by rw [hs2] at e; cases e
  ·exact fin h3 U3 S3
 ·rw [Infl.settle_set (show (Infl.apply L ((r2.at' + 7) / 8) ⟨out, kl, false⟩ v .stored1).set by show 0 < 16; decide)] at hF2
  have hv:v<65536:=hv
  refine aC (fQ (F:=F) (n:=16) (k:=⟨out,kl,false⟩) (c:=.stored2 v) (by decide) rfl S2 hs2 rfl (by rw [if_pos (by decide)]; exact hF2) (fun v2 h3 r3 hv3 U3 S3 hs3 hf3=>?_) (fun v2 h3 r3 hv3 U3 S3 hs3 hle3 hlt3 hF3=>?_))
  ·refine aC ?_
   refine bS (n:=((65535 - v:Nat):Int)) (by omega) (by omega) (by omega) ?_
   have fin:Y4.p1 (aH h Q) (rp d) v h3:=P1 v h3 r3 hv ((U1.trans U2).trans U3) S3 (fun e=>by rw [hs3] at e; cases e) (.inl ⟨hs3,hf3⟩)
   refine aG ?_ ?_ <;> intro e
   ·refine e7 S3 (fun _=>fin) fun e=>by rw [hs3] at e; cases e
   ·exact fin
  ·have hv3 : v2 < 65536 := hv3
   simp only [Infl.apply] at hF3
   refine aC ?_
   refine bS (n:=((65535 - v:Nat):Int)) (by omega) (by omega) (by omega) ?_
   obtain ⟨hsh,he⟩:=dM hs3
   refine aG ?_ ?_ <;> intro e
   ·have e : ¬ v2 + v = 65535 := by simp at e; omega
    rw [if_neg e,Infl.settle_set (by trivial),Infl.go_err] at hF3
    refine e7 S3 (fun e=>by rw [hs3] at e; cases e) fun _ h4 U4 S4=>P1 v h4 { r3 with e:=2 } hv (((U1.trans U2).trans U3).trans (RU.own U4 rfl)) S4 (fun e=>by unfold RS.stop at e; rw [hsh] at e; cases e) (.inl ⟨by unfold RS.stop; rw [hsh] <;> rfl, ?_⟩)
    rw [hF3]
    exact ⟨rfl,.inr (.inl ⟨hsh,rfl,rfl⟩)⟩
   ·have e : v2 + v = 65535 := by simp at e; omega
    rw [if_pos e,Infl.settle_set (aAB _ _)] at hF3
    exact P1 v h3 r3 hv ((U1.trans U2).trans U3) S3 (fun _=>by omega) (.inr ⟨hs3,hF3⟩)
end
end Go.Proofs.YtpaphfeihpgamaaDoor
namespace Go.Proofs.YtpaphfeihpgamaaDoor
open Go.GAM
open Go.Infl (bL cV bY Out Lim)
theorem aEJ {P:Program} {t:TypeId} {K:AV→Prop} (ht:lA P t=true) (hk:K (.b false)):dS P .neq t (.p none) (.p none) K:=by
 show (bif lA P t then _ else _); rw [ht]; exact hk
theorem sZ {P:Program} {t:TypeId} {a:AA} {K:AV→Prop} (ht:lA P t=true) (hk:K (.b true)):dS P .neq t (.p (some a)) (.p none) K:=by
 show (bif lA P t then _ else _); rw [ht]; exact hk
section
variable [XR] {h:aA} {Q:AV→aA→Prop} {L:Lim} {F:Nat→Prop} {d:Nat} {r:DR} {out:List UInt8} {told:Nat}
theorem wP {x:Nat} {c:bY} {v:AV} (O:cS h) (D:Dec L h F d r out told) (hF:∀ i,h.length≤i→F i) (hd:r.done=false) (hk:kG c=none) (hc:Clo h (Gd F d r) d 0 (.p none) c v) (hf:fit c x)
  (hq:∀ e h' r',cP F L h F d r told (Infl.apply L r.input ⟨out,r.last,r.skip⟩ x c) e h' r'→Q (.i .i64 e) h'):bZ C v [iN x] h Q:=by
 cases c with
 | block=>exact aF4 D hF hd hc hf hq
 | stored1=>exact aBZ D hF hd hc hf hq
 | stored2 n=>exact aCS D hF hd hc hf hq
 | raw n=>exact aIA D hF hd hc hf hq
 | lit a b=>cases hk
 | more a b n=>exact aH6 D hF hd hc hf hq
 | far a b n=>cases hk
 | farMore a b n f=>exact aBE D hF hd hc hf hq
 | dyn1=>exact aHE D hF hd hc hf hq
 | dyn2 lits=>exact aH1 D hF hd hc hf hq
 | dyn3 lits dists=>exact aH5 D hF hd hc hf hq
 | third l i n lits dists=>exact aFZ O D hF hd hc hf hq
 | lens c l lits dists=>cases hk
 | rep c l lits dists m y=>exact aIC D hF hd hc hf hq
theorem aEZ {x ic:Nat} {sym:AV} {l:List Nat} {c:bY} {v:AV} (D:Dec L h F d r out told) (hF:∀ i,h.length≤i→F i) (hd:r.done=false) (hk:kG c=some l) (A:b9 h (Gd F d r) ic l sym 0 0) (hc:Clo h (fun i=>Gd F d r i∧i≠ic) d ic sym c v) (hf:fit c x)
  (hq:∀ e h' r',cP F L h F d r told (Infl.apply L r.input ⟨out,r.last,r.skip⟩ x c) e h' r'→Q (.i .i64 e) h'):bZ C v [iN x] h Q:=by
 cases c <;> first | (cases hk; done) | skip
 case lit a b=>cases hk; exact aIM D hF hd A hc hf hq
 case far a b n=>cases hk; exact aH8 D hF hd A hc hf hq
 case lens c l lits dists=>cases hk; exact aH0 D hF hd A hc hf hq
theorem iA {x:Nat} {c:bY} {i:Nat} {k:bL} (hs:short c):(Infl.apply L i k x c).set:=by
 cases c <;> first | exact hs.elim | skip
 ·trivial
 ·simp only [Infl.apply]
  split
  ·trivial
  ·split <;> trivial
theorem jF {c:bY} {i a b:Nat} {k:bL} (hs:short c):Infl.settle L i 3 (.wait k (.num 0 a b) c)=Infl.apply L i k 0 c:=by
 show Infl.settle L i 2 (Infl.apply L i k 0 c)=_
 exact Infl.settle_set (iA hs)
theorem behind {h0':aA} {b:Bool} {x:Int} (hx:b=true) (hq:Q (.i .i64 x) h):Y3.p2 (aH h0' Q) (dp d) x b h:=by
 refine Y3.i2 ?_
 simp only [Y3.t2]
 exact aW hx (.inl hq)
theorem qJ {h0' h0 : aA} {r0 : DR} {o : Out} {e : Int} (O : cS h) (hF : ∀ i, h.length ≤ i → F i) (P : cP F L h0 F d r0 told o e h r) (hns : o.set)
  (hq:Q (.i .i64 e) h) (K:Int→Prop) :
  (bif (!decide ((e:Int)=0)) then Y3.p2 (aH h0' Q) (dp d) e true h else
   (aS (dp d) fun v75=>aB 7 v75 fun v76=>aD v76 h fun v77=>asB v77 fun c78=>Y3.p2 (aH h0' Q) (dp d) e c78 h)):=by
 refine aG ?_ ?_ <;> intro he
 ·exact behind rfl hq
 ·have he : e = 0 := by simpa using he
  simp only [bF,bD]
  refine aE P.dec.recd rfl rfl (aV ?_)
  cases hd:r.done with
  | true=>exact behind rfl hq
  | false =>
   refine Y3.i2 ?_
   simp only [Y3.t2,bF,bD, ← Y3.p3.eq_1]
   refine aL rfl ?_
   have P3:∀ t,t=false→Y3.p3 (aH h0' Q) (dp d) t h:=fun t ht=>by
    refine Y3.i3 ?_
    simp only [Y3.t3]
    rw [← he]
    exact aL ht (.inl hq)
   have hst:=P.st
   cases o with
   | done k=>rw [hst.2] at hd; cases hd
   | err x k =>
    obtain ⟨hx,hx2,_⟩:=hst
    rw [he] at hx
    rcases hx2 with rfl | rfl <;> exact absurd hx (by decide)
   | wait k w c =>
    obtain ⟨_,_,_,_,hw,hf⟩:=hst
    cases w with
    | num need hv acc =>
     obtain ⟨_,hcode,hneed,_⟩:=hw
     refine aE P.dec.recd rfl rfl ?_
     rw [hcode]
     refine qL (by kernel_rfl) (aV (aW rfl ?_))
     refine aE P.dec.recd rfl rfl (aC (P3 _ ?_))
     rw [hneed]
     have hns:0<need:=hns
     simp; omega
    | sym l n x =>
     obtain ⟨_,ic,sym,hcode,_⟩:=hw
     refine aE P.dec.recd rfl rfl ?_
     rw [hcode]
     exact dI (by kernel_rfl) (aV (aL rfl (P3 _ rfl)))
theorem zK {h0' h0 : aA} {r0 : DR} {o : Out} {e : Int} (hF0 : ¬ F 0) (O : cS h) (hF : ∀ i, h.length ≤ i → F i) (P : cP F L h0 F d r0 told o e h r)
    (hq:∀ e h' r',cS h'→(Infl.settle L r0.input 3 o).set→cP F L h0 F d r0 told (Infl.settle L r0.input 3 o) e h' r'→Q (.i .i64 e) h') :
    (bif (!decide ((e:Int)=0)) then Y3.p2 (aH h0' Q) (dp d) e true h else
      (aS (dp d) fun v75=>aB 7 v75 fun v76=>aD v76 h fun v77=>asB v77 fun c78=>Y3.p2 (aH h0' Q) (dp d) e c78 h)):=by
  by_cases hns:o.set
  · rw [Infl.settle_set hns] at hq
    exact qJ O hF P hns (hq e h r O hns P) fun _=>True
  · obtain ⟨k, hv, acc, c, rfl⟩ : ∃ k hv acc c, o = .wait k (.num 0 hv acc) c := by
      cases o with
      | done k=>exact absurd trivial hns
      | err x k=>exact absurd trivial hns
      | wait k w c =>
        cases w with
        | sym l n x=>exact absurd trivial hns
        | num need hv acc =>
          have:need=0:=by
            have:¬ 0<need:=hns
            omega
          subst this
          exact ⟨k,hv,acc,c,rfl⟩
    have hst:=P.st
    obtain ⟨he,h1,h2,h3,hw,hf⟩:=hst
    obtain ⟨hco,hcode,hneed,hhv,hac,hclo⟩:=hw
    obtain ⟨_,_,f3,f4⟩:=hf
    have hsh:short c:=f3.elim (fun h=>by omega) fun h=>h.2.2
    rw [jF hsh] at hq
    subst he
    refine aL rfl ?_
    simp only [bF,bD]
    refine aE P.dec.recd rfl rfl (aV ?_)
    rw [h3]
    refine Y3.i2 ?_
    simp only [Y3.t2,bF,bD, ← Y3.p3.eq_1]
    refine aL rfl ?_
    refine aE P.dec.recd rfl rfl ?_
    rw [hcode]
    refine qL (by kernel_rfl) (aV (aW rfl ?_))
    refine aE P.dec.recd rfl rfl (aC ?_)
    rw [hneed]
    refine Y3.i3 ?_
    simp only [Y3.t3, ← Y3.p0.eq_1]
    refine aW rfl ?_
    refine Y3.i0 ?_
    simp only [Y3.t0,bF,bD, ← Y3.p2.eq_1]
    refine aE P.dec.recd rfl rfl ?_
    have hk:k=⟨k.out,r.last,r.skip⟩:=by rw [h1,h2]
    have hD:Dec L h F d r k.out told:=P.dec
    refine wP (x:=0) O hD hF h3 hco hclo (f4 0 (by decide)) fun e2 h2 r2 P2=>aC ?_
    rw [P.inp, ← hk] at P2
    have P3:cP F L h0 F d r0 told (Infl.apply L r0.input k 0 c) e2 h2 r2:=P2.from P.upd (fun _ _ h=>h) P.keep P.inp P.bad P.rest
    have O2:cS h2:=O.upd P2.upd hF0
    exact qJ O2 (fun i hi=>hF i (Nat.le_trans P2.upd.1 hi)) P3 (iA hsh) (hq e2 h2 r2 O2 (iA hsh) P3) fun _=>True
theorem aA7 {h0' h0:aA} {r0:DR} {x:Nat} {c:bY} (hF0:¬ F 0) (O:cS h) (D:Dec L h F d r out told) (hF:∀ i,h.length≤i→F i) (hd:r.done=false) (hk:kG c=none) (hc:Clo h (Gd F d r) d 0 (.p none) c r.next) (hf:fit c x)
  (U0:Upd F h0 h) (K0:∀ i,i<h0.length→Mut d r i→Mut d r0 i) (e1:r.input=r0.input) (e2:r.bad=r0.bad) (e3:r.rest=r0.rest)
  (hq:∀ e h' r',cS h'→(Infl.settle L r0.input 3 (Infl.apply L r0.input ⟨out,r.last,r.skip⟩ x c)).set→cP F L h0 F d r0 told (Infl.settle L r0.input 3 (Infl.apply L r0.input ⟨out,r.last,r.skip⟩ x c)) e h' r'→Q (.i .i64 e) h'):Y3.p1 (aH h0' Q) (dp d) x h:=by
 refine Y3.i1 ?_
 simp only [Y3.t1, ← Y3.p0.eq_1]
 refine Y3.i0 ?_
 simp only [Y3.t0,bF,bD, ← Y3.p2.eq_1]
 refine aE D.recd rfl rfl ?_
 refine wP O D hF hd hk hc hf fun e h1 r1 P=>aC ?_
 rw [e1] at P
 exact zK hF0 (O.upd P.upd hF0) (fun i hi=>hF i (Nat.le_trans P.upd.1 hi)) (P.from U0 (fun _ _ h=>h) K0 e1 e2 e3) hq
theorem aAU {h0' h0:aA} {r0:DR} {x ic:Nat} {sym:AV} {l:List Nat} {c:bY} (hF0:¬ F 0) (O:cS h) (D:Dec L h F d r out told) (hF:∀ i,h.length≤i→F i) (hd:r.done=false) (hk:kG c=some l) (A:b9 h (Gd F d r) ic l sym 0 0) (hc:Clo h (fun i=>Gd F d r i∧i≠ic) d ic sym c r.next) (hf:fit c x)
  (U0:Upd F h0 h) (K0:∀ i,i<h0.length→Mut d r i→Mut d r0 i) (e1:r.input=r0.input) (e2:r.bad=r0.bad) (e3:r.rest=r0.rest)
  (hq:∀ e h' r',cS h'→(Infl.settle L r0.input 3 (Infl.apply L r0.input ⟨out,r.last,r.skip⟩ x c)).set→cP F L h0 F d r0 told (Infl.settle L r0.input 3 (Infl.apply L r0.input ⟨out,r.last,r.skip⟩ x c)) e h' r'→Q (.i .i64 e) h'):Y3.p1 (aH h0' Q) (dp d) x h:=by
 refine Y3.i1 ?_
 simp only [Y3.t1, ← Y3.p0.eq_1]
 refine Y3.i0 ?_
 simp only [Y3.t0,bF,bD, ← Y3.p2.eq_1]
 refine aE D.recd rfl rfl ?_
 refine aEZ D hF hd hk A hc hf fun e h1 r1 P=>aC ?_
 rw [e1] at P
 exact zK hF0 (O.upd P.upd hF0) (fun i hi=>hF i (Nat.le_trans P.upd.1 hi)) (P.from U0 (fun _ _ h=>h) K0 e1 e2 e3) hq
theorem aIK {a b k:Nat} (h:a<2 ^ k):a ||| b * 2 ^ k=a+b * 2 ^ k:=by
 rw [Nat.or_comm,Nat.mul_comm]
 have:=Nat.two_pow_add_eq_or_of_lt h b
 omega
theorem aIG {w : cV} {c : bY} {b : Nat} (hb : b < 2) (hF0 : ¬ F 0) (O : cS h) (D : Dec L h F d r out told) (hF : ∀ i, h.length ≤ i → F i) (hd : r.done = false) (hw : o0 h F d r w c) (hf : yB w c) (hset : (Out.wait ⟨out, r.last, r.skip⟩ w c).set)
  (hq:∀ e h' r',cS h'→(Infl.bitP L r.input ⟨out,r.last,r.skip⟩ w c b).set→cP F L h F d r told (Infl.bitP L r.input ⟨out,r.last,r.skip⟩ w c b) e h' r'→Q (.i .i64 e) h'):C Y3.id [dp d,iN b] h Q:=by
 refine Y3.call ?_
 simp only [Y3.t,bF,bD, ← Y3.p1.eq_1]
 refine aE D.recd rfl rfl ?_
 cases w with
 | num need hv acc =>
  obtain ⟨hco,hcode,hneed,hhv,hacc,hclo⟩:=hw
  obtain ⟨f1,f2,f3,f4⟩:=hf
  have hset:0<need:=hset
  have hlt:hv<need:=f3.elim (fun h=>h) fun h=>by omega
  rw [hcode]
  refine aEJ (by kernel_rfl) (aV (aL rfl ?_))
  refine aE D.recd rfl rfl (aC (aE D.recd rfl rfl (aC ?_)))
  rw [hacc,hhv]
  have p1:2 ^ hv≤2 ^ 16:=Nat.pow_le_pow_right (by decide) (by omega)
  have p2:b * 2 ^ hv≤1 * 2 ^ 16:=Nat.mul_le_mul (by omega) p1
  have p3:acc+b * 2 ^ hv<2 ^ (hv+1):=by
   have:b * 2 ^ hv≤1 * 2 ^ hv:=Nat.mul_le_mul_right _ (by omega)
   rw [Nat.pow_succ]; omega
  have p4:2 ^ (hv+1)≤2 ^ need:=Nat.pow_le_pow_right (by decide) (by omega)
  refine eM (by omega) (by omega) ?_
  have hor:bO .or .i64 ((acc:Nat):Int) ((b * 2 ^ hv:Nat):Int)=((acc+b * 2 ^ hv:Nat):Int):=by
   rw [zH (by omega) (by omega),aIK f2]
  refine aX hor ?_
  generalize hA:acc+b * 2 ^ hv=A at *
  refine aP D.recd rfl (ltr rfl) (hk:=fun h1 l1 U1 R1=>?_)
  refine aE R1 rfl rfl (aC ?_)
  rw [hhv]
  refine inc (by omega) ?_
  refine aP R1 rfl (ltr rfl) (hk:=fun h2 l2 U2 R2=>?_)
  have U:=U1.trans U2 fun _ _ h=>h
  have D2:Dec L h2 F d { r with acc:=A,have':=hv+1 } out told:=D.with U R2 rfl rfl rfl rfl
  have O2:cS h2:=O.upd U fun e=>hF0 (e ▸ D.f d (.inl rfl))
  have clo2:=hclo.upd (G':=Gd F d { r with acc:=A,have':=hv+1 }) U (fun i hi e=>hi.2 (.inl e)) fun _ _ h=>h
  refine aE R2 rfl rfl (aC (aE R2 rfl rfl (aC ?_)))
  rw [hneed]
  rw [Infl.bit_num] at hq
  refine aG ?_ ?_ <;> intro e
  ·have e : hv + 1 < need := by simp at e; omega
   rw [if_pos e,hA] at hq
   refine .inl (hq 0 h2 { r with acc:=A,have':=hv+1 } O2 hset ⟨U.mono fun i _ e=>D.f i (.inl e),fun _ _ h=>h,D2,rfl,rfl,rfl,rfl,rfl,rfl,hd,⟨hco,hcode,hneed,rfl,rfl,clo2⟩,f1,p3,.inl e,f4⟩)
  ·have e : ¬ hv + 1 < need := by simp at e; omega
   rw [if_neg e,hA] at hq
   refine aE R2 rfl rfl (aC ?_)
   exact aA7 (r0:=r) hF0 O2 D2 (fun i hi=>hF i (by omega)) hd hco clo2 (f4 A (by omega)) (U.mono fun i _ e=>D.f i (.inl e)) (fun _ _ h=>h) rfl rfl rfl hq
 | sym l n x =>
  obtain ⟨hco,ic,sym,hcode,A,hclo⟩:=hw
  obtain ⟨f1,f2,f3⟩:=hf
  rw [hcode]
  refine sZ (by kernel_rfl) (aV (aW rfl ?_))
  refine aE D.recd rfl rfl ?_
  rw [hcode]
  rw [Infl.bit_sym] at hq
  refine aHM A f1 f2 hb fun h1 U1=>?_
  have hne:∀ i,Mut d r i→¬ i=ic:=fun i hm e=>A.g.2 (e ▸ hm)
  have D1:Dec L h1 F d r out told:=D.upd U1 hne
  have O1:cS h1:=O.upd U1 fun e=>hF0 (e ▸ A.g.1)
  have UF:Upd F h h1:=U1.mono fun i _ e=>e ▸ A.g.1
  have clo1:=hclo.upd (G':=fun i=>Gd F d r i∧i≠ic) U1 (fun i hi e=>hi.2 e) fun _ _ h=>h
  have A1:∀ {n' x'},bC h1 ic (cZ l sym n' x')→b9 h1 (Gd F d r) ic l sym n' x':=fun R=>{ A with recd:=R,syms:=A.syms.upd U1 fun i hi e=>(A.gs i hi).2.1 e,gs:=fun i hi=>⟨(A.gs i hi).1,(A.gs i hi).2.1,Nat.lt_of_lt_of_le (A.gs i hi).2.2 U1.1⟩ }
  have hF1:∀ i,h1.length≤i→F i:=fun i hi=>hF i (Nat.le_trans U1.1 hi)
  cases hs:Huff.stepP l (n+1) (2 * x+b) with
  | sym i =>
   simp only [hs] at hq ⊢
   intro R1 hi
   simp only [cW,cX,yK]
   refine aC (aV (aC (aL rfl (aL rfl ?_))))
   exact aAU hF0 O1 D1 hF1 hd hco (A1 R1) clo1 (f3 i hi) UF (fun _ _ h=>h) rfl rfl rfl hq
  | more =>
   simp only [hs] at hq ⊢
   intro R1
   simp only [cW,cX,yK]
   refine aC (aV (aC (aL rfl (aW rfl (.inl ?_)))))
   have hn1:n+1≤15:=by
    unfold Huff.stepP at hs
    split at hs
    ·cases hs
    ·split at hs
     ·have : Huff.longest l ≤ 15 := by
       rw [← fV A.le]
       have:∀ n,lg l n≤n:=by
        intro n
        induction n with
        | zero=>exact Nat.le_refl _
        | succ n ih=>unfold lg; split <;> omega
       exact this 15
      omega
     ·cases hs
   exact hq 0 h1 r O1 trivial ⟨UF,fun _ _ h=>h,D1,rfl,rfl,rfl,rfl,rfl,rfl,hd,⟨hco,ic,sym,hcode,A1 R1,clo1⟩,hn1,by rw [Nat.pow_succ]; omega,f3⟩
  | bad =>
   simp only [hs] at hq ⊢
   intro R1
   simp only [cW,cX,yK]
   refine aC (aV (aC (aW rfl (.inl ?_))))
   exact hq 2 h1 r O1 trivial ⟨UF,fun _ _ h=>h,D1,rfl,rfl,rfl,rfl,.inl rfl,hd⟩
end
end Go.Proofs.YtpaphfeihpgamaaDoor
namespace Go.Proofs.YtpaphfeihpgamaaDoor
open Go.GAM
open Go.Infl (bL cV bY Out Lim)
section
variable [XR] {h:aA} {Q:AV→aA→Prop} {L:Lim} {s:List UInt8} {d:Nat} {r:RS} {out:List UInt8} {F:Infl.Fin}
theorem aE0 {x:Nat} (h1:257≤x) (h2:x≤285) (hq:Q (.tu [iN (Infl.least x).1,iN (Infl.least x).2]) h):C Y72.id [iN x] h Q:=by
 refine Y72.call ?_
 simp only [Y72.t]
 unfold Infl.least at hq
 refine aG ?_ ?_ <;> intro e
 ·have e : x ≤ 264 := by simp at e; omega
  rw [if_pos e] at hq
  exact bS (n:=((x - 254:Nat):Int)) (by omega) (by omega) (by omega) (.inl hq)
 ·have e : ¬ x ≤ 264 := by simp at e; omega
  rw [if_neg e] at hq
  refine aG ?_ ?_ <;> intro e2
  ·have e2 : x = 285 := by simp at e2; omega
   rw [if_pos e2] at hq
   exact .inl hq
  ·have e2 : ¬ x = 285 := by simp at e2; omega
   rw [if_neg e2] at hq
   refine bS (n:=((x - 261:Nat):Int)) (by omega) (by omega) (by omega) ?_
   refine kF (n:=(((x - 261) / 4:Nat):Int)) (by decide) (by rw [Int.tdiv_eq_ediv_of_nonneg (by omega),bA (by omega) (by omega)]; omega) ?_
   refine bS (n:=((x - 265:Nat):Int)) (by omega) (by omega) (by omega) ?_
   refine lR (n:=(((x - 265) % 4:Nat):Int)) (by decide) (by rw [Int.tmod_eq_emod_of_nonneg (by omega)]; omega) ?_
   refine bS (n:=((4+(x - 265) % 4:Nat):Int)) (by omega) (by omega) (by omega) ?_
   have hp:2 ^ ((x - 261) / 4)≤2 ^ 6:=Nat.pow_le_pow_right (by decide) (by omega)
   have hm:(4+(x - 265) % 4) * 2 ^ ((x - 261) / 4)≤8 * 2 ^ 6:=Nat.mul_le_mul (by omega) hp
   rw [wrap_u64 (by omega) (by omega)]
   refine eM (by omega) (by omega) ?_
   generalize (4+(x - 265) % 4) * 2 ^ ((x - 261) / 4)=y at *
   exact bS (n:=((y+3:Nat):Int)) (by omega) (by omega) (by omega) (.inl hq)
theorem aHQ {x:Nat} (h2:x≤29) (hq:Q (.tu [iN (Infl.farOf x).1,iN (Infl.farOf x).2]) h):C Y70.id [iN x] h Q:=by
 refine Y70.call ?_
 simp only [Y70.t]
 unfold Infl.farOf at hq
 refine aG ?_ ?_ <;> intro e
 ·have e : x < 4 := by simp at e; omega
  rw [if_pos e] at hq
  exact inc (by omega) (.inl hq)
 ·have e : ¬ x < 4 := by simp at e; omega
  rw [if_neg e] at hq
  refine kF (n:=((x / 2:Nat):Int)) (by decide) (by rw [Int.tdiv_eq_ediv_of_nonneg (by omega),bA (by omega) (by omega)]; omega) ?_
  refine bS (n:=((x / 2 - 1:Nat):Int)) (by omega) (by omega) (by omega) ?_
  refine lR (n:=((x % 2:Nat):Int)) (by decide) (by rw [Int.tmod_eq_emod_of_nonneg (by omega)]; omega) ?_
  refine bS (n:=((2+x % 2:Nat):Int)) (by omega) (by omega) (by omega) ?_
  have hp:2 ^ (x / 2 - 1)≤2 ^ 13:=Nat.pow_le_pow_right (by decide) (by omega)
  have hm:(2+x % 2) * 2 ^ (x / 2 - 1)≤4 * 2 ^ 13:=Nat.mul_le_mul (by omega) hp
  rw [wrap_u64 (by omega) (by omega)]
  refine eM (by omega) (by omega) ?_
  generalize (2+x % 2) * 2 ^ (x / 2 - 1)=y at *
  exact inc (by omega) (.inl hq)
theorem RU.c {d id:Nat} {h0 h h':aA} {r0 r r':RS} (a:RU d h0 r0 h r) (b:RUc d id h r h' r') (hid:h0.length≤id):RU d h0 r0 h' r':=
 ⟨a.1.trans b.1 fun i hi hm=>hm.elim (a.2 i hi) fun e=>by omega,fun i hi hm=>a.2 i hi (by unfold dN at *; rw [b.2] at hm; exact hm)⟩
structure sJ (h:aA) (h0:aA) (d:Nat) (r:RS) (ia:Nat) (a:List Nat) (la ca:AV) (ib:Nat) (b:List Nat) (lb cb:AV):Prop where
 a:eF h (fun i=>¬ dN d r i∧i≠ib) ia a la ca 0 0
 b:eF h (fun i=>¬ dN d r i∧i≠ia) ib b lb cb 0 0
 na:h0.length≤ia
 nb:h0.length≤ib
theorem sJ.ru {h h' h0:aA} {r r':RS} {ia ib:Nat} {a b:List Nat} {la ca lb cb:AV} (T:sJ h h0 d r ia a la ca ib b lb cb) (U:RU d h r h' r'):sJ h' h0 d r' ia a la ca ib b lb cb:=
 ⟨T.a.upd U.1 (fun i hi hm=>hi.1 hm) fun i hl hi=>⟨fun hm=>hi.1 (U.2 i hl hm),hi.2⟩,T.b.upd U.1 (fun i hi hm=>hi.1 hm) fun i hl hi=>⟨fun hm=>hi.1 (U.2 i hl hm),hi.2⟩,T.na,T.nb⟩
theorem kP {r r':RS} (e:r'.outv=r.outv) (i:Nat):dN d r' i↔dN d r i:=by unfold dN; rw [e]
def lits (a b:List Nat) (kl:Bool) (out:List UInt8):Out:=Infl.litW ⟨out,kl,false⟩ a b
theorem aIV {h0 h0' : aA} {r0 : RS} {ia ib : Nat} {a b : List Nat} {la ca lb cb : AV} {kl : Bool} {n far : Nat} (hn : n ≤ 300) (hf0 : 0 < far)
  (hq:∀ h' r' out',RU d h0 r0 h' r'→sJ h' h0 d r' ia a la ca ib b lb cb→RSt L s h' d r' out'→(r'.stop=false→r.at'≤r'.at')→At L s F r' out' (lits a b kl out')→Y2.p0 (aH h0' Q) (rp d) (kp ia) (kp ib) h') :
  ∀ (m i : Nat) (h : aA) (r1 : RS) (out : List UInt8), i + m = n → RU d h0 r0 h r1 → sJ h h0 d r1 ia a la ca ib b lb cb → RSt L s h d r1 out → (r1.stop = false → r.at' ≤ r1.at') →
   (r1.stop=true∧jP r1 out F∨r1.stop=false∧far≤out.length∧F=Infl.go L ((Infl.bitsOf s).drop r1.at') r1.at' (match Infl.copyP L ((r1.at'+7) / 8) far m ⟨out,kl,false⟩ with | (k',true)=>Infl.litW k' a b | (k',false)=>.err 2 k')) →
   Y2.p3 (aH h0' Q) (rp d) (kp ia) (kp ib) n far i h:=by
 have leave:∀ (i:Int) (h:aA) (r1:RS) (out:List UInt8),RU d h0 r0 h r1→sJ h h0 d r1 ia a la ca ib b lb cb→RSt L s h d r1 out→(r1.stop=false→r.at'≤r1.at')→At L s F r1 out (lits a b kl out)→Y2.p4 (aH h0' Q) (rp d) (kp ia) (kp ib) n far i false h:=fun i h r1 out U T S hle hA=>by
  refine Y2.i4 ?_
  simp only [Y2.t4, ← Y2.p0.eq_1]
  exact aL rfl (hq h r1 out U T S hle hA)
 intro m
 induction m with
 | zero =>
  intro i h r1 out hi U T S hle hF
  obtain rfl:i=n:=by omega
  refine Y2.i3 ?_
  simp only [Y2.t3, ← Y2.p4.eq_1]
  refine aL (by simp) (leave _ h r1 out U T S hle ?_)
  rcases hF with hF | ⟨hl,_,hF⟩
  ·exact .inl hF
  ·exact .inr ⟨hl,hF⟩
 | succ m ih =>
  intro i h r1 out hi U T S hle hF
  refine Y2.i3 ?_
  simp only [Y2.t3, ← Y2.p4.eq_1]
  refine aW (by simp; omega) (bG S (aV ?_))
  rcases hF with hF | ⟨hl,hfar,hF⟩
  ·rw [hF.1]
   exact leave _ h r1 out U T S hle (.inl hF)
  ·rw [hl]
   refine Y2.i4 ?_
   simp only [Y2.t4,bF,bD, ← Y2.p3.eq_1]
   refine aW rfl ?_
   have hlen:=S.len
   refine aE S.recd rfl rfl (aE S.recd rfl rfl (S.ob.rd.len ?_))
   simp only [List.length_map]
   have hfl:far≤9223372036854775807:=by omega
   refine bS (n:=((out.length - far:Nat):Int)) (by omega) (by omega) (by omega) ?_
   obtain ⟨c,hc⟩:∃ c,out[out.length - far]? = some c:=⟨_,List.getElem?_eq_getElem (by omega)⟩
   refine S.ob.rd.byte (i:=out.length - far) hc ?_
   have hg:out.getD (out.length - far) 0=c:=by rw [List.getD_eq_getElem?_getD,hc] <;> rfl
   rw [Infl.copyP] at hF
   simp only at hF
   rw [hg] at hF
   obtain ⟨hsh,he⟩:=dM hl
   refine yZ S (fun e=>by rw [hl] at e; cases e) (fun _ hfull h1 U1 S1=>?_) fun _ hfull h1 v U1 S1=>?_
   ·unfold Infl.putP at hF
    rw [if_pos hfull] at hF
    simp only at hF
    rw [Infl.go_err] at hF
    have hst:RS.stop { r1 with e:=16 }=true:=by unfold RS.stop; rw [hsh] <;> rfl
    have hfit:jP { r1 with e:=16 } out F:=by rw [hF]; exact ⟨rfl,.inr (.inr ⟨hsh,rfl,rfl⟩)⟩
    have Ua:RU d h r1 h1 { r1 with e:=16 }:=RU.own U1 rfl
    refine inc (by omega) (ih (i+1) h1 { r1 with e:=16 } out (by omega) (U.trans Ua) (T.ru Ua) S1 (fun e=>by rw [hst] at e; cases e) (.inl ⟨hst,hfit⟩))
   ·unfold Infl.putP at hF
    rw [if_neg (by simp [hfull])] at hF
    refine inc (by omega) (ih (i+1) h1 { r1 with outv:=v } (out++[c]) (by omega) (U.trans U1) (T.ru U1) S1 hle (.inr ⟨hl,by simp; omega,hF⟩))
theorem sE {h0 h0' : aA} {r0 : RS} {ia ib : Nat} {a b : List Nat} {la ca lb cb : AV} {kl : Bool}
  (hq:∀ h' r' out',RU d h0 r0 h' r'→RSt L s h' d r' out'→(r'.stop=false→r0.at'≤r'.at')→At L s F r' out' (Infl.block ⟨out',kl,false⟩)→Q (.tu []) h') :
  ∀ (m : Nat) (h : aA) (r : RS) (out : List UInt8), (r.stop = false → 8 * s.length - r.at' ≤ m) → RU d h0 r0 h r → sJ h h0 d r ia a la ca ib b lb cb → RSt L s h d r out → (r.stop = false → r0.at' ≤ r.at') → At L s F r out (lits a b kl out) →
   Y2.p0 (aH h0' Q) (rp d) (kp ia) (kp ib) h:=by
 intro m
 induction m with
 | zero =>
  intro h r out hm U T S hle hA
  refine Y2.i0 ?_
  simp only [Y2.t0, ← Y2.p1.eq_1]
  refine bG S (aV ?_)
  rcases hA with hA | ⟨hl,hF⟩
  ·rw [hA.1]
   exact aL rfl (.inl (hq h r out U S hle (.inl hA)))
  ·rw [hl]
   refine aW rfl ?_
   have hle2:=S.le
   refine kU (F:=F) (k:=⟨out,kl,false⟩) (c:=.lit a b) (G:=fun i=>¬ dN d r i∧i≠ib) rfl rfl (fun i hi=>hi.1) S hl T.a hF (fun h1 r1 U1 S1 hf1=>?_) (fun i h1 r1 hi U1 S1 hs1 hlt1 A1 hF1=>?_)
   ·refine aC (bG S1 (aV ?_))
    rw [hf1.stop]
    refine aW rfl (Y2.i1 ?_)
    simp only [Y2.t1]
    exact aW rfl (.inl (hq h1 r1 out (U.c U1 T.na) S1 (fun e=>by rw [hf1.stop] at e; cases e) (.inl ⟨hf1.stop,hf1⟩)))
   ·have := S1.le
    have:=hm hl
    omega
 | succ m ih =>
  intro h r out hm U T S hle hA
  refine Y2.i0 ?_
  simp only [Y2.t0, ← Y2.p1.eq_1]
  refine bG S (aV ?_)
  rcases hA with hA | ⟨hl,hF⟩
  ·rw [hA.1]
   exact aL rfl (.inl (hq h r out U S hle (.inl hA)))
  rw [hl]
  refine aW rfl ?_
  have hle2:=S.le
  have hm:=hm hl
  have hle:=hle hl
  refine kU (F:=F) (k:=⟨out,kl,false⟩) (c:=.lit a b) (G:=fun i=>¬ dN d r i∧i≠ib) rfl rfl (fun i hi=>hi.1) S hl T.a hF (fun h1 r1 U1 S1 hf1=>?_) (fun x h1 r1 hi U1 S1 hs1 hlt1 A1 hF1=>?_)
  ·refine aC (bG S1 (aV ?_))
   rw [hf1.stop]
   refine aW rfl (Y2.i1 ?_)
   simp only [Y2.t1]
   exact aW rfl (.inl (hq h1 r1 out (U.c U1 T.na) S1 (fun e=>by rw [hf1.stop] at e; cases e) (.inl ⟨hf1.stop,hf1⟩)))
  have hx320:x<320:=Nat.lt_of_lt_of_le hi T.a.len
  have Ua:=U.c U1 T.na
  have T1:sJ h1 h0 d r1 ia a la ca ib b lb cb:=by
   have hne:ia≠ib:=T.a.g.2
   refine ⟨A1.upd (Upd.refl (fun _=>False) h1) (fun _ _ h=>h) fun i _ hi=>⟨fun hm=>hi.1 ((kP U1.2 i).1 hm),hi.2⟩,T.b.upd U1.1 (fun i hi hm=>hm.elim hi.1 hi.2) fun i _ hi=>⟨fun hm=>hi.1 ((kP U1.2 i).1 hm),hi.2⟩,T.na,T.nb⟩
  have hle1:=S1.le
  obtain ⟨hsh1,he1⟩:=dM hs1
  simp only [Infl.apply] at hF1
  refine aC (bG S1 (aV ?_))
  rw [hs1]
  refine aL rfl (Y2.i1 ?_)
  simp only [Y2.t1, ← Y2.p0.eq_1, ← Y2.p2.eq_1]
  refine aG ?_ ?_ <;> intro e256
  ·have e256 : x = 256 := by simp at e256; omega
   rw [if_neg (by omega),if_pos e256,Infl.settle_set (sO _)] at hF1
   exact .inl (hq h1 r1 out Ua S1 (fun _=>by omega) (.inr ⟨hs1,hF1⟩))
  have e256:¬ x=256:=by simp at e256; omega
  refine aG ?_ ?_ <;> intro elt
  ·have elt : x < 256 := by simp at elt; omega
   rw [if_pos elt] at hF1
   rw [wN elt]
   refine aAC (f:=fun k'=>Infl.litW k' a b) (kl:=kl) S1 hs1 (fun k=>trivial) hF1 fun h2 r2 o2 U2 S2 he2 ho2 hA2=>?_
   exact ih h2 r2 o2 (fun _=>by omega) (Ua.trans U2) (T1.ru U2) S2 (fun _=>by omega) hA2
  have elt:¬ x<256:=by simp at elt; omega
  rw [if_neg elt,if_neg e256] at hF1
  refine aG ?_ ?_ <;> intro e285
  ·have e285 : 285 < x := by simp at e285; omega
   rw [if_pos e285,Infl.settle_set (by trivial),Infl.go_err] at hF1
   refine e7 S1 (fun e=>by rw [hs1] at e; cases e) fun _ h2 U2 S2=>.inl ?_
   have hst:RS.stop { r1 with e:=2 }=true:=by unfold RS.stop; rw [hsh1] <;> rfl
   refine hq h2 { r1 with e:=2 } out (Ua.trans (RU.own U2 rfl)) S2 (fun e=>by rw [hst] at e; cases e) (.inl ⟨hst, ?_⟩)
   rw [hF1]
   exact ⟨rfl,.inr (.inl ⟨hsh1,rfl,rfl⟩)⟩
  have e285:¬ 285<x:=by simp at e285; omega
  rw [if_neg e285] at hF1
  obtain ⟨b1,b2⟩:=m8 x (by omega) (by omega)
  refine aE0 (by omega) (by omega) ?_
  simp only [cW,cX]
  refine aC (aC ?_)
  refine fQ (F:=F) (n:=(Infl.least x).2) (k:=⟨out,kl,false⟩) (c:=.more a b (Infl.least x).1) b2 rfl S1 hs1 rfl ?_ (fun v h2 r2 hv U2 S2 hs2 hf2=>?_) (fun v h2 r2 hv U2 S2 hs2 hle2 hlt2 hF2=>?_)
  ·by_cases hz : 0 < (Infl.least x).2
   ·rw [if_pos hz,hF1,Infl.settle_set (by exact hz)]
   ·have hz : (Infl.least x).2 = 0 := by omega
    rw [if_neg (by omega),hF1,hz,jF (c:=.more a b (Infl.least x).1) trivial,Infl.settle_set (iA (c:=.more a b (Infl.least x).1) trivial)]
  ·have stopA : ∀ (h3 : aA), Upd (· = d) h2 h3 → RSt L s h3 d r2 out → Q (.tu []) h3 := fun h3 U3 S3 => hq h3 r2 out ((Ua.trans U2).trans (RU.own U3 rfl)) S3 (fun e => by rw [hs2] at e; cases e) (.inl ⟨hs2, hf2⟩)
   refine aC (bS (n:=(((Infl.least x).1+v:Nat):Int)) (by omega) (by omega) (by omega) ?_)
   refine tU (.inr ⟨ib,rfl⟩) S2 hs2 fun h3 U3 S3=>aC (bG S3 (aV ?_))
   rw [hs2]
   exact aW rfl (.inl (stopA h3 U3 S3))
  have Ub:=Ua.trans U2
  have T2:=T1.ru U2
  have hF2':F=Infl.go L ((Infl.bitsOf s).drop r2.at') r2.at' (.wait ⟨out,kl,false⟩ (.sym b 0 0) (.far a b ((Infl.least x).1+v))):=by
   rw [hF2,Infl.settle_set (by trivial)] <;> rfl
  refine aC (bS (n:=(((Infl.least x).1+v:Nat):Int)) (by omega) (by omega) (by omega) ?_)
  have hnv:(Infl.least x).1+v≤300:=by omega
  generalize (Infl.least x).1+v=nn at hF2' hnv ⊢
  refine kU (F:=F) (k:=⟨out,kl,false⟩) (c:=.far a b nn) (G:=fun i=>¬ dN d r2 i∧i≠ia) rfl rfl (fun i hi=>hi.1) S2 hs2 T2.b hF2' (fun h3 r3 U3 S3 hf3=>?_) (fun y h3 r3 hy U3 S3 hs3 hlt3 B3 hF3=>?_)
  ·refine aC (bG S3 (aV ?_))
   rw [hf3.stop]
   exact aW rfl (.inl (hq h3 r3 out (Ub.c U3 T.nb) S3 (fun e=>by rw [hf3.stop] at e; cases e) (.inl ⟨hf3.stop,hf3⟩)))
  have Uc:=Ub.c U3 T.nb
  have T3:sJ h3 h0 d r3 ia a la ca ib b lb cb:=
   ⟨T2.a.upd U3.1 (fun i hi hm=>hm.elim hi.1 hi.2) fun i _ hi=>⟨fun hm=>hi.1 ((kP U3.2 i).1 hm),hi.2⟩,B3.upd (Upd.refl (fun _=>False) h3) (fun _ _ h=>h) fun i _ hi=>⟨fun hm=>hi.1 ((kP U3.2 i).1 hm),hi.2⟩,T.na,T.nb⟩
  obtain ⟨hsh3,he3⟩:=dM hs3
  have hle3:=S3.le
  simp only [Infl.apply] at hF3
  refine aC (bG S3 (aV ?_))
  rw [hs3]
  refine aL rfl ?_
  refine aG ?_ ?_ <;> intro e29
  ·have e29 : 29 < y := by simp at e29; omega
   rw [if_pos e29,Infl.settle_set (by trivial),Infl.go_err] at hF3
   refine e7 S3 (fun e=>by rw [hs3] at e; cases e) fun _ h4 U4 S4=>.inl ?_
   have hst:RS.stop { r3 with e:=2 }=true:=by unfold RS.stop; rw [hsh3] <;> rfl
   refine hq h4 { r3 with e:=2 } out (Uc.trans (RU.own U4 rfl)) S4 (fun e=>by rw [hst] at e; cases e) (.inl ⟨hst, ?_⟩)
   rw [hF3]
   exact ⟨rfl,.inr (.inl ⟨hsh3,rfl,rfl⟩)⟩
  have e29:¬ 29<y:=by simp at e29; omega
  rw [if_neg e29] at hF3
  obtain ⟨c0,c1,c2⟩:=uV y (by omega)
  refine aHQ (by omega) ?_
  simp only [cW,cX]
  refine aC (aC ?_)
  have copyl:∀ (far:Nat) (h4:aA) (r4:RS),0<far→RU d h0 r0 h4 r4→sJ h4 h0 d r4 ia a la ca ib b lb cb→RSt L s h4 d r4 out→(r4.stop=false→r3.at'≤r4.at') →
    (r4.stop=true∧jP r4 out F∨r4.stop=false∧far≤out.length∧F=Infl.go L ((Infl.bitsOf s).drop r4.at') r4.at' (match Infl.copyP L ((r4.at'+7) / 8) far nn ⟨out,kl,false⟩ with | (k',true)=>Infl.litW k' a b | (k',false)=>.err 2 k')) →
    Y2.p2 (aH h0' Q) (rp d) (kp ia) (kp ib) nn far h4:=fun far h4 r4 hf0 U4 T4 S4 hle4 hF4=>by
   refine Y2.i2 ?_
   simp only [Y2.t2, ← Y2.p3.eq_1]
   refine aIV (r:=r3) (F:=F) (kl:=kl) (n:=nn) (far:=far) hnv hf0 (fun h5 r5 o5 U5 T5 S5 hle5 hA5=>?_) nn 0 h4 r4 out (by omega) U4 T4 S4 hle4 hF4
   exact ih h5 r5 o5 (fun e=>by have:=hle5 e; omega) U5 T5 S5 (fun e=>by have:=hle5 e; omega) hA5
  refine fQ (F:=F) (n:=(Infl.farOf y).2) (k:=⟨out,kl,false⟩) (c:=.farMore a b nn (Infl.farOf y).1) c2 rfl S3 hs3 rfl ?_ (fun v2 h4 r4 hv4 U4 S4 hs4 hf4=>?_) (fun v2 h4 r4 hv4 U4 S4 hs4 hle4 hlt4 hF4=>?_)
  ·by_cases hz : 0 < (Infl.farOf y).2
   ·rw [if_pos hz,hF3,Infl.settle_set (by exact hz)]
   ·have hz : (Infl.farOf y).2 = 0 := by omega
    rw [if_neg (by omega),hF3,hz,jF (c:=.farMore a b nn (Infl.farOf y).1) trivial,Infl.settle_set (iA (c:=.farMore a b nn (Infl.farOf y).1) trivial)]
  ·refine aC (bS (n := (((Infl.farOf y).1 + v2 : Nat) : Int)) (by omega) (by omega) (by omega) ?_)
   simp only [bF,bD]
   refine aE S4.recd rfl rfl (S4.ob.rd.len ?_)
   have fin:=copyl ((Infl.farOf y).1+v2) h4 r4 (by omega) (Uc.trans U4) (T3.ru U4) S4 (fun e=>by rw [hs4] at e; cases e) (.inl ⟨hs4,hf4⟩)
   refine aG ?_ ?_ <;> intro e
   ·exact e7 S4 (fun _=>fin) fun e=>by rw [hs4] at e; cases e
   ·exact fin
  ·have Ud := Uc.trans U4
   have T4:=T3.ru U4
   simp only [Infl.apply] at hF4
   refine aC (bS (n:=(((Infl.farOf y).1+v2:Nat):Int)) (by omega) (by omega) (by omega) ?_)
   simp only [bF,bD]
   refine aE S4.recd rfl rfl (S4.ob.rd.len ?_)
   rw [List.length_map]
   obtain ⟨hsh4,he4⟩:=dM hs4
   refine aG ?_ ?_ <;> intro e
   ·have e : out.length < (Infl.farOf y).1 + v2 := by simp at e; omega
    rw [if_pos e,Infl.settle_set (by trivial),Infl.go_err] at hF4
    have hst:RS.stop { r4 with e:=2 }=true:=by unfold RS.stop; rw [hsh4] <;> rfl
    refine e7 S4 (fun e=>by rw [hs4] at e; cases e) fun _ h5 U5 S5=>?_
    have Ue:RU d h4 r4 h5 { r4 with e:=2 }:=RU.own U5 rfl
    refine copyl _ h5 { r4 with e:=2 } (by omega) (Ud.trans Ue) (T4.ru Ue) S5 (fun e=>by rw [hst] at e; cases e) (.inl ⟨hst, ?_⟩)
    rw [hF4]
    exact ⟨rfl,.inr (.inl ⟨hsh4,rfl,rfl⟩)⟩
   ·have e : ¬ out.length < (Infl.farOf y).1 + v2 := by simp at e; omega
    rw [if_neg e] at hF4
    refine copyl _ h4 r4 (by omega) Ud T4 S4 (fun _=>hle4) (.inr ⟨hs4,by omega, ?_⟩)
    have hset:(match Infl.copyP L ((r4.at'+7) / 8) ((Infl.farOf y).1+v2) nn ⟨out,kl,false⟩ with | (k',true)=>Infl.litW k' a b | (k',false)=>Out.err 2 k').set:=by
     cases Infl.copyP L ((r4.at'+7) / 8) ((Infl.farOf y).1+v2) nn ⟨out,kl,false⟩ with
     | mk k' ok=>cases ok <;> trivial
    rw [hF4]
    exact congrArg _ (Infl.settle_set hset)
end
end Go.Proofs.YtpaphfeihpgamaaDoor
namespace Go.Proofs.YtpaphfeihpgamaaDoor
open Go.GAM
open Go.Infl (bL cV bY Out Lim)
theorem iR {k:bL} {n a b:Nat} {c:bY} (h:0<n):(Out.wait k (.num n a b) c).set:=h
theorem sP (k:bL) (a b:List Nat):(Infl.codes k a b).set:=by unfold Infl.codes; split <;> trivial
theorem rW (k:bL) (c l:List Nat) (x y:Nat):(Infl.lensW k c l x y).set:=by
 unfold Infl.lensW; split
 ·exact sP _ _ _
 ·trivial
theorem s9 (k:bL) (l:List Nat) (i n x y:Nat):(Infl.thirdW k l i n x y).set:=by
 unfold Infl.thirdW; split
 ·split
  ·exact rW _ _ _ _ _
  ·trivial
 ·show 0<3; decide
theorem Exa.kind {h:aA} {v:AV} {l:List Nat} (S:Exa h v l):v.parts=[v]∧v.sizeOK=true∧v.cellOK=true:=by
 rcases S with ⟨rfl,_⟩ | ⟨id,b,rfl,_⟩ <;> exact ⟨rfl,rfl,rfl⟩
theorem Exa.store {h:aA} {v:AV} {l:List Nat} (S:Exa h v l) {k:IntKind} {i x:Nat} (hi:i<l.length) {K:aA→Prop} (hk:∀ h',h'.length=h.length→Upd (aQ v) h h'→Exa h' v (l.set i x)→K h') :
  aN 1 v (.i k (i:Int)) h fun a=>aT 1 a (iN x) h K:=by
 rcases S with ⟨rfl,rfl⟩ | ⟨id,b,rfl,h1,h2,h3,h4,h5,h6⟩
 ·simp at hi
 ·have e : b.cells.length = l.length := by rw [h3, aY]
  refine ⟨by omega,by omega,⟨b,h1,by show b.floor≤l.length; omega,by omega⟩, ?_⟩
  refine ⟨b,h1,h5,h4,e.symm,by simp only [Int.toNat_natCast]; omega,rfl,rfl,rfl, ?_⟩
  refine hk _ (by simp) ((Upd.set _ _ _).mono fun i _ h=>h.symm) (.inr ⟨id,{ b with cells:=wr b.cells (0+(i:Int).toNat * 1) (iN x).parts,floor:=b.cells.length },by rw [List.length_set],List.getElem?_set_self (aM h1),h2, ?_, ?_,h5,h6⟩)
  ·show (b.cells).set (0 + (i : Int).toNat * 1) (iN x) = _
   rw [Int.toNat_natCast,Nat.mul_one,Nat.zero_add,h3,iD]
  ·show b.cells.length ≤ _
   rw [List.length_set]; omega
section
variable [XR] {h:aA} {Q:AV→aA→Prop} {L:Lim} {s:List UInt8} {d:Nat} {r:RS} {out:List UInt8} {F:Infl.Fin}
theorem RU.more {d:Nat} {h0 h h':aA} {r0 r:RS} {M:Nat→Prop} (a:RU d h0 r0 h r) (U:Upd M h h') (hM:∀ i,M i→h0.length≤i):RU d h0 r0 h' r:=
 ⟨a.1.trans U fun i hi hm=>by have:=hM i hm; omega,a.2⟩
theorem mZ {n:Nat} {kl:Bool} {c:bY} (hn0:0<n) (hn:n≤16) (S:RSt L s h d r out) (hA:At L s F r out (.wait ⟨out,kl,false⟩ (.num n 0 0) c))
  (hq:∀ v h' r',v<2 ^ n→RU d h r h' r'→RSt L s h' d r' out→(r'.stop=false→r.stop=false∧r.at'<r'.at')→At L s F r' out (Infl.settle L ((r'.at'+7) / 8) 3 (Infl.apply L ((r'.at'+7) / 8) ⟨out,kl,false⟩ v c))→Q (iN v) h') :
  C Y12.id [rp d,iN n] h Q:=by
 rcases hA with hA | ⟨hl,hF⟩
 ·exact fO hn hA.1 S fun h1 U1 S1=>hq 0 h1 r (Nat.pow_pos (by decide)) (RU.own U1 rfl) S1 (fun e=>by rw [hA.1] at e; cases e) (.inl hA)
 ·exact fQ (F:=F) (k:=⟨out,kl,false⟩) (c:=c) hn rfl S hl rfl (by rw [if_pos hn0]; exact hF) (fun v h1 r1 hv U1 S1 hs1 hf1=>hq v h1 r1 hv U1 S1 (fun e=>by rw [hs1] at e; cases e) (.inl ⟨hs1,hf1⟩)) fun v h1 r1 hv U1 S1 hs1 hle1 hlt1 hF1=>hq v h1 r1 hv U1 S1 (fun _=>⟨hl,hlt1 hn0⟩) (.inr ⟨hs1,hF1⟩)
theorem fZ {k:bL} (ho:k.out=out) (S:RSt L s h d r out) (hA:At L s F r out (.err 1 k)) (hq:∀ h' r',RU d h r h' r'→RSt L s h' d r' out→r'.stop=true→jP r' out F→Q (.tu []) h'):C Y39.id [rp d] h Q:=by
 refine e7 S (fun e=>?_) fun hl h1 U1 S1=>?_
 ·rcases hA with hA | ⟨hl, _⟩
  ·exact hq h r (RU.refl _ _ _) S hA.1 hA.2
  ·rw [hl] at e; cases e
 ·obtain ⟨hsh, he⟩ := dM hl
  rcases hA with hA | ⟨_,hF⟩
  ·rw [hA.1] at hl; cases hl
  ·rw [Infl.go_err] at hF
   exact hq h1 { r with e:=2 } (RU.own U1 rfl) S1 (by unfold RS.stop; rw [hsh] <;> rfl) (by rw [hF]; exact ⟨ho,.inr (.inl ⟨hsh,rfl,rfl⟩)⟩)
theorem At.stop {o:Out} (hs:r.stop=true) (hA:At L s F r out o) (o':Out):At L s F r out o':=by
 rcases hA with hA | ⟨hl,_⟩
 ·exact .inl hA
 ·rw [hs] at hl; cases hl
structure nI (L:Lim) (s:List UInt8) (F:Infl.Fin) (d:Nat) (h0:aA) (r0:RS) (kl:Bool) (Q:AV→aA→Prop):Prop where
 stop:∀ h' r' out v w,RU d h0 r0 h' r'→RSt L s h' d r' out→r'.stop=true→jP r' out F→Q (.tu [v,w]) h'
 live:∀ h' r' out (a b:List Nat) va vb,RU d h0 r0 h' r'→RSt L s h' d r' out→r'.stop=false→r0.at'≤r'.at'→RdI 1 h' va (bB a) a.length→RdI 1 h' vb (bB b) b.length→(∀ i,aQ va i→h0.length≤i∧i<h'.length∧¬ dN d r' i)→(∀ i,aQ vb i→h0.length≤i∧i<h'.length∧¬ dN d r' i) →
  va.parts=[va]∧va.sizeOK=true∧va.cellOK=true→vb.parts=[vb]∧vb.sizeOK=true∧vb.cellOK=true→a.length≤320→b.length≤320→(∀ x∈a,x≤15)→(∀ x∈b,x≤15)→Huff.checkP a=0→Huff.checkP b=0→F=Infl.go L ((Infl.bitsOf s).drop r'.at') r'.at' (Infl.litW ⟨out,kl,false⟩ a b)→Q (.tu [va,vb]) h'
theorem Exa.frontS {h:aA} {v:AV} {l:List Nat} (S:Exa h v l) {n:Nat} (hn:n≤l.length) {K:AV→Prop} (hk:∀ v',RdI 1 h v' (bB (l.take n)) (l.take n).length→(∀ i,aQ v' i→aQ v i)→v'.parts=[v']∧v'.sizeOK=true∧v'.cellOK=true→K v'):bI 1 v none (some (.i .i64 (n:Int))) none h K:=by
 rcases S with ⟨rfl,rfl⟩ | ⟨id,b,rfl,g1,g2,g3,g4,g5,g6⟩
 ·have : n = 0 := by simpa using hn
  subst this
  exact ⟨by simp,rfl,rfl,rfl,fun h=>by simp at h,hk _ (.inl ⟨rfl,by simp,by simp [bB]⟩) (fun _ h=>h) ⟨rfl,rfl,rfl⟩⟩
 ·have e : b.cells.length = l.length := by rw [g3, aY]
  refine ⟨Nat.one_pos,fun h=>by simp at h,by omega,by simp,b,g1,by omega,by show b.floor≤l.length; omega,.inl g2,.inl (by simpa using hn), ?_⟩
  refine hk _ (.inr (.inr ⟨id,l.length,0+0 * 1,none,b, ?_,g1,by omega,by omega, ?_, ?_⟩)) (fun _ h=>h) ⟨rfl,rfl,rfl⟩
  ·simp; omega
  ·simp; omega
  ·rw [show 0 + 0 * 1 = 0 from rfl, List.drop_zero, g3]
   unfold bB
   rw [← List.map_take,Nat.mul_one,List.length_take,Nat.min_eq_left hn]
theorem Exa.backS {h:aA} {v:AV} {l:List Nat} (S:Exa h v l) {n:Nat} (hn:n≤l.length) {K:AV→Prop} (hk:∀ v',RdI 1 h v' (bB (l.drop n)) (l.drop n).length→(∀ i,aQ v' i→aQ v i)→v'.parts=[v']∧v'.sizeOK=true∧v'.cellOK=true→K v'):bI 1 v (some (.i .i64 (n:Int))) none none h K:=by
 rcases S with ⟨rfl,rfl⟩ | ⟨id,b,rfl,g1,g2,g3,g4,g5,g6⟩
 ·have : n = 0 := by simpa using hn
  subst this
  exact ⟨by simp,rfl,rfl,rfl,fun h=>by simp at h,hk _ (.inl ⟨rfl,rfl,rfl⟩) (fun _ h=>h) ⟨rfl,rfl,rfl⟩⟩
 ·have e : b.cells.length = l.length := by rw [g3, aY]
  refine ⟨Nat.one_pos,fun h=>by simp at h,by omega,by simpa using hn,b,g1,by omega,by show b.floor≤l.length; omega,.inl g2,.inl (Nat.le_refl _), ?_⟩
  refine hk _ (.inr (.inr ⟨id,l.length,0+((n:Int).toNat) * 1,none,b, ?_,g1,by omega,by omega, ?_, ?_⟩)) (fun _ h=>h) ⟨rfl,rfl,rfl⟩
  ·simp
  ·simp; omega
  ·rw [Int.toNat_natCast, Nat.mul_one, Nat.zero_add, Nat.mul_one, g3]
   unfold bB
   rw [← List.map_drop]
   exact List.take_of_length_le (by simp)
theorem wV {h0 h0' : aA} {r0 : RS} {lits dists : Nat} {l : List Nat} {v : AV} {kl : Bool} (hl1 : lits ≤ 288) (hl2 : dists ≤ 32) (hP : nI L s F d h0 r0 kl Q) (U : RU d h0 r0 h r) (S : RSt L s h d r out) (hle : r.stop = false → r0.at' ≤ r.at') (E : Exa h v l) (hN : ∀ i, aQ v i → h0.length ≤ i ∧ ¬ dN d r i) (h16 : ∀ x ∈ l, x < 16) (hlen : r.stop = false → l.length = lits + dists) {c : List Nat}
  (hA:At L s F r out (Infl.lensW ⟨out,kl,false⟩ c l lits dists)):Y0.p9 (aH h0' Q) (rp d) lits v h:=by
 refine Y0.i9 ?_
 simp only [Y0.t9, ← Y0.p10.eq_1]
 refine bG S (aV ?_)
 rcases hA with hA | ⟨hl,hF⟩
 ·rw [hA.1]
  exact aW rfl (.inl (hP.stop h r out _ _ U S hA.1 hA.2))
 ·rw [hl]
  have hlen:=hlen hl
  have hat:=hle hl
  refine aL rfl ?_
  unfold Infl.lensW at hF
  rw [if_pos hlen] at hF
  have hEl:∀ i,aQ v i→i<h.length:=fun i hi=>E.lt hi
  have la:(l.take lits).length≤320:=by rw [List.length_take]; omega
  have lb:(l.drop lits).length≤320:=by rw [List.length_drop]; omega
  have a15:∀ x∈l.take lits,x≤15:=fun x hx=>by have:=h16 x (List.mem_of_mem_take hx); omega
  have b15:∀ x∈l.drop lits,x≤15:=fun x hx=>by have:=h16 x (List.mem_of_mem_drop hx); omega
  refine E.frontS (by omega) fun va Ra Na Ka=>?_
  have hck:∀ n,d8 n=0↔n=0:=fun n=>by
   unfold d8
   split
   ·simp
   ·simp
   ·rename_i h1 h2; simp; exact h1
  have P11:∀ (h1:aA) (r1:RS),RU d h r h1 r1→(r1.stop=true→RSt L s h1 d r1 out∧jP r1 out F)→(r1.stop=false→r1=r∧h1=h∧Huff.checkP (l.take lits)=0∧Huff.checkP (l.drop lits)=0)→Y0.p11 (aH h0' Q) lits v h1:=fun h1 r1 U1 hs hlv=>by
   have E1:Exa h1 v l:=E.upd U1.1 fun i hi hm=>(hN i hi).2 hm
   refine Y0.i11 ?_
   simp only [Y0.t11]
   refine E1.frontS (by omega) fun v1 R1 N1 K1=>E1.backS (by omega) fun v2 R2 N2 K2=>.inl ?_
   cases hr:r1.stop with
   | true =>
    obtain ⟨S1,f1⟩:=hs hr
    exact hP.stop h1 r1 out _ _ (U.trans U1) S1 hr f1
   | false =>
    obtain ⟨rfl,rfl,c1,c2⟩:=hlv hr
    refine hP.live h1 r1 out _ _ v1 v2 U S hl hat R1 R2 (fun i hi=>⟨(hN i (N1 i hi)).1,hEl i (N1 i hi),(hN i (N1 i hi)).2⟩) (fun i hi=>⟨(hN i (N2 i hi)).1,hEl i (N2 i hi),(hN i (N2 i hi)).2⟩) K1 K2 la lb a15 b15 c1 c2 ?_
    rw [hF]
    unfold Infl.codes
    rw [if_pos ⟨c1,c2⟩]
  have bad:¬ (Huff.checkP (l.take lits)=0∧Huff.checkP (l.drop lits)=0)→Y0.p10 (aH h0' Q) (rp d) lits v true h:=fun hb=>by
   refine Y0.i10 ?_
   simp only [Y0.t10, ← Y0.p11.eq_1]
   refine aW rfl ?_
   unfold Infl.codes at hF
   rw [if_neg hb] at hF
   refine fZ (k:=⟨out,kl,false⟩) (F:=F) rfl S (.inr ⟨hl,hF⟩) fun h1 r1 U1 S1 hs1 hf1=>?_
   exact P11 h1 r1 U1 (fun _=>⟨S1,hf1⟩) fun e=>by rw [hs1] at e; cases e
  refine j3 Ra la a15 (aC ?_)
  refine aG ?_ ?_ <;> intro e
  ·refine bad fun hh => ?_
   rw [hh.1] at e
   simp [d8] at e
  ·have e : Huff.checkP (l.take lits) = 0 := (hck _).1 (by simpa using e)
   refine E.backS (by omega) fun vb Rb Nb Kb=>?_
   refine j3 Rb lb b15 (aC ?_)
   by_cases hb:Huff.checkP (l.drop lits)=0
   ·rw [hb]
    refine Y0.i10 ?_
    simp only [Y0.t10, ← Y0.p11.eq_1]
    refine aL rfl (P11 h r (RU.refl _ _ _) (fun e=>by rw [hl] at e; cases e) fun _=>⟨rfl,rfl,e,hb⟩)
   ·have : (!decide (d8 (Huff.checkP (l.drop lits)) = 0)) = true := by simp [hck, hb]
    rw [this]
    exact bad fun hh=>hb hh.2
def z4 (h:aA) (A B:Nat) (d:Nat) (r:RS) (p:AV) (c:List Nat):Prop:=(p = .p none∨∃ id,p=kp id)∧(r.stop=false→∃ id lv cv,p=kp id∧eF h (fun i=>¬ dN d r i∧A≤i∧i<B) id c lv cv 0 0∧c.length≤19)
theorem sS {h0 h0' : aA} {r0 : RS} {lits dists B : Nat} {kl : Bool} {c : List Nat} {p : AV} (hl1 : lits ≤ 288) (hl2 : dists ≤ 32) (hB : h0.length ≤ B) (hP : nI L s F d h0 r0 kl Q) :
    ∀ (m : Nat) (h : aA) (r : RS) (v : AV) (l : List Nat), (r.stop = false → lits + dists - l.length ≤ m) → RU d h0 r0 h r → RSt L s h d r out → (r.stop = false → r0.at' ≤ r.at') → Exa h v l → B ≤ h.length → (∀ i, aQ v i → B ≤ i ∧ ¬ dN d r i) → (∀ x ∈ l, x < 16) → l.length ≤ 1000 → (r.stop = false → l.length ≤ lits + dists) → z4 h h0.length B d r p c →
      At L s F r out (Infl.lensW ⟨out,kl,false⟩ c l lits dists)→Y0.p5 (aH h0' Q) (rp d) lits dists p v h:=by
  have final:∀ (h:aA) (r:RS) (v:AV) (l:List Nat),RU d h0 r0 h r→RSt L s h d r out→(r.stop=false→r0.at'≤r.at')→Exa h v l→(∀ i,aQ v i→B≤i∧¬ dN d r i)→(∀ x∈l,x<16)→(r.stop=false→l.length=lits+dists)→At L s F r out (Infl.lensW ⟨out,kl,false⟩ c l lits dists)→Y0.p6 (aH h0' Q) (rp d) lits dists p v false h:=fun h r v l U S hle E hN h16 hlen hA=>by
    refine Y0.i6 ?_
    simp only [Y0.t6, ← Y0.p9.eq_1]
    exact aL rfl (wV hl1 hl2 hP U S hle E (fun i hi=>⟨Nat.le_trans hB (hN i hi).1,(hN i hi).2⟩) h16 hlen hA)
  intro m
  induction m with
  | zero =>
    intro h r v l hm U S hle E hBh hN h16 hl1000 hll hc hA
    refine Y0.i5 ?_
    simp only [Y0.t5, ← Y0.p6.eq_1]
    refine E.rd.len (bS (n:=((lits+dists:Nat):Int)) (by omega) (by omega) (by omega) ?_)
    refine aG ?_ ?_ <;> intro e
    · refine bG S (aV ?_)
      cases hs:r.stop with
      | true=>exact final h r v l U S hle E hN h16 (fun e=>by rw [hs] at e; cases e) hA
      | false=>have:=hm hs; have:=hll hs; simp at e; omega
    · exact final h r v l U S hle E hN h16 (fun hs=>by have:=hll hs; simp at e; omega) hA
  | succ m ih =>
    intro h r v l hm U S hle E hBh hN h16 hl1000 hll hc hA
    refine Y0.i5 ?_
    simp only [Y0.t5, ← Y0.p6.eq_1]
    refine E.rd.len (bS (n:=((lits+dists:Nat):Int)) (by omega) (by omega) (by omega) ?_)
    refine aG ?_ ?_ <;> intro e
    · have e : l.length < lits + dists := by simp at e; omega
      refine bG S (aV ?_)
      cases hs:r.stop with
      | true=>exact final h r v l U S hle E hN h16 (fun e=>by rw [hs] at e; cases e) hA
      | false=>
      obtain ⟨ic,lv,cv,rfl,A,hc19⟩:=hc.2 hs
      have hle:=hle hs
      rcases hA with hA | ⟨_,hF⟩
      · rw [hA.1] at hs; cases hs
      unfold Infl.lensW at hF
      rw [if_neg (by omega)] at hF
      have P7:∀ (n y:Nat) (h1:aA) (r1:RS),0<n→n≤138→y<16→RU d h0 r0 h1 r1→RSt L s h1 d r1 out→(r1.stop=false→r0.at'≤r1.at')→Exa h1 v l→B≤h1.length→(∀ i,aQ v i→B≤i∧¬ dN d r1 i)→z4 h1 h0.length B d r1 (kp ic) c →
          At L s F r1 out (if lits+dists<l.length+n then .err 1 ⟨out,kl,false⟩ else Infl.lensW ⟨out,kl,false⟩ c (l++List.replicate n y) lits dists)→Y0.p7 (aH h0' Q) (rp d) lits dists (kp ic) v y n h1:=fun n y h1 r1 hn0 hn hy U1 S1 hle1 E1 hB1 hN1 hc1 hA1=>by
        have P8:∀ (h2:aA) (r2:RS),RU d h0 r0 h2 r2→RSt L s h2 d r2 out→(r2.stop=false→r0.at'≤r2.at')→Exa h2 v l→B≤h2.length→(∀ i,aQ v i→B≤i∧¬ dN d r2 i)→z4 h2 h0.length B d r2 (kp ic) c→(r2.stop=false→l.length+n≤lits+dists)→At L s F r2 out (Infl.lensW ⟨out,kl,false⟩ c (l++List.replicate n y) lits dists)→Y0.p8 (aH h0' Q) (rp d) lits dists (kp ic) v y n h2:=fun h2 r2 U2 S2 hle2 E2 hB2 hN2 hc2 hl2' hA2=>by
          refine Y0.i8 ?_
          simp only [Y0.t8, ← Y0.p5.eq_1]
          refine mL (by omega) (by omega) E2 fun h3 v3 U3 S3 N3=>?_
          have hvn:∀ i,aQ v i→h0.length≤i:=fun i hi=>Nat.le_trans hB (hN2 i hi).1
          refine ih h3 r2 v3 (l++List.replicate n y) (fun e=>?_) (U2.more U3 hvn) (S2.upd U3 fun i hm hi=>(hN2 i hi).2 hm) hle2 S3 (Nat.le_trans hB2 U3.1) (fun i hi=>?_) (fun x hx=>?_) (by simp; omega) (fun e=>by simp; exact hl2' e) ⟨hc2.1,fun e=>?_⟩ hA2
          · have := hl2' e
            rw [List.length_append,List.length_replicate]
            have:=hm hs
            omega
          · rcases N3 i hi with g | g
            · exact hN2 i g
            · exact ⟨by omega,fun hm=>by have:=S2.lt hm; omega⟩
          · rcases List.mem_append.1 hx with g | g
            · exact h16 x g
            · rw [(List.mem_replicate.1 g).2]; exact hy
          · obtain ⟨id, lv', cv', e1, A', e2⟩ := hc2.2 e
            exact ⟨id,lv',cv',e1,A'.upd U3 (fun i hi hm=>by have:=(hN2 i hm).1; omega) fun i _ hi=>hi,e2⟩
        refine Y0.i7 ?_
        simp only [Y0.t7, ← Y0.p8.eq_1]
        refine E1.rd.len (bS (n:=((l.length+n:Nat):Int)) (by omega) (by omega) (by omega) (bS (n:=((lits+dists:Nat):Int)) (by omega) (by omega) (by omega) ?_))
        refine aG ?_ ?_ <;> intro e1
        · have e1 : lits + dists < l.length + n := by simp at e1; omega
          rw [if_pos e1] at hA1
          refine fZ (k:=⟨out,kl,false⟩) (F:=F) rfl S1 hA1 fun h2 r2 U2 S2 hs2 hf2=>?_
          refine P8 h2 r2 (U1.trans U2) S2 (fun e=>by rw [hs2] at e; cases e) (E1.upd U2.1 fun i hi hm=>(hN1 i hi).2 hm) (Nat.le_trans hB1 U2.1.1) (fun i hi=>⟨(hN1 i hi).1,fun hm=>(hN1 i hi).2 (U2.2 i (E1.lt hi) hm)⟩) ⟨hc1.1,fun e=>by rw [hs2] at e; cases e⟩ (fun e=>by rw [hs2] at e; cases e) (.inl ⟨hs2,hf2⟩)
        · have e1 : ¬ lits + dists < l.length + n := by simp at e1; omega
          rw [if_neg e1] at hA1
          exact P8 h1 r1 U1 S1 hle1 E1 hB1 hN1 hc1 (fun _=>by omega) hA1
      refine Y0.i6 ?_
      simp only [Y0.t6, ← Y0.p7.eq_1, ← Y0.p9.eq_1]
      refine aW rfl ?_
      have keepN:∀ {h1:aA} {r1:RS},r1.outv=r.outv→∀ i,aQ v i→B≤i∧¬ dN d r1 i:=fun {h1 r1} e i hi=>⟨(hN i hi).1,fun hm=>(hN i hi).2 ((kP e i).1 hm)⟩
      have hicB:ic<B:=A.g.2.2
      have eN:∀ {h1:aA} {r1:RS},RUc d ic h r h1 r1→Exa h1 v l:=fun {h1 r1} U1=>E.upd U1.1 fun i hi hm=>hm.elim (hN i hi).2 fun e=>by have:=(hN i hi).1; omega
      refine kU (F:=F) (k:=⟨out,kl,false⟩) (c:=.lens c l lits dists) (G:=fun i=>¬ dN d r i∧h0.length≤i∧i<B) rfl rfl (fun i hi=>hi.1) S hs A hF (fun h1 r1 U1 S1 hf1=>?_) (fun x h1 r1 hx U1 S1 hs1 hlt1 A1 hF1=>?_)
      ·
        refine aC (aL rfl (aL rfl (aL rfl ?_)))
        exact P7 1 0 h1 r1 (by decide) (by decide) (by decide) (U.c U1 A.g.2.1) S1 (fun e=>by rw [hf1.stop] at e; cases e) (eN U1) (Nat.le_trans hBh U1.1.1) (keepN (h1:=h1) U1.2) ⟨.inr ⟨ic,rfl⟩,fun e=>by rw [hf1.stop] at e; cases e⟩ (.inl ⟨hf1.stop,hf1⟩)
      · have hx19 : x < 19 := by omega
        have Ua:=U.c U1 A.g.2.1
        have E1:=eN U1
        have N1:=keepN (h1:=h1) U1.2
        have hB1:=Nat.le_trans hBh U1.1.1
        have A1':eF h1 (fun i=>¬ dN d r1 i∧h0.length≤i∧i<B) ic c lv cv 0 0:=A1.upd (Upd.refl (fun _=>False) h1) (fun _ _ h=>h) fun i _ hi=>⟨fun hm=>hi.1 ((kP U1.2 i).1 hm),hi.2⟩
        have C1:z4 h1 h0.length B d r1 (kp ic) c:=⟨.inr ⟨ic,rfl⟩,fun _=>⟨ic,lv,cv,rfl,A1',hc19⟩⟩
        simp only [Infl.apply] at hF1
        have more:∀ (bits mm y:Nat) (K:Int→aA→Prop),0<bits→bits≤7→0<mm→mm+2 ^ bits≤139→y<16→F=Infl.go L ((Infl.bitsOf s).drop r1.at') r1.at' (.wait ⟨out,kl,false⟩ (.num bits 0 0) (.rep c l lits dists mm y)) →
            (∀ (w:Nat) (h2:aA),w<2 ^ bits→Exa h2 v l→Y0.p7 (aH h0' Q) (rp d) lits dists (kp ic) v y ((mm+w:Nat):Int) h2→K w h2) →
            C Y12.id [rp d,iN bits] h1 fun v1 h2=>asI .i64 v1 fun n=>K n h2:=fun bits mm y K hb0 hb hm0 hmb hy hF2 hK=>by
          refine mZ (F:=F) (kl:=kl) (c:=.rep c l lits dists mm y) hb0 (by omega) S1 (.inr ⟨hs1,hF2⟩) fun w h2 r2 hw U2 S2 hl2 hA2=>aC ?_
          have E2:Exa h2 v l:=E1.upd U2.1 fun i hi hm=>(N1 i hi).2 hm
          refine hK w h2 hw E2 ?_
          refine P7 (mm+w) y h2 r2 (by omega) (by omega) hy (Ua.trans U2) S2 (fun e=>by have:=hl2 e; omega) E2 (Nat.le_trans hB1 U2.1.1) (fun i hi=>⟨(N1 i hi).1,fun hm=>(N1 i hi).2 (U2.2 i (E1.lt hi) hm)⟩) ⟨.inr ⟨ic,rfl⟩,fun _=>⟨ic,lv,cv,rfl,A1'.upd U2.1 (fun i hi hm=>hi.1 hm) fun i hl hi=>⟨fun hm=>hi.1 (U2.2 i hl hm),hi.2⟩,hc19⟩⟩ ?_
          rcases hA2 with hA2 | ⟨hs2,hF3⟩
          · exact .inl hA2
          · refine .inr ⟨hs2, ?_⟩
            simp only [Infl.apply] at hF3
            rw [hF3]
            refine congrArg _ (Infl.settle_set ?_)
            split
            · trivial
            · exact rW _ _ _ _ _
        refine aC ?_
        refine aG ?_ ?_ <;> intro e16
        · have e16 : x = 16 := by simp at e16; omega
          rw [if_neg (by omega),if_pos e16] at hF1
          refine E1.rd.len ?_
          refine aG ?_ ?_ <;> intro e0
          · have e0 : l = [] := List.eq_nil_of_length_eq_zero (by simp at e0; simpa using e0)
            rw [if_pos e0,Infl.settle_set (by trivial)] at hF1
            refine fZ (k:=⟨out,kl,false⟩) (F:=F) rfl S1 (.inr ⟨hs1,hF1⟩) fun h2 r2 U2 S2 hs2 hf2=>?_
            exact wV (l:=l) (c:=c) hl1 hl2 hP (Ua.trans U2) S2 (fun e=>by rw [hs2] at e; cases e) (E1.upd U2.1 fun i hi hm=>(N1 i hi).2 hm) (fun i hi=>⟨Nat.le_trans hB (N1 i hi).1,fun hm=>(N1 i hi).2 (U2.2 i (E1.lt hi) hm)⟩) h16 (fun e=>by rw [hs2] at e; cases e) (.inl ⟨hs2,hf2⟩)
          · have e0 : l ≠ [] := fun e => by rw [e] at e0; simp at e0
            rw [if_neg e0,Infl.settle_set (iR (n:=2) (by decide))] at hF1
            have hpos:0<l.length:=List.length_pos_iff.2 e0
            have hlast:l[l.length - 1]? = some (l.getLastD 0):=by
              rw [List.getLastD_eq_getLast?,List.getLast?_eq_getElem?]
              rw [List.getElem?_eq_getElem (by omega)] <;> rfl
            refine more 2 3 (l.getLastD 0) _ (by decide) (by decide) (by decide) (by decide) (h16 _ (List.mem_of_getElem? hlast)) hF1 fun w h2 hw E2 hp7=>?_
            refine bS (n:=((3+w:Nat):Int)) (by omega) (by omega) (by omega) (E2.rd.len ?_)
            refine bS (n:=((l.length - 1:Nat):Int)) (by omega) (by omega) (by omega) ?_
            exact cO E2.rd.i hlast hp7
        · have e16 : ¬ x = 16 := by simp at e16; omega
          refine aG ?_ ?_ <;> intro e17
          · have e17 : x = 17 := by simp at e17; omega
            rw [if_neg (by omega),if_neg e16,if_pos e17,Infl.settle_set (iR (n:=3) (by decide))] at hF1
            refine more 3 3 0 _ (by decide) (by decide) (by decide) (by decide) (by decide) hF1 fun w h2 hw E2 hp7=>?_
            exact bS (n:=((3+w:Nat):Int)) (by omega) (by omega) (by omega) hp7
          · have e17 : ¬ x = 17 := by simp at e17; omega
            refine aG ?_ ?_ <;> intro e18
            · have e18 : x = 18 := by simp at e18; omega
              rw [if_neg (by omega),if_neg e16,if_neg e17,Infl.settle_set (iR (n:=7) (by decide))] at hF1
              refine more 7 11 0 _ (by decide) (by decide) (by decide) (by decide) (by decide) hF1 fun w h2 hw E2 hp7=>?_
              exact bS (n:=((11+w:Nat):Int)) (by omega) (by omega) (by omega) hp7
            · have e18 : ¬ x = 18 := by simp at e18; omega
              have hx16:x<16:=by omega
              rw [if_pos hx16,Infl.settle_set (rW _ _ _ _ _)] at hF1
              refine P7 1 x h1 r1 (by decide) (by decide) hx16 Ua S1 (fun _=>by omega) E1 hB1 N1 C1 (.inr ⟨hs1, ?_⟩)
              rw [if_neg (by omega)]
              exact hF1
    · exact final h r v l U S hle E hN h16 (fun hs=>by have:=hll hs; simp at e; omega) hA
end
end Go.Proofs.YtpaphfeihpgamaaDoor
namespace Go.Proofs.YtpaphfeihpgamaaDoor
open Go.GAM
open Go.Infl (bL cV bY Out Lim)
section
variable [XR] {h:aA} {Q:AV→aA→Prop} {L:Lim} {s:List UInt8} {d:Nat} {r:RS} {out:List UInt8} {F:Infl.Fin}
theorem tY {h0 h0':aA} {r0:RS} {lits dists:Nat} {c:List Nat} {v:AV} {kl:Bool} (hl1:lits≤288) (hl2:dists≤32) (hP:nI L s F d h0 r0 kl Q) (U:RU d h0 r0 h r) (S:RSt L s h d r out) (hle:r.stop=false→r0.at'≤r.at') (E:Exa h v c) (hN:∀ i,aQ v i→h0.length≤i∧¬ dN d r i) (hc19:c.length=19) (h8:∀ x∈c,x<8)
  (hA:At L s F r out (Infl.lensW ⟨out,kl,false⟩ c [] lits dists)) (hck:r.stop=false→Huff.checkP c=0):Y0.p4 (aH h0' Q) (rp d) lits dists v h:=by
 have c15:∀ x∈c,x≤15:=fun x hx=>by have:=h8 x hx; omega
 have hU1:=U.1.1
 refine Y0.i4 ?_
 simp only [Y0.t4, ← Y0.p5.eq_1]
 refine nU E.rd.i (fun i hi=>E.lt hi) E.kind (by omega) c15 (fun hn e=>?_) fun hok h1 id cv V A hid hcv=>?_
 ·simp only [cW, cX]
  refine aC ?_
  have hs:r.stop=true:=by
   cases hs:r.stop with
   | true=>rfl
   | false=>exact absurd (hck hs) hn
  exact sS (c:=c) (B:=h.length) hl1 hl2 hU1 hP (lits+dists) h r _ [] (fun e=>by rw [hs] at e; cases e) U S hle (.inl ⟨rfl,rfl⟩) (Nat.le_refl _) (fun _ h=>h.elim) (fun x hx=>by cases hx) (by simp) (fun e=>by rw [hs] at e; cases e) ⟨.inl rfl,fun e=>by rw [hs] at e; cases e⟩ hA
 ·simp only [cW, cX]
  refine aC ?_
  have hV:=V.1
  refine sS (c:=c) (B:=h1.length) hl1 hl2 (by omega) hP (lits+dists) h1 r _ [] (fun _=>Nat.le_refl _) (U.more V fun _ h=>h.elim) (S.upd V fun _ _ h=>h) hle (.inl ⟨rfl,rfl⟩) (Nat.le_refl _) (fun _ h=>h.elim) (fun x hx=>by cases hx) (by simp) (fun _=>Nat.zero_le _) ⟨.inr ⟨id,rfl⟩,fun _=>⟨id,v,cv,rfl, ?_,by omega⟩⟩ hA
  refine A.upd (Upd.refl (fun _=>False) h1) (fun _ _ h=>h) fun i hl hi=>?_
  rcases hi with hi | hi
  ·exact ⟨(hN i hi).2,(hN i hi).1,hl⟩
  ·exact ⟨fun hm=>by have:=S.lt hm; omega,by omega,hl⟩
theorem aFU {h0 h0' : aA} {r0 : RS} {lits dists n : Nat} {v7 v8 : AV} {kl : Bool} (hl1 : lits ≤ 288) (hl2 : dists ≤ 32) (hn : n ≤ 19) (hP : nI L s F d h0 r0 kl Q) :
  ∀ (m i : Nat) (h : aA) (r : RS) (c : List Nat), i + m = n → RU d h0 r0 h r → RSt L s h d r out → (r.stop = false → r0.at' ≤ r.at') → RdI 1 h v7 (bB Infl.order) 19 → (∀ i, aQ v7 i → h0.length ≤ i ∧ ¬ dN d r i ∧ ¬ aQ v8 i ∧ i < h.length) → Exa h v8 c → (∀ i, aQ v8 i → h0.length ≤ i ∧ ¬ dN d r i) → c.length = 19 → (∀ x ∈ c, x < 8) →
   At L s F r out (Infl.thirdW ⟨out,kl,false⟩ c i n lits dists)→Y0.p2 (aH h0' Q) (rp d) lits dists n v7 v8 i h:=by
 intro m
 induction m with
 | zero =>
  intro i h r c hi U S hle R7 N7 E8 N8 hc19 h8 hA
  obtain rfl:i=n:=by omega
  have c15:∀ x∈c,x≤15:=fun x hx=>by have:=h8 x hx; omega
  refine Y0.i2 ?_
  simp only [Y0.t2, ← Y0.p3.eq_1]
  refine aL (by simp) (bG S (aV ?_))
  cases hs:r.stop with
  | true =>
   refine aL rfl (Y0.i3 ?_)
   simp only [Y0.t3, ← Y0.p4.eq_1]
   exact aL rfl (tY (c:=c) (out:=out) hl1 hl2 hP U S hle E8 N8 hc19 h8 (At.stop hs hA _) fun e=>by rw [hs] at e; cases e)
  | false =>
   rcases hA with hA | ⟨_,hF⟩
   ·rw [hA.1] at hs; cases hs
   unfold Infl.thirdW at hF
   rw [if_pos rfl] at hF
   refine aW rfl (j3 E8.rd.i (by omega) c15 (aC (Y0.i3 ?_)))
   simp only [Y0.t3, ← Y0.p4.eq_1]
   by_cases hok:Huff.checkP c=0
   ·rw [if_pos hok] at hF
    rw [hok]
    exact aL rfl (tY (c:=c) (out:=out) hl1 hl2 hP U S hle E8 N8 hc19 h8 (.inr ⟨hs,hF⟩) fun _=>hok)
   ·rw [if_neg hok] at hF
    have hne:(!decide (d8 (Huff.checkP c)=0))=true:=by
     have:d8 (Huff.checkP c)≠0:=by
      unfold d8
      split
      ·contradiction
      ·decide
      ·decide
     simp [this]
    refine aW hne (fZ (k:=⟨out,kl,false⟩) (F:=F) rfl S (.inr ⟨hs,hF⟩) fun h1 r1 U1 S1 hs1 hf1=>?_)
    exact tY (c:=c) (out:=out) hl1 hl2 hP (U.trans U1) S1 (fun e=>by rw [hs1] at e; cases e) (E8.upd U1.1 fun i hi hm=>(N8 i hi).2 hm) (fun i hi=>⟨(N8 i hi).1,fun hm=>(N8 i hi).2 (U1.2 i (E8.lt hi) hm)⟩) hc19 h8 (.inl ⟨hs1,hf1⟩) fun e=>by rw [hs1] at e; cases e
 | succ m ih =>
  intro i h r c hi U S hle R7 N7 E8 N8 hc19 h8 hA
  obtain ⟨o1,o2⟩:=wL i (by omega)
  refine Y0.i2 ?_
  simp only [Y0.t2, ← Y0.p2.eq_1]
  refine aW (by simp; omega) ?_
  have hget:(bB Infl.order)[i * 1+0]? = some (iN (Infl.order.getD i 0)):=by rw [Nat.mul_one,Nat.add_zero]; exact gE o1
  rw [aEE R7 (by omega) (by omega),Int.toNat_natCast,aDT R7 (by omega) Nat.one_pos hget]
  refine aC ?_
  have hthird:Infl.thirdW ⟨out,kl,false⟩ c i n lits dists = .wait ⟨out,kl,false⟩ (.num 3 0 0) (.third c i n lits dists):=by unfold Infl.thirdW; rw [if_neg (by omega)]
  rw [hthird] at hA
  refine mZ (n:=3) (F:=F) (kl:=kl) (c:=.third c i n lits dists) (by decide) (by decide) S hA fun v h1 r1 hv U1 S1 hl1' hA1=>aC ?_
  have hv8:v<8:=hv
  have R71:RdI 1 h1 v7 (bB Infl.order) 19:=R7.upd U1.1 fun i hi hm=>(N7 i hi).2.1 hm
  have E81:Exa h1 v8 c:=E8.upd U1.1 fun i hi hm=>(N8 i hi).2 hm
  rw [aDT R71 (by omega) Nat.one_pos hget]
  refine aC ⟨rfl, ?_⟩
  rw [aEE R71 (by omega) (by omega),Int.toNat_natCast]
  refine ⟨rfl, ?_⟩
  refine E81.store (by omega) fun h2 l2 U2 E82=>inc (by omega) ?_
  refine ih (i+1) h2 r1 (c.set (Infl.order.getD i 0) v) (by omega) ((U.trans U1).more U2 fun i hi=>(N8 i hi).1) (S1.upd U2 fun i hm hi=>(N8 i hi).2 (U1.2 i (E8.lt hi) hm)) (fun e=>?_) (R71.upd U2 fun i hi hm=>(N7 i hi).2.2.1 hm) (fun i hi=>⟨(N7 i hi).1,fun hm=>(N7 i hi).2.1 (U1.2 i (N7 i hi).2.2.2 hm),(N7 i hi).2.2.1,by have:=(N7 i hi).2.2.2; have:=U1.1.1; omega⟩) E82 (fun i hi=>⟨(N8 i hi).1,fun hm=>(N8 i hi).2 (U1.2 i (E8.lt hi) hm)⟩) (by rw [List.length_set]; exact hc19) (fun x hx=>?_) ?_
  ·have := hl1' e
   have:=hle this.1
   omega
  ·rcases List.mem_or_eq_of_mem_set hx with g | g
   ·exact h8 x g
   ·rw [g]; exact hv8
  ·rcases hA1 with hA1 | ⟨hs1, hF1⟩
   ·exact .inl hA1
   ·refine .inr ⟨hs1, ?_⟩
    simp only [Infl.apply] at hF1
    rw [Infl.settle_set (s9 _ _ _ _ _ _)] at hF1
    exact hF1
theorem aHN {kl : Bool} (S : RSt L s h d r out) (hA : At L s F r out (.wait ⟨out, kl, false⟩ (.num 5 0 0) .dyn1)) (hP : nI L s F d h r kl Q) : C Y0.id [rp d] h Q := by
 have P1:∀ (lits dists:Nat) (h1:aA) (r1:RS),lits≤288→dists≤32→RU d h r h1 r1→RSt L s h1 d r1 out→(r1.stop=false→r.at'≤r1.at')→At L s F r1 out (.wait ⟨out,kl,false⟩ (.num 4 0 0) (.dyn3 lits dists))→Y0.p1 (aH h Q) (rp d) lits dists h1:=fun lits dists h1 r1 hl1 hl2 U1 S1 hle1 hA1=>by
  refine Y0.i1 ?_
  simp only [Y0.t1, ← Y0.p2.eq_1]
  refine mZ (n:=4) (F:=F) (kl:=kl) (c:=.dyn3 lits dists) (by decide) (by decide) S1 hA1 fun v h2 r2 hv U2 S2 hl2' hA2=>aC ?_
  have hv:v<16:=hv
  refine bS (n:=((v+4:Nat):Int)) (by omega) (by omega) (by omega) ?_
  refine dZ (cs:=bB Infl.order) rfl rfl fun v7 h3 l3 U3 R3 F3=>?_
  refine nY (n:=19) (y:=0) (by decide) fun h4 v8 U4 E4 N4=>?_
  have hU1:=U1.1.1
  have hU2:=U2.1.1
  have hU4:=U4.1
  have S3:RSt L s h4 d r2 out:=(S2.upd U3 fun _ _ h=>h).upd U4 fun _ _ h=>h
  have R4:=R3.i.ext U4
  refine aFU (n:=v+4) (out:=out) hl1 hl2 (by omega) hP (v+4) 0 h4 r2 (List.replicate 19 0) (by omega) (((U1.trans U2).more U3 fun _ h=>h.elim).more U4 fun _ h=>h.elim) S3 (fun e=>?_) R4 (fun i hi=>?_) E4 (fun i hi=>⟨by have:=N4 i hi; omega,fun hm=>by have:=N4 i hi; have:=S2.lt hm; omega⟩) (by simp) (fun x hx=>by rw [(List.mem_replicate.1 hx).2]; decide) ?_
  ·have := hl2' e
   have:=hle1 this.1
   omega
  ·have hlt : i < h3.length := R3.lt hi
   have hge:h2.length≤i:=F3 i hi
   exact ⟨by omega,fun hm=>by have:=S2.lt hm; omega,fun h8=>by have:=N4 i h8; omega,by omega⟩
  ·rcases hA2 with hA2 | ⟨hs2, hF2⟩
   ·exact .inl hA2
   ·refine .inr ⟨hs2, ?_⟩
    simp only [Infl.apply] at hF2
    rw [Infl.settle_set (s9 _ _ _ _ _ _)] at hF2
    exact hF2
 have P0:∀ (lits:Nat) (h1:aA) (r1:RS),lits≤288→RU d h r h1 r1→RSt L s h1 d r1 out→(r1.stop=false→r.at'≤r1.at')→At L s F r1 out (.wait ⟨out,kl,false⟩ (.num 5 0 0) (.dyn2 lits))→Y0.p0 (aH h Q) (rp d) lits h1:=fun lits h1 r1 hl1 U1 S1 hle1 hA1=>by
  refine Y0.i0 ?_
  simp only [Y0.t0, ← Y0.p1.eq_1]
  refine mZ (n:=5) (F:=F) (kl:=kl) (c:=.dyn2 lits) (by decide) (by decide) S1 hA1 fun v h2 r2 hv U2 S2 hl2' hA2=>aC ?_
  have hv:v<32:=hv
  have hle2:r2.stop=false→r.at'≤r2.at':=fun e=>by have:=hl2' e; have:=hle1 this.1; omega
  refine bS (n:=((v+1:Nat):Int)) (by omega) (by omega) (by omega) ?_
  simp only [Infl.apply] at hA2
  refine aG ?_ ?_ <;> intro e
  ·have e : 30 < v + 1 := by simp at e; omega
   rw [if_pos e,Infl.settle_set (by trivial)] at hA2
   refine fZ (k:=⟨out,kl,false⟩) (F:=F) rfl S2 hA2 fun h3 r3 U3 S3 hs3 hf3=>?_
   exact P1 lits (v+1) h3 r3 hl1 (by omega) ((U1.trans U2).trans U3) S3 (fun e=>by rw [hs3] at e; cases e) (.inl ⟨hs3,hf3⟩)
  ·have e : ¬ 30 < v + 1 := by simp at e; omega
   rw [if_neg e,Infl.settle_set (iR (n:=4) (by decide))] at hA2
   exact P1 lits (v+1) h2 r2 hl1 (by omega) (U1.trans U2) S2 hle2 hA2
 refine Y0.call ?_
 simp only [Y0.t, ← Y0.p0.eq_1]
 refine mZ (n:=5) (F:=F) (kl:=kl) (c:=.dyn1) (by decide) (by decide) S hA fun v h2 r2 hv U2 S2 hl2' hA2=>aC ?_
 have hv:v<32:=hv
 have hle2:r2.stop=false→r.at'≤r2.at':=fun e=>by have:=hl2' e; omega
 refine bS (n:=((v+257:Nat):Int)) (by omega) (by omega) (by omega) ?_
 simp only [Infl.apply] at hA2
 refine aG ?_ ?_ <;> intro e
 ·have e : 286 < v + 257 := by simp at e; omega
  rw [if_pos e,Infl.settle_set (by trivial)] at hA2
  refine fZ (k:=⟨out,kl,false⟩) (F:=F) rfl S2 hA2 fun h3 r3 U3 S3 hs3 hf3=>?_
  exact P0 (v+257) h3 r3 (by omega) (U2.trans U3) S3 (fun e=>by rw [hs3] at e; cases e) (.inl ⟨hs3,hf3⟩)
 ·have e : ¬ 286 < v + 257 := by simp at e; omega
  rw [if_neg e,Infl.settle_set (iR (n:=5) (by decide))] at hA2
  exact P0 (v+257) h2 r2 (by omega) U2 S2 hle2 hA2
theorem qM {a b:List Nat} {va vb:AV} {kl:Bool} (S:RSt L s h d r out) (Ra:RdI 1 h va (bB a) a.length) (Rb:RdI 1 h vb (bB b) b.length) (Na:∀ i,aQ va i→i<h.length∧¬ dN d r i) (Nb:∀ i,aQ vb i→i<h.length∧¬ dN d r i)
  (Ka:va.parts=[va]∧va.sizeOK=true∧va.cellOK=true) (Kb:vb.parts=[vb]∧vb.sizeOK=true∧vb.cellOK=true) (la:a.length≤320) (lb:b.length≤320) (a15:∀ x∈a,x≤15) (b15:∀ x∈b,x≤15) (ca:Huff.checkP a=0) (cb:Huff.checkP b=0)
  (hA:At L s F r out (lits a b kl out)) (hq:∀ h' r' out',RU d h r h' r'→RSt L s h' d r' out'→(r'.stop=false→r.at'≤r'.at')→At L s F r' out' (Infl.block ⟨out',kl,false⟩)→Q (.tu []) h'):C Y2.id [rp d,va,vb] h Q:=by
 refine Y2.call ?_
 simp only [Y2.t, ← Y2.p0.eq_1]
 refine nU Ra (fun i hi=>(Na i hi).1) Ka la a15 (fun hn _=>absurd ca hn) fun _ h1 ia cva U1 A1 hia hca=>?_
 simp only [cW,cX]
 refine aC (nU (Rb.ext U1) (fun i hi=>Nat.lt_of_lt_of_le (Nb i hi).1 U1.1) Kb lb b15 (fun hn _=>absurd cb hn) fun _ h2 ib cvb U2 B2 hib hcb=>?_)
 simp only [cW,cX]
 refine aC ?_
 have U:=U1.then U2
 have hU1:=U1.1
 have hial:=A1.recd.lt
 have S2:RSt L s h2 d r out:=S.upd U fun _ _ h=>h
 refine sE (r0:=r) (a:=a) (b:=b) (la:=va) (ca:=cva) (lb:=vb) (cb:=cvb) hq (8 * s.length) h2 r out (fun _=>by omega) (RU.ext U) ⟨?_, ?_,hia,by omega⟩ S2 (fun _=>Nat.le_refl _) hA
 ·refine A1.upd U2 (fun _ _ h => h) fun i hl hi => ?_
  rcases hi with hi | hi
  ·exact ⟨(Na i hi).2,by have:=(Na i hi).1; omega⟩
  ·exact ⟨fun hm=>by have:=S.lt hm; omega,by omega⟩
 ·refine B2.upd (Upd.refl (fun _ => False) h2) (fun _ _ h => h) fun i hl hi => ?_
  rcases hi with hi | hi
  ·exact ⟨(Nb i hi).2,by have:=(Nb i hi).1; omega⟩
  ·exact ⟨fun hm=>by have:=S.lt hm; omega,by omega⟩
end
end Go.Proofs.YtpaphfeihpgamaaDoor
namespace Go.Proofs.YtpaphfeihpgamaaDoor
open Go.GAM
open Go.Infl (bL cV bY Out Lim)
structure DSt (L:Lim) (h:aA) (F:Nat→Prop) (d:Nat) (r:DR) (told:Nat) (o:Out) (inp:Nat) (rest:List UInt8):Prop where
 dec:Dec L h F d r o.core.out told
 ord:cS h
 rest:r.rest=rest
 st:match o with
  | .wait k w c=>r.input=inp∧r.last=k.last∧r.skip=k.skip∧r.done=false∧r.bad=false∧o0 h F d r w c∧yB w c∧(Out.wait k w c).set
  | .done _=>r.done=true∧r.bad=false
  | .err e _=>r.done=false∧r.bad=true∧(e=1∨e=2)
def zZ:Out→Int
 | .err e _=>eno e
 | _=>0
section
variable [XR] {h:aA} {Q:AV→aA→Prop} {L:Lim} {F:Nat→Prop} {d:Nat} {r:DR} {out:List UInt8} {told:Nat}
theorem Dec.text {l:List UInt8} (D:Dec L h F d r out told) {K:List UInt8→Prop} (hk:K (out.drop told)):cJ r.fresh h K:=by
 refine Byt.str (l:=out.drop told) ?_ hk
 have:=D.fresh.rd
 rw [List.length_map] at this
 exact this
theorem tH {w:cV} {c:bY} {k:bL} (hs:k.skip=true):∀ (bs:List Nat) (i:Nat),i % 8≠0→i % 8+bs.length=8→Infl.run L bs i (.wait k w c)=(i+bs.length,.wait k w c)
 | [],i,h1,h2=>by rw [Infl.run_nil] <;> rfl
 | b :: bs, i, h1, h2 => by
  rw [Infl.run_bit,if_pos ⟨hs,h1⟩]
  rw [List.length_cons] at h2 ⊢
  by_cases hb:bs=[]
  ·subst hb; rw [Infl.run_nil] <;> rfl
  ·have := List.length_pos_iff.2 hb
   rw [tH hs bs (i+1) (by omega) (by omega)]
   congr 1; omega
theorem uQ:∀ (n x:Nat),(Huff.loBits x n).length=n
 | 0,_=>rfl
 | n+1,x=>by unfold Huff.loBits; rw [List.length_cons,uQ n]
theorem aC9 (c:UInt8) {k:Nat} (hk:k<8):bO .and .i64 ((c.toNat / 2 ^ k:Nat):Int) 1=((c.toNat / 2 ^ k % 2:Nat):Int):=by
 have hc:=c.toNat_lt
 have:c.toNat / 2 ^ k≤c.toNat:=Nat.div_le_self _ _
 have:=fW (x:=c.toNat / 2 ^ k) (y:=1) (by omega) (by decide)
 rw [Nat.and_one_is_mod] at this
 exact this
def Nxt (Q:AV→aA→Prop) (d:Nat) (s:List UInt8) (i:Nat) (told:Nat) (h':aA):Out→Prop
 | .wait ..=>Y1.p1 Q (dp d) s s.length ((i+1:Nat):Int) h'
 | .done _=>Y1.p4 Q (dp d) h'
 | .err e k=>Q (.tu [.s (k.out.drop told),.i .i64 (eno e)]) h'
theorem aAR {hb : aA} {s : List UInt8} {i : Nat} {ch : UInt8} (hc : s[i]? = some ch) (hslen : s.length < 1099511627776) (hF0 : ¬ F 0) {inp : Nat} (hinp : 0 < inp) :
  ∀ (m k:Nat) (h:aA) (r:DR) (kc:bL) (w:cV) (c:bY),k+m=8→(k=0→kc.skip=false)→DSt L h F d r told (.wait kc w c) inp []→(∀ i,h.length≤i→F i) →
  (∀ h' r',Upd F h h'→DSt L h' F d r' told (Infl.run L (Huff.loBits (ch.toNat / 2 ^ k) m) (8 * (inp - 1)+k) (.wait kc w c)).2 inp (match (Infl.run L (Huff.loBits (ch.toNat / 2 ^ k) m) (8 * (inp - 1)+k) (.wait kc w c)).2 with | .done _=>s.drop (i+1) | _=>[]) →
   Nxt (aH hb Q) d s i told h' (Infl.run L (Huff.loBits (ch.toNat / 2 ^ k) m) (8 * (inp - 1)+k) (.wait kc w c)).2) →
  Y1.p2 (aH hb Q) (dp d) s i k s.length i h:=by
 intro m
 induction m with
 | zero =>
  intro k h r kc w c hkm hk0 S hF hq
  obtain rfl:k=8:=by omega
  have hsi:=aM hc
  obtain ⟨s1,s2,s3,s4,s5,s6,s7,s8⟩:=S.st
  have P3:Y1.p3 (aH hb Q) (dp d) s i (8:Nat) s.length i false h:=by
   refine Y1.i3 ?_
   simp only [Y1.t3,bF,bD, ← Y1.p1.eq_1]
   refine aL rfl ?_
   refine aE S.dec.recd rfl rfl (aV ?_)
   rw [s4]
   refine aL rfl (inc (by omega) ?_)
   exact hq h r (Upd.refl _ _) S
  refine Y1.i2 ?_
  simp only [Y1.t2, ← Y1.p3.eq_1]
  exact aL (by decide) P3
 | succ m ih =>
  intro k h r kc w c hkm hk0 S hF hq
  have hsi:=aM hc
  obtain ⟨s1,s2,s3,s4,s5,s6,s7,s8⟩:=S.st
  have hch:=ch.toNat_lt
  refine Y1.i2 ?_
  simp only [Y1.t2,bF,bD, ← Y1.p3.eq_1]
  refine aW (by simp; omega) ?_
  refine aE S.dec.recd rfl rfl (aV ?_)
  cases hsk:kc.skip with
  | true =>
   rw [s3,hsk]
   refine aL rfl ?_
   have hk:k≠0:=fun e=>by rw [hk0 e] at hsk; cases hsk
   rw [tH hsk _ _ (by omega) (by rw [uQ]; omega)] at hq
   refine Y1.i3 ?_
   simp only [Y1.t3,bF,bD, ← Y1.p1.eq_1]
   refine aL rfl ?_
   refine aE S.dec.recd rfl rfl (aV ?_)
   rw [s4]
   refine aL rfl (inc (by omega) ?_)
   exact hq h r (Upd.refl _ _) S
  | false =>
   rw [s3,hsk]
   refine aW rfl ?_
   refine aE S.dec.recd rfl rfl (aV ?_)
   rw [s4]
   refine Y1.i3 ?_
   simp only [Y1.t3,bF,bD, ← Y1.p2.eq_1]
   refine aW rfl ?_
   refine rL hc ?_
   rw [bA (by omega) (by omega)]
   refine oB (a:=ch.toNat) (b:=k) (by show k≤64; omega) ?_
   rw [aC9 ch (by omega)]
   have hb2:ch.toNat / 2 ^ k % 2<2:=Nat.mod_lt _ (by decide)
   have hcore:(⟨kc.out,r.last,r.skip⟩:bL)={ kc with skip:=false }:=by rw [s2,s3,hsk]
   have hpos:(8 * (inp - 1)+k) / 8+1=inp:=by omega
   have hlo:Huff.loBits (ch.toNat / 2 ^ k) (m+1)=ch.toNat / 2 ^ k % 2 :: Huff.loBits (ch.toNat / 2 ^ (k+1)) m:=by
    rw [Nat.pow_succ, ← Nat.div_div_eq_div_mul] <;> rfl
   rw [hlo,Infl.run_bit,if_neg (by rw [hsk]; simp),hpos] at hq
   refine aIG hb2 hF0 S.ord S.dec hF s4 s6 s7 (by cases w <;> exact s8) fun e h1 r1 O1 hset P=>aC ?_
   rw [s1] at P hset
   have hcore':(⟨(Out.wait kc w c).core.out,r.last,r.skip⟩:bL)={ kc with skip:=false }:=hcore
   rw [hcore'] at P hset
   generalize Infl.bitP L inp { kc with skip:=false } w c (ch.toNat / 2 ^ k % 2)=o at P hq hset
   have hF1:∀ i,h1.length≤i→F i:=fun i hi=>hF i (Nat.le_trans P.upd.1 hi)
   have hrest:=P.rest.trans S.rest
   have hbad:=P.bad.trans s5
   have hst:=P.st
   cases o with
   | err x kx =>
    obtain ⟨hx,hx2,hdn⟩:=hst
    rw [Infl.run_err] at hq
    refine aW (by rw [hx]; rcases hx2 with rfl | rfl <;> decide) ?_
    refine aP P.dec.recd rfl (ltr rfl) (hk:=fun h2 l2 U2 R2=>?_)
    have D2:Dec L h2 F d { r1 with bad:=true } kx.out told:=P.dec.with U2 R2 rfl rfl rfl rfl
    refine aE R2 rfl rfl ?_
    refine D2.text (l:=kx.out) ?_
    have O2:cS h2:=O1.upd U2 fun e=>hF0 (e ▸ D2.f d (.inl rfl))
    have:=hq h2 { r1 with bad:=true } (P.upd.trans (U2.mono fun i _ e=>D2.f i (.inl e)) fun _ _ h=>h) ⟨D2,O2,hrest,hdn,rfl,hx2⟩
    rw [hx]
    exact this
   | done kx =>
    obtain ⟨hx,hdn⟩:=hst
    rw [Infl.run_done] at hq
    subst hx
    refine aL rfl (inc (by omega) ?_)
    refine Y1.i2 ?_
    simp only [Y1.t2,bF,bD, ← Y1.p3.eq_1]
    have P3:Y1.p3 (aH hb Q) (dp d) s i ((k+1:Nat):Int) s.length i false h1:=by
     refine Y1.i3 ?_
     simp only [Y1.t3,bF,bD, ← Y1.p4.eq_1]
     refine aL rfl ?_
     refine aE P.dec.recd rfl rfl (aV ?_)
     rw [hdn]
     refine aW rfl (inc (by omega) (pS (by omega) ?_))
     refine aP P.dec.recd rfl (ltr rfl) (hk:=fun h2 l2 U2 R2=>?_)
     have D2:Dec L h2 F d { r1 with rest:=s.drop (i+1) } kx.out told:=P.dec.with U2 R2 rfl rfl rfl rfl
     have O2:cS h2:=O1.upd U2 fun e=>hF0 (e ▸ D2.f d (.inl rfl))
     exact hq h2 { r1 with rest:=s.drop (i+1) } (P.upd.trans (U2.mono fun i _ e=>D2.f i (.inl e)) fun _ _ h=>h) ⟨D2,O2,rfl,hdn,hbad⟩
    refine aG ?_ ?_ <;> intro e8
    ·refine aE P.dec.recd rfl rfl (aV ?_)
     cases r1.skip with
     | true=>exact aL rfl P3
     | false =>
      refine aW rfl (aE P.dec.recd rfl rfl (aV ?_))
      rw [hdn]
      exact P3
    ·exact P3
   | wait kx wx cx =>
    obtain ⟨hx,w1,w2,w3,w4,w5⟩:=hst
    subst hx
    refine aL rfl (inc (by omega) ?_)
    refine ih (k+1) h1 r1 kx wx cx (by omega) (fun e=>by omega) ⟨P.dec,O1,hrest,P.inp.trans s1,w1,w2,w3,hbad,w4,w5,by cases wx <;> exact hset⟩ hF1 fun h2 r2 U2 S2=>?_
    exact hq h2 r2 (P.upd.trans U2 fun _ _ h=>h) S2
theorem rC {o:Out} (c:UInt8) (t:List UInt8) (i:Nat):Infl.run L (Infl.bitsOf (c :: t)) i o=Infl.run L (Infl.bitsOf t) (Infl.run L (Huff.loBits c.toNat 8) i o).1 (Infl.run L (Huff.loBits c.toNat 8) i o).2:=by
 show Infl.run L (Huff.loBits c.toNat 8++Infl.bitsOf t) i o=_
 exact Infl.run_append _ _ _ _
omit [XR] in
theorem lQ:∀ (bs:List Nat) (i:Nat) (o:Out),i≤(Infl.run L bs i o).1∧(Infl.run L bs i o).1≤i+bs.length
 | bs,i,.done k=>by rw [Infl.run_done]; exact ⟨Nat.le_refl _,Nat.le_add_right _ _⟩
 | bs,i,.err e k=>by rw [Infl.run_err]; exact ⟨Nat.le_refl _,Nat.le_add_right _ _⟩
 | [],i,.wait k w c=>by rw [Infl.run_nil]; exact ⟨Nat.le_refl _,Nat.le_refl _⟩
 | b :: bs, i, .wait k w c => by
  rw [Infl.run_bit,List.length_cons]
  split
  ·have:=lQ bs (i+1) (.wait k w c); omega
  ·have:=lQ bs (i+1) (Infl.bitP L (i / 8+1) { k with skip:=false } w c b); omega
theorem aAK {b:Nat} {bs:List Nat} {i:Nat} {k:bL} {w:cV} {c:bY}:i+1≤(Infl.run L (b :: bs) i (.wait k w c)).1:=by
 rw [Infl.run_bit]
 split
 ·exact (lQ bs (i+1) _).1
 ·exact (lQ bs (i+1) _).1
def nX (s:List UInt8) (inp:Nat) (x:Nat × Out):List UInt8:=match x.2 with
 | .done _=>s.drop ((x.1+7) / 8 - inp)
 | _=>[]
theorem aAM {hb : aA} {s : List UInt8} (hslen : s.length < 1099511627776) (hF0 : ¬ F 0) {inp0 : Nat} (hin : inp0 + s.length ≤ 1099511627776) :
  ∀ (t:List UInt8) (i:Nat) (h:aA) (r:DR) (kc:bL) (w:cV) (c:bY),s.drop i=t→i≤s.length→DSt L h F d r told (.wait kc w c) (inp0+i) []→(∀ i,h.length≤i→F i) →
  (∀ h' r',Upd F h h'→DSt L h' F d r' told (Infl.run L (Infl.bitsOf t) (8 * (inp0+i)) (.wait kc w c)).2 (inp0+s.length) (nX s inp0 (Infl.run L (Infl.bitsOf t) (8 * (inp0+i)) (.wait kc w c))) →
   Q (.tu [.s ((Infl.run L (Infl.bitsOf t) (8 * (inp0+i)) (.wait kc w c)).2.core.out.drop told),.i .i64 (zZ (Infl.run L (Infl.bitsOf t) (8 * (inp0+i)) (.wait kc w c)).2)]) h') →
  Y1.p1 (aH hb Q) (dp d) s s.length i h:=by
 have tail:∀ (h:aA) (r:DR) (o:Out) (inp:Nat) (rest:List UInt8),DSt L h F d r told o inp rest→zZ o=0→Q (.tu [.s (o.core.out.drop told),.i .i64 0]) h→Y1.p4 (aH hb Q) (dp d) h:=fun h r o inp rest S ho hq=>by
  refine Y1.i4 ?_
  simp only [Y1.t4,bF,bD]
  refine aE S.dec.recd rfl rfl (S.dec.text (l:=o.core.out) (.inl hq))
 intro t
 induction t with
 | nil =>
  intro i h r kc w c ht hi S hF hq
  have:i=s.length:=by have:=aDQ ht; omega
  subst this
  rw [show Infl.bitsOf []=[] from rfl,Infl.run_nil] at hq
  refine Y1.i1 ?_
  simp only [Y1.t1, ← Y1.p4.eq_1]
  refine aL (by simp) (tail h r _ _ _ S rfl (hq h r (Upd.refl _ _) S))
 | cons ch t ih =>
  intro i h r kc w c ht hi S hF hq
  have hsi:=aGL ht
  have hat:=yJ ht
  have htn:=aBK ht
  obtain ⟨s1,s2,s3,s4,s5,s6,s7,s8⟩:=S.st
  refine Y1.i1 ?_
  simp only [Y1.t1,bF,bD, ← Y1.p2.eq_1]
  refine aW (by simp; omega) ?_
  refine aE S.dec.recd rfl rfl (aC ?_)
  rw [s1]
  refine inc (by omega) ?_
  refine aP S.dec.recd rfl (ltr rfl) (hk:=fun h1 l1 U1 R1=>?_)
  refine aP R1 rfl (ltr rfl) (hk:=fun h2 l2 U2 R2=>?_)
  have U:=U1.trans U2 fun _ _ h=>h
  have UF:Upd F h h2:=U.mono fun i _ e=>S.dec.f i (.inl e)
  have D2:Dec L h2 F d { r with input:=inp0+i+1,skip:=false } kc.out told:=by
   have D:=S.dec
   exact { recd:=R2,past:=D.past.upd U fun i hi e=>D.d1 (e ▸ hi),fresh:=D.fresh.upd U fun i hi e=>D.d2 (e ▸ hi),total:=D.total,told:=D.told,d1:=D.d1,d2:=D.d2,d3:=D.d3,lim:=D.lim,inp:=by show inp0+i+1≤_; omega,len:=D.len,f:=D.f }
  have O2:cS h2:=S.ord.upd U fun e=>hF0 (e ▸ D2.f d (.inl rfl))
  have W2:o0 h2 F d { r with input:=inp0+i+1,skip:=false } w c:=by
   cases w with
   | num need hv acc =>
    obtain ⟨w1,w2,w3,w4,w5,w6⟩:=s6
    exact ⟨w1,w2,w3,w4,w5,w6.upd U (fun i hi e=>hi.2 (.inl e)) fun _ _ h=>h⟩
   | sym l n x =>
    obtain ⟨w1,ic,sym,w2,w3,w4⟩:=s6
    exact ⟨w1,ic,sym,w2,w3.upd U (fun i hi e=>hi.2 (.inl e)) fun _ _ h=>h,w4.upd U (fun i hi e=>hi.1.2 (.inl e)) fun _ _ h=>h⟩
  have S2:DSt L h2 F d { r with input:=inp0+i+1,skip:=false } told (.wait { kc with skip:=false } w c) (inp0+i+1) []:=⟨D2,O2,S.rest,rfl,s2,rfl,s4,s5,W2,s7,by cases w <;> exact s8⟩
  have hbits:Huff.loBits ch.toNat 8=ch.toNat % 2 :: Huff.loBits (ch.toNat / 2) 7:=rfl
  have hal:Infl.run L (Huff.loBits ch.toNat 8) (8 * (inp0+i)) (.wait kc w c)=Infl.run L (Huff.loBits ch.toNat 8) (8 * (inp0+i)) (.wait { kc with skip:=false } w c):=by
   rw [hbits]; exact Infl.run_aligned (by omega)
  have hrl:=lQ (L:=L) (Huff.loBits ch.toNat 8) (8 * (inp0+i)) (.wait { kc with skip:=false } w c)
  have hrf:8 * (inp0+i)+1≤(Infl.run L (Huff.loBits ch.toNat 8) (8 * (inp0+i)) (.wait { kc with skip:=false } w c)).1:=by rw [hbits]; exact aAK
  rw [uQ] at hrl
  rw [rC,hal] at hq
  refine aAR (inp:=inp0+i+1) hat hslen hF0 (by omega) 8 0 h2 _ { kc with skip:=false } w c rfl (fun _=>rfl) S2 (fun i hi=>hF i (by omega)) fun h3 r3 U3 S3=>?_
  rw [Nat.pow_zero,Nat.div_one,show 8 * (inp0+i+1 - 1)+0=8 * (inp0+i) by omega] at S3 ⊢
  have hpos:=fun {k':bL} {w':cV} {c':bY} hh=>Infl.run_pos (L:=L) (Huff.loBits ch.toNat 8) (8 * (inp0+i)) (.wait { kc with skip:=false } w c) (k:=k') (w:=w') (c:=c') hh
  rw [uQ] at hpos
  generalize hX:Infl.run L (Huff.loBits ch.toNat 8) (8 * (inp0+i)) (.wait { kc with skip:=false } w c)=X at S3 hq hrl hrf hpos ⊢
  obtain ⟨p,o⟩:=X
  simp only at S3 hq hrl hrf hpos ⊢
  have UF3:Upd F h h3:=UF.trans U3 fun _ _ h=>h
  cases o with
  | wait k' w' c' =>
   have hp:p=8 * (inp0+(i+1)):=by rw [hpos rfl]; omega
   subst hp
   refine ih (i+1) h3 r3 k' w' c' htn (by omega) S3 (fun i hi=>hF i (Nat.le_trans UF3.1 hi)) fun h4 r4 U4 S4=>?_
   exact hq h4 r4 (UF3.trans U4 fun _ _ h=>h) S4
  | done k' =>
   rw [Infl.run_done] at hq
   have hr:nX s inp0 (p,.done k')=s.drop (i+1):=by
    unfold nX
    simp only
    congr 1; omega
   rw [hr] at hq
   exact tail h3 r3 _ _ _ S3 rfl (hq h3 r3 UF3 ⟨S3.dec,S3.ord,S3.rest,S3.st⟩)
  | err e' k' =>
   rw [Infl.run_err] at hq
   exact .inl (hq h3 r3 UF3 ⟨S3.dec,S3.ord,S3.rest,S3.st⟩)
theorem aDD {s:List UInt8} {kc:bL} {w:cV} {c:bY} {inp:Nat} (hF0:¬ F 0) (hs:inp+s.length<1099511627776) (S:DSt L h F d r told (.wait kc w c) inp []) (hF:∀ i,h.length≤i→F i)
  (hq:∀ h' r',Upd F h h'→DSt L h' F d r' kc.out.length (Infl.run L (Infl.bitsOf s) (8 * inp) (.wait kc w c)).2 (inp+s.length) (nX s inp (Infl.run L (Infl.bitsOf s) (8 * inp) (.wait kc w c))) →
   Q (.tu [.s ((Infl.run L (Infl.bitsOf s) (8 * inp) (.wait kc w c)).2.core.out.drop kc.out.length),.i .i64 (zZ (Infl.run L (Infl.bitsOf s) (8 * inp) (.wait kc w c)).2)]) h') :
  C Y1.id [dp d,.s s] h Q:=by
 obtain ⟨s1,s2,s3,s4,s5,s6,s7,s8⟩:=S.st
 refine Y1.call ?_
 simp only [Y1.t, ← Y1.p0.eq_1]
 refine dI (by kernel_rfl) (aV (aL rfl ?_))
 simp only [bF,bD]
 refine aE S.dec.recd rfl rfl (aV ?_)
 rw [s5]
 refine aL rfl (aE S.dec.recd rfl rfl (aV ?_))
 rw [s4]
 refine Y1.i0 ?_
 simp only [Y1.t0,bF,bD, ← Y1.p1.eq_1]
 refine aL rfl ?_
 refine aP S.dec.recd rfl (ltr rfl) (hk:=fun h1 l1 U1 R1=>?_)
 have UF:Upd F h h1:=U1.mono fun i _ e=>S.dec.f i (.inl e)
 have D1:Dec L h1 F d { r with fresh:=.sl none 0 none } kc.out kc.out.length:=by
  have D:=S.dec
  exact { recd:=R1,past:=D.past.upd U1 fun i hi e=>D.d1 (e ▸ hi),fresh:=.inl ⟨rfl,by simp⟩,total:=D.total,told:=Nat.le_refl _,d1:=D.d1,d2:=fun h=>h,d3:=fun _ _ h=>h,lim:=D.lim,inp:=D.inp,len:=D.len,f:=fun i hi=>hi.elim (fun e=>D.f i (.inl e)) fun hi=>hi.elim (fun e=>D.f i (.inr (.inl e))) fun e=>e.elim }
 have O1:cS h1:=S.ord.upd U1 fun e=>hF0 (e ▸ D1.f d (.inl rfl))
 have hg:∀ i,Gd F d r i→Gd F d { r with fresh:=.sl none 0 none } i:=fun i hi=>⟨hi.1,fun m=>hi.2 (m.elim .inl fun m=>m.elim (fun e=>.inr (.inl e)) fun e=>e.elim)⟩
 have W1:o0 h1 F d { r with fresh:=.sl none 0 none } w c:=by
  cases w with
  | num need hv acc =>
   obtain ⟨w1,w2,w3,w4,w5,w6⟩:=s6
   exact ⟨w1,w2,w3,w4,w5,w6.upd U1 (fun i hi e=>hi.2 (.inl e)) fun i _ h=>hg i h⟩
  | sym l n x =>
   obtain ⟨w1,ic,sym,w2,w3,w4⟩:=s6
   exact ⟨w1,ic,sym,w2,w3.upd U1 (fun i hi e=>hi.2 (.inl e)) fun i _ h=>hg i h,w4.upd U1 (fun i hi e=>hi.1.2 (.inl e)) fun i _ h=>⟨hg i h.1,h.2⟩⟩
 refine aAM (inp0:=inp) (by omega) hF0 (by omega) s 0 h1 { r with fresh:=.sl none 0 none } kc w c (List.drop_zero) (Nat.zero_le _) ⟨D1,O1,S.rest,s1,s2,s3,s4,s5,W1,s7,s8⟩ (fun i hi=>hF i (by omega)) fun h2 r2 U2 S2=>?_
 exact hq h2 r2 (UF.trans U2 fun _ _ h=>h) S2
theorem aB1 {s:List UInt8} {o:Out} {inp:Nat} {rest:List UInt8} (S:DSt L h F d r told o inp rest) (ho:∀ k w c,o ≠ .wait k w c) (hq:Q (.tu [.s [],.i .i64 10]) h):C Y1.id [dp d,.s s] h Q:=by
 refine Y1.call ?_
 simp only [Y1.t, ← Y1.p0.eq_1]
 refine dI (by kernel_rfl) (aV (aL rfl ?_))
 simp only [bF,bD]
 have P0:Y1.p0 (aH h Q) (dp d) s true h:=by
  refine Y1.i0 ?_
  simp only [Y1.t0]
  exact aW rfl (.inl hq)
 refine aE S.dec.recd rfl rfl (aV ?_)
 have hst:=S.st
 cases o with
 | wait k w c=>exact absurd rfl (ho k w c)
 | err e k=>rw [hst.2.1]; exact aW rfl P0
 | done k =>
  rw [hst.2]
  refine aL rfl (aE S.dec.recd rfl rfl (aV ?_))
  rw [hst.1]; exact P0
theorem yG {o:Out} {inp:Nat} {rest:List UInt8} (S:DSt L h F d r told o inp rest) (hq:Q (.b (match o with | .done _=>true | _=>false)) h):C Y37.id [dp d] h Q:=by
 refine Y37.call ?_
 simp only [Y37.t, ← Y37.p0.eq_1]
 refine sZ (by kernel_rfl) (aV (aW rfl ?_))
 simp only [bF,bD]
 refine aE S.dec.recd rfl rfl (aV ?_)
 refine Y37.i0 ?_
 simp only [Y37.t0]
 have hst:=S.st
 cases o with
 | wait k w c=>rw [hst.2.2.2.1]; exact .inl hq
 | err e k=>rw [hst.1]; exact .inl hq
 | done k=>rw [hst.1]; exact .inl hq
theorem aHC {o:Out} {inp:Nat} {rest:List UInt8} (S:DSt L h F d r told o inp rest) (hq:Q (.s rest) h):C Y62.id [dp d] h Q:=by
 refine Y62.call ?_
 simp only [Y62.t]
 refine dI (by kernel_rfl) (aV (aL rfl ?_))
 simp only [bF,bD]
 refine aE S.dec.recd rfl rfl (bR ?_)
 rw [S.rest]
 exact .inl hq
def bnd (n:Int) (lo hi:Nat):Nat:=(min (max n lo) hi).toNat
theorem aHP (n:Int) {lo hi:Nat} (h:lo≤hi):mmI false (mmI true n (lo:Int)) (hi:Int)=(bnd n lo hi:Int):=by
 unfold mmI bnd
 simp only [cond_true,cond_false]
 split <;> split <;> omega
def b6 (o ra:Int):Lim:=⟨bnd o 0 65536,bnd ra 1 1100⟩
theorem aG3 {o ra : Int} (O : cS h) (hq : ∀ h' d r, Upd (fun _ => False) h h' → h.length ≤ d → DSt (b6 o ra) h' (fun i => h.length ≤ i) d r 0 Infl.start 0 [] → Q (dp d) h') : C Y56.id [.ag [.i .i64 o, .i .i64 ra]] h Q := by
  have bb:∀ {n:Int} {lo hi:Nat} {h:aA} {Q:AV→aA→Prop},lo≤hi→Q (iN (bnd n lo hi)) h→C Y65.id [.i .i64 n,iN lo,iN hi] h Q:=fun {n lo hi h Q} hl hq=>by
    refine Y65.call ?_
    simp only [Y65.t]
    exact aX (aHP n hl) (.inl hq)
  refine Y56.call ?_
  simp only [Y56.t]
  refine bQ (hk:=fun h1 l1 U1 R1=>?_)
  have R1:bC h1 h.length [.i .i64 o,.i .i64 ra]:=R1
  have e2:(AV.ag [.i .i64 o,.i .i64 ra]).parts.length=2:=rfl
  simp only [e2,bD]
  refine aE R1 rfl rfl (aC (aE R1 rfl rfl (aC ?_)))
  refine bb (lo:=0) (hi:=65536) (by decide) (aC ?_)
  refine aE R1 rfl rfl (aC ⟨rfl, ?_⟩)
  refine bb (lo:=1) (hi:=1100) (by decide) (aC ?_)
  refine aAI (cs:=DR.cells (b6 o ra) ⟨.sl none 0 none,0,.sl none 0 none,0,false,false,false,false,[],0,0,0,.p none,.nf⟩) rfl ?_
  refine bQ (hk:=fun h2 l2 U2 R2=>?_)
  have U:=U1.then U2
  have D2:Dec (b6 o ra) h2 (fun i=>h.length≤i) h1.length ⟨.sl none 0 none,0,.sl none 0 none,0,false,false,false,false,[],0,0,0,.p none,.nf⟩ [] 0:=
    { recd:=R2,past:=.inl ⟨rfl,rfl⟩,fresh:=.inl ⟨rfl,rfl⟩,total:=rfl,told:=Nat.le_refl _,d1:=fun h=>h,d2:=fun h=>h,d3:=fun _ h=>h.elim,lim:=⟨by show bnd o 0 65536≤_; unfold bnd; omega,by show bnd ra 1 1100≤_; unfold bnd; omega⟩,inp:=by decide,len:=by decide,f:=fun i hi=>by
        rcases hi with e | e | e
        · subst e; exact U1.1
        · exact e.elim
        · exact e.elim }
  refine uR D2 (fun i hi=>Nat.le_trans U.1 hi) rfl fun e h3 r3 P=>aC (.inl ?_)
  have hU3:Upd (fun _=>False) h h3:=U.own P.upd U1.1
  obtain ⟨w0,w1,w2,w3,w4,w5⟩:=P.st
  exact hq h3 h1.length r3 hU3 U1.1 ⟨P.dec,O.upd hU3 fun h=>h,P.rest,P.inp,w1,w2,w3,P.bad,w4,w5,by show 0<3; decide⟩
end
end Go.Proofs.YtpaphfeihpgamaaDoor
namespace Go.Proofs.YtpaphfeihpgamaaDoor
open Go.GAM
open Go.Infl (bL cV bY Out Lim)
def aGS (e:Nat):Int:=if e=3 then 1 else if e=0 then 0 else eno e
section
variable [XR] {h:aA} {Q:AV→aA→Prop} {L:Lim} {s:List UInt8} {d:Nat} {r:RS} {out:List UInt8} {F:Infl.Fin}
theorem vE {n:Int} {lo hi:Nat} (hl:lo≤hi) (hq:Q (iN (bnd n lo hi)) h):C Y55.id [.i .i64 n,iN lo,iN hi] h Q:=by
 refine Y55.call ?_
 simp only [Y55.t]
 unfold bnd at hq
 refine aG ?_ ?_ <;> intro e
 ·have e : n < lo := by simpa using e
  rw [show (min (max n lo) hi).toNat=lo by omega] at hq
  exact .inl hq
 ·have e : ¬ n < lo := by simpa using e
  refine aG ?_ ?_ <;> intro e2
  ·have e2 : (hi : Int) < n := by simpa using e2
   rw [show (min (max n lo) hi).toNat=hi by omega] at hq
   exact .inl hq
  ·have e2 : ¬ (hi : Int) < n := by simpa using e2
   have hq':Q (.i .i64 (((min (max n (lo:Int)) (hi:Int)).toNat:Nat):Int)) h:=hq
   rw [show (((min (max n (lo:Int)) (hi:Int)).toNat:Nat):Int)=n by omega] at hq'
   exact .inl hq'
theorem aA3 {h0' : aA} {b0 : Nat} {k : bL} (hb0 : b0 < 2) (hsk : k.skip = false) : ∀ (m j acc : Nat) (h : aA) (r : RS), j + m = 2 → acc < 2 ^ j → RSt L s h d r out → r.stop = false → k.out = out →
  F=(if j<2 then Infl.go L ((Infl.bitsOf s).drop r.at') r.at' (.wait k (.num 3 (j+1) (b0+2 * acc)) .block) else Infl.go L ((Infl.bitsOf s).drop r.at') r.at' (Infl.settle L ((r.at'+7) / 8) 3 (Infl.apply L ((r.at'+7) / 8) k (b0+2 * acc) .block))) →
  (∀ v h' r',v<4→RU d h r h' r'→RSt L s h' d r' out→r'.stop=true→jP r' out F→Q (iN v) h') →
  (∀ v h' r',v<4→RU d h r h' r'→RSt L s h' d r' out→r'.stop=false→r.at'≤r'.at'→F=Infl.go L ((Infl.bitsOf s).drop r'.at') r'.at' (Infl.settle L ((r'.at'+7) / 8) 3 (Infl.apply L ((r'.at'+7) / 8) k (b0+2 * v) .block))→Q (iN v) h') →
  Y12.p0 (aH h0' Q) (rp d) (2:Nat) acc j h:=by
 intro m
 induction m with
 | zero =>
  intro j acc h r hj ha S hl ho hF hq0 hq1
  obtain rfl:j=2:=by omega
  rw [if_neg (Nat.lt_irrefl _)] at hF
  refine Y12.i0 ?_
  simp only [Y12.t0]
  exact aL (by simp) (.inl (hq1 acc h r ha (RU.refl _ _ _) S hl (Nat.le_refl _) hF))
 | succ m ih =>
  intro j acc h r hj ha S hl ho hF hq0 hq1
  have hjn:2 ^ (j+1)≤2 ^ 2:=Nat.pow_le_pow_right (by decide) (by omega)
  have hj1:2 ^ (j+1)=2 * 2 ^ j:=by rw [Nat.pow_succ]; omega
  rw [if_pos (by omega)] at hF
  refine Y12.i0 ?_
  simp only [Y12.t0, ← Y12.p0.eq_1]
  refine aW (by simp; omega) ?_
  refine j1 S (fun e=>by rw [hl] at e; cases e) (fun _ hge h1 U1 S1=>?_) (fun _ hlt b h1 hb hb2 U1 S1=>?_)
  ·refine aC ?_
   rw [wrap_u64 (by omega) (by omega)]
   refine eM (a:=0) (b:=j) (by omega) (by omega) ?_
   refine bS (n:=(acc:Int)) (by omega) (by omega) (by omega) (inc (by omega) ?_)
   refine kJ (by decide) (r:={ r with short:=true }) rfl m (j+1) acc h1 (by omega) (by omega) S1 fun h2 U2 S2=>?_
   refine hq0 acc h2 { r with short:=true } (by omega) (RU.own (U1.trans U2 fun _ _ h=>h) rfl) S2 rfl ?_
   rw [List.drop_eq_nil_of_le (by rw [Infl.bits_len]; omega),Infl.go_nil] at hF
   rw [hF]
   exact ⟨ho,.inl ⟨rfl,rfl⟩⟩
  ·refine aC ?_
   rw [wrap_u64 (by omega) (by omega)]
   have hm:b * 2 ^ j≤1 * 2 ^ j:=Nat.mul_le_mul_right _ (by omega)
   refine eM (a:=b) (b:=j) (by omega) (by omega) ?_
   have hmod:b0+2 * acc+b * 2 ^ (j+1)=b0+2 * (acc+b * 2 ^ j):=by
    have:b * 2 ^ (j+1)=2 * (b * 2 ^ j):=by rw [hj1,Nat.mul_left_comm]
    omega
   generalize hB:b * 2 ^ j=B at *
   refine bS (n:=((acc+B:Nat):Int)) (by omega) (by omega) (by omega) (inc (by omega) ?_)
   have hcore:({ k with skip:=false }:bL)=k:=by cases k; simp only at hsk; subst hsk; rfl
   rw [nH hb,Infl.go_bit,if_neg (by simp [hsk]),hcore,Infl.bit_num,hmod] at hF
   have hin:r.at' / 8+1=(r.at'+1+7) / 8:=by omega
   refine ih (j+1) (acc+B) h1 { r with at':=r.at'+1 } (by omega) (by omega) S1 hl ho ?_ (fun v h2 r2 hv U2 S2 hs hf=>hq0 v h2 r2 hv ((RU.own U1 rfl).trans U2) S2 hs hf) (fun v h2 r2 hv U2 S2 hs hle hf=>hq1 v h2 r2 hv ((RU.own U1 rfl).trans U2) S2 hs (by simp only at hle; omega) hf)
   rw [hF, ← hin]
   by_cases hjn2:j+1<2
   ·rw [if_pos (by omega),if_pos hjn2]
   ·rw [if_neg (by omega),if_neg hjn2]
theorem aHA {h0':aA} (S:RSt L s h d r out) (hF:(r.stop=true∧jP r out F)∨(r.stop=false∧F.out=out∧F.e=0∧F.pos=r.at')) (hq:∀ n:Int,(F.e=0→n=(((F.pos+7) / 8:Nat):Int))→Q (.tu [.s F.out,.i .i64 (aGS F.e),.i .i64 n]) h):Y9.p2 (aH h0' Q) (rp d) h:=by
 have hle:=S.le
 have hsl:=S.sl
 have htx:∀ {K:List UInt8→Prop},K out→cJ r.outv h K:=fun {K} hk=>by
  refine Byt.str (l:=out) ?_ hk
  have:=S.ob.rd
  rw [List.length_map] at this
  exact this
 have rest:r.short=false→F.out=out→(∀ n:Int,(F.e=0→n=(((F.pos+7) / 8:Nat):Int))→Q (.tu [.s out,.i .i64 r.e,.i .i64 n]) h)→(F.e=0→F.pos=r.at')→Y9.p2 (aH h0' Q) (rp d) h:=fun hsh ho hq hp=>by
  refine Y9.i2 ?_
  simp only [Y9.t2,bF,bD]
  refine aE S.recd rfl rfl (aV ?_)
  rw [hsh]
  refine aL rfl ?_
  refine aE S.recd rfl rfl (htx ?_)
  refine aE S.recd rfl rfl (aC (aE S.recd rfl rfl (aC ?_)))
  refine bS (n:=((r.at'+7:Nat):Int)) (by omega) (by omega) (by omega) ?_
  refine kF (n:=(((r.at'+7) / 8:Nat):Int)) (by decide) (by rw [Int.tdiv_eq_ediv_of_nonneg (by omega),bA (by omega) (by omega)]; omega) ?_
  exact .inl (hq _ fun e=>by rw [hp e])
 rcases hF with ⟨hs,ho,h1 | ⟨h1,h2,h3⟩ | ⟨h1,h2,h3⟩⟩ | ⟨hs,ho,he,hp⟩
 ·refine Y9.i2 ?_
  simp only [Y9.t2,bF,bD]
  refine aE S.recd rfl rfl (aV ?_)
  rw [h1.1]
  refine aW rfl ?_
  refine aE S.recd rfl rfl (htx (.inl ?_))
  have:=hq 0 (fun e=>by rw [h1.2] at e; cases e)
  rw [ho,h1.2] at this
  exact this
 ·rw [ho, h3] at hq
  refine rest h1 ho (fun n hn=>?_) (fun e=>by rw [h3] at e; cases e)
  rw [h2]
  exact hq n (fun e=>by cases e)
 ·rw [ho, h3] at hq
  refine rest h1 ho (fun n hn=>?_) (fun e=>by rw [h3] at e; cases e)
  rw [h2]
  exact hq n (fun e=>by cases e)
 ·obtain ⟨hsh, he0⟩ := dM hs
  rw [ho] at hq
  refine rest hsh ho (fun n hn=>?_) (fun _=>hp)
  rw [he0]
  have:=hq n hn
  rw [he] at this
  exact this
theorem aC0 {h0 h0' : aA} {d : Nat} (hd0 : h0.length ≤ d)
  (hq:∀ h' n,Upd (fun _=>False) h0 h'→(F.e=0→n=(((F.pos+7) / 8:Nat):Int))→Q (.tu [.s F.out,.i .i64 (aGS F.e),.i .i64 n]) h') :
  ∀ (m : Nat) (h : aA) (r : RS) (out : List UInt8) (kl : Bool), (r.stop = false → 8 * s.length - r.at' ≤ m) → Upd (fun _ => False) h0 h → (∀ i, aQ r.outv i → h0.length ≤ i) → RSt L s h d r out → At L s F r out (Infl.block ⟨out, kl, false⟩) →
   Y9.p0 (aH h0' Q) (rp d) (if kl then 1 else 0) h:=by
 have mutd:∀ (r:RS),(∀ i,aQ r.outv i→h0.length≤i)→∀ i,dN d r i→h0.length≤i:=fun r hr i hm=>hm.elim (fun e=>e ▸ hd0) (hr i)
 have P2:∀ (h:aA) (r:RS) (out:List UInt8),Upd (fun _=>False) h0 h→RSt L s h d r out→((r.stop=true∧jP r out F)∨(r.stop=false∧F.out=out∧F.e=0∧F.pos=r.at'))→Y9.p2 (aH h0' Q) (rp d) h:=fun h r out U S hF=>aHA S hF fun n hn=>hq h n U hn
 have leave:∀ (h:aA) (r:RS) (out:List UInt8),Upd (fun _=>False) h0 h→RSt L s h d r out→((r.stop=true∧jP r out F)∨(r.stop=false∧F.out=out∧F.e=0∧F.pos=r.at'))→Y9.p1 (aH h0' Q) (rp d) false h:=fun h r out U S hF=>by
  refine Y9.i1 ?_
  simp only [Y9.t1, ← Y9.p2.eq_1]
  exact aL rfl (P2 h r out U S hF)
 have stopped:∀ (h:aA) (r:RS) (out:List UInt8) (x:Int),Upd (fun _=>False) h0 h→RSt L s h d r out→r.stop=true→jP r out F→Y9.p0 (aH h0' Q) (rp d) x h:=fun h r out x U S hs hf=>by
  refine Y9.i0 ?_
  simp only [Y9.t0, ← Y9.p1.eq_1]
  refine aG ?_ ?_ <;> intro e
  ·refine bG S (aV ?_)
   rw [hs]
   exact leave h r out U S (.inl ⟨hs,hf⟩)
  ·exact leave h r out U S (.inl ⟨hs,hf⟩)
 intro m
 induction m with
 | zero =>
  intro h r out kl hm U N S hA
  rcases hA with hA | ⟨hl,hF⟩
  ·exact stopped h r out _ U S hA.1 hA.2
  ·have hm := hm hl
   have hle:=S.le
   refine Y9.i0 ?_
   simp only [Y9.t0, ← Y9.p1.eq_1]
   cases kl with
   | true =>
    have hb:Infl.block ⟨out,true,false⟩ = .done ⟨out,true,false⟩:=rfl
    rw [hb,Infl.go_done] at hF
    exact aL rfl (leave h r out U S (.inr ⟨hl,by rw [hF],by rw [hF],by rw [hF]⟩))
   | false =>
    have hb:Infl.block ⟨out,false,false⟩ = .wait ⟨out,false,false⟩ (.num 3 0 0) .block:=rfl
    rw [hb] at hF
    refine aW rfl (bG S (aV ?_))
    rw [hl]
    refine Y9.i1 ?_
    simp only [Y9.t1, ← Y9.p2.eq_1]
    refine aW rfl ?_
    refine j1 S (fun e=>by rw [hl] at e; cases e) (fun _ hge h1 U1 S1=>?_) (fun _ hlt=>by omega)
    have V1:Upd (fun _=>False) h0 h1:=U.own U1 hd0
    refine aC (fO (r:={ r with short:=true }) (by decide) rfl S1 fun h2 U2 S2=>aC (bG S2 (aV (aW rfl ?_))))
    refine P2 h2 { r with short:=true } out (V1.own U2 hd0) S2 (.inl ⟨rfl, ?_⟩)
    rw [List.drop_eq_nil_of_le (by rw [Infl.bits_len]; omega),Infl.go_nil] at hF
    rw [hF]
    exact ⟨rfl,.inl ⟨rfl,rfl⟩⟩
 | succ m ih =>
  intro h r out kl hm U N S hA
  rcases hA with hA | ⟨hl,hF⟩
  ·exact stopped h r out _ U S hA.1 hA.2
  have hm:=hm hl
  have hle:=S.le
  refine Y9.i0 ?_
  simp only [Y9.t0, ← Y9.p1.eq_1]
  cases kl with
  | true =>
   have hb:Infl.block ⟨out,true,false⟩ = .done ⟨out,true,false⟩:=rfl
   rw [hb,Infl.go_done] at hF
   exact aL rfl (leave h r out U S (.inr ⟨hl,by rw [hF],by rw [hF],by rw [hF]⟩))
  | false=>
  have hb:Infl.block ⟨out,false,false⟩ = .wait ⟨out,false,false⟩ (.num 3 0 0) .block:=rfl
  rw [hb] at hF
  refine aW rfl (bG S (aV ?_))
  rw [hl]
  refine Y9.i1 ?_
  simp only [Y9.t1, ← Y9.p2.eq_1, ← Y9.p0.eq_1]
  refine aW rfl ?_
  refine j1 S (fun e=>by rw [hl] at e; cases e) (fun _ hge h1 U1 S1=>?_) (fun _ hlt b0 h1 hb0 hb02 U1 S1=>?_)
  ·have V1 : Upd (fun _ => False) h0 h1 := U.own U1 hd0
   refine aC (fO (r:={ r with short:=true }) (by decide) rfl S1 fun h2 U2 S2=>aC (bG S2 (aV (aW rfl ?_))))
   refine P2 h2 { r with short:=true } out (V1.own U2 hd0) S2 (.inl ⟨rfl, ?_⟩)
   rw [List.drop_eq_nil_of_le (by rw [Infl.bits_len]; omega),Infl.go_nil] at hF
   rw [hF]
   exact ⟨rfl,.inl ⟨rfl,rfl⟩⟩
  rw [nH hb0,Infl.go_bit,if_neg (by simp),Infl.bit_num,if_pos (by decide)] at hF
  refine aC (Y12.call ?_)
  simp only [Y12.t, ← Y12.p0.eq_1]
  have Ua:RU d h r h1 { r with at':=r.at'+1 }:=RU.own U1 rfl
  have later:∀ (h2:aA) (r2:RS),RU d h r h2 r2→Upd (fun _=>False) h0 h2∧∀ i,aQ r2.outv i→h0.length≤i:=fun h2 r2 U2=>by
   refine ⟨U.ownP U2.1 (mutd r N),fun i hi=>?_⟩
   rcases Nat.lt_or_ge i h.length with g | g
   ·exact mutd r N i (U2.2 i g (.inr hi))
   ·exact Nat.le_trans U.1 g
  refine aA3 (F:=F) (k:=⟨out,false,false⟩) hb02 rfl 2 0 0 h1 { r with at':=r.at'+1 } rfl (by decide) S1 hl rfl (by rw [if_pos (by decide),hF]; simp) (fun v h2 r2 hv U2 S2 hs2 hf2=>?_) (fun v h2 r2 hv U2 S2 hs2 hle2 hF2=>?_)
  ·refine aC (bG S2 (aV ?_))
   rw [hs2]
   exact aW rfl (P2 h2 r2 out (later h2 r2 (Ua.trans U2)).1 S2 (.inl ⟨hs2,hf2⟩))
  ·refine aC (bG S2 (aV ?_))
   rw [hs2]
   refine aL rfl ?_
   have Ub:=Ua.trans U2
   obtain ⟨V2,N2⟩:=later h2 r2 Ub
   have hle2':r.at'<r2.at':=by simp only at hle2; omega
   have hlast:(b0:Int)=if (decide (b0=1)) then 1 else 0:=by
    obtain rfl | rfl:b0=0∨b0=1:=by omega
    ·rfl
    ·rfl
   have hmod:(b0+2 * v) % 2=b0:=by omega
   have hdiv:(b0+2 * v) / 2=v:=by omega
   have hkl:((b0+2 * v) % 2 == 1)=decide (b0=1):=by rw [hmod,Bool.eq_iff_iff]; simp
   simp only [Infl.apply,hdiv,hkl] at hF2
   have go':∀ (h3:aA) (r3:RS) (o3:List UInt8),RU d h2 r2 h3 r3→RSt L s h3 d r3 o3→(r3.stop=false→r2.at'≤r3.at')→At L s F r3 o3 (Infl.block ⟨o3,decide (b0=1),false⟩)→Y9.p0 (aH h0' Q) (rp d) b0 h3:=fun h3 r3 o3 U3 S3 hle3 hA3=>by
    obtain ⟨V3,N3⟩:=later h3 r3 (Ub.trans U3)
    rw [hlast]
    exact ih h3 r3 o3 (decide (b0=1)) (fun e=>by have:=hle3 e; omega) V3 N3 S3 hA3
   refine aG ?_ ?_ <;> intro e0
   ·have e0 : v = 0 := by simp at e0; omega
    subst e0
    simp only at hF2
    rw [Infl.settle_set (iR (n:=16) (by decide))] at hF2
    exact aBW (kl:=decide (b0=1)) S2 hs2 hF2 go'
   refine aG ?_ ?_ <;> intro e1
   ·have e1 : v = 1 := by simp at e1; omega
    subst e1
    simp only at hF2
    rw [Infl.settle_set (sP _ _ _)] at hF2
    refine aD9 fun h3 va U3 E3 N3=>nY (n:=32) (y:=5) (by decide) fun h4 vb U4 E4 N4=>?_
    have U34:=U3.then U4
    have S4:RSt L s h4 d r2 out:=S2.upd U34 fun _ _ h=>h
    have E3':Exa h4 va Infl.fixedL:=E3.upd U4 fun _ _ h=>h
    have hU3:=U3.1
    refine qM (a:=Infl.fixedL) (b:=Infl.fixedD) (kl:=decide (b0=1)) (F:=F) S4 E3'.rd.i E4.rd.i (fun i hi=>⟨E3'.lt hi,fun hm=>by have:=N3 i hi; have:=S2.lt hm; omega⟩) (fun i hi=>⟨E4.lt hi,fun hm=>by have:=N4 i hi; have:=S2.lt hm; omega⟩) E3'.kind E4.kind (by decide +kernel) (by decide +kernel) nO oG Infl.fixed_ok.1 Infl.fixed_ok.2 (.inr ⟨hs2, ?_⟩) fun h5 r5 o5 U5 S5 hle5 hA5=>go' h5 r5 o5 ((RU.ext U34).trans U5) S5 hle5 hA5
    rw [hF2]
    unfold Infl.codes
    rw [if_pos Infl.fixed_ok] <;> rfl
   refine aG ?_ ?_ <;> intro e2
   ·have e2 : v = 2 := by simp at e2; omega
    subst e2
    simp only at hF2
    rw [Infl.settle_set (iR (n:=5) (by decide))] at hF2
    refine aHN (F:=F) (kl:=decide (b0=1)) S2 (.inr ⟨hs2,hF2⟩) ⟨fun h3 r3 o3 v3 w3 U3 S3 hs3 hf3=>?_,fun h3 r3 o3 a b va vb U3 S3 hs3 hle3 Ra Rb Na Nb Ka Kb la lb a15 b15 ca cb hF3=>?_⟩
    ·simp only [cW, cX]
     refine bG S3 (aV ?_)
     rw [hs3]
     exact aL rfl (go' h3 r3 o3 U3 S3 (fun e=>by rw [hs3] at e; cases e) (.inl ⟨hs3,hf3⟩))
    ·simp only [cW, cX]
     refine bG S3 (aV ?_)
     rw [hs3]
     refine aW rfl ?_
     exact qM (a:=a) (b:=b) (kl:=decide (b0=1)) (F:=F) S3 Ra Rb (fun i hi=>(Na i hi).2) (fun i hi=>(Nb i hi).2) Ka Kb la lb a15 b15 ca cb (.inr ⟨hs3,hF3⟩) fun h5 r5 o5 U5 S5 hle5 hA5=>go' h5 r5 o5 (U3.trans U5) S5 (fun e=>by have:=hle5 e; omega) hA5
   ·have e3 : v = 3 := by simp at e0 e1 e2; omega
    subst e3
    simp only at hF2
    rw [Infl.settle_set (by trivial)] at hF2
    exact fZ (k:=⟨out,decide (b0=1),false⟩) (F:=F) rfl S2 (.inr ⟨hs2,hF2⟩) fun h3 r3 U3 S3 hs3 hf3=>go' h3 r3 out U3 S3 (fun e=>by rw [hs3] at e; cases e) (.inl ⟨hs3,hf3⟩)
theorem aHY {o ra:Int} (hsl:s.length≤1073741824) (hq:∀ h' n,Upd (fun _=>False) h h'→((Infl.go (b6 o ra) (Infl.bitsOf s) 0 Infl.start).e=0→n=((((Infl.go (b6 o ra) (Infl.bitsOf s) 0 Infl.start).pos+7) / 8:Nat):Int)) →
   Q (.tu [.s (Infl.go (b6 o ra) (Infl.bitsOf s) 0 Infl.start).out,.i .i64 (aGS (Infl.go (b6 o ra) (Infl.bitsOf s) 0 Infl.start).e),.i .i64 n]) h'):C Y9.id [.s s,.ag [.i .i64 o,.i .i64 ra]] h Q:=by
 refine Y9.call ?_
 simp only [Y9.t, ← Y9.p0.eq_1]
 refine bQ (hk:=fun h1 l1 U1 R1=>?_)
 have R1:bC h1 h.length [.i .i64 o,.i .i64 ra]:=R1
 have e2:(AV.ag [.i .i64 o,.i .i64 ra]).parts.length=2:=rfl
 simp only [e2,bD]
 refine aE R1 rfl rfl (aC (aE R1 rfl rfl (aC ?_)))
 refine vE (lo:=0) (hi:=65536) (by decide) (aC ?_)
 refine aE R1 rfl rfl (aC ⟨rfl, ?_⟩)
 refine vE (lo:=1) (hi:=1100) (by decide) (aC ?_)
 refine bQ (hk:=fun h2 l2 U2 R2=>?_)
 have U:=U1.then U2
 have S2:RSt (b6 o ra) s h2 h1.length ⟨0,.sl none 0 none,false,0⟩ []:=
  { recd:=R2,ob:=.inl ⟨rfl,rfl⟩,d1:=fun h=>h,le:=Nat.zero_le _,len:=by decide,lim:=⟨by show bnd o 0 65536≤_; unfold bnd; omega,by show bnd ra 1 1100≤_; unfold bnd; omega⟩,sl:=hsl }
 exact aC0 (F:=Infl.go (b6 o ra) (Infl.bitsOf s) 0 Infl.start) U1.1 (fun h' n U' hn=>hq h' n U' hn) (8 * s.length) h2 ⟨0,.sl none 0 none,false,0⟩ [] false (fun _=>by simp) U (fun _ h=>h.elim) S2 (.inr ⟨rfl,rfl⟩)
end
end Go.Proofs.YtpaphfeihpgamaaDoor
namespace Go.Proofs.YtpaphfeihpgamaaDoor
open Go.GAM
open Go.Infl (bL cV bY Out Lim)
def aEH (L:Lim) (s:List UInt8):List UInt8 × Int:=match Infl.run L (Infl.bitsOf s) 0 Infl.start with
 | (p,.done k)=>if s.drop ((p+7) / 8)=[] then (k.out,0) else ([],2)
 | (_,.err e _)=>([],eno e)
 | (_,.wait ..)=>([],1)
theorem zB {e:Nat} (h:e=1∨e=2):aGS e=eno e∧eno e≠0:=by rcases h with rfl | rfl <;> exact ⟨rfl,by decide⟩
section
variable [XR] {h:aA} {Q:AV→aA→Prop} {L:Lim} {s:List UInt8} {o ra:Int}
theorem cS.lt (O:cS h):0<h.length:=by obtain ⟨b,hb,_⟩:=O; exact aM hb
def zR:Out→Prop
 | .err e _=>e=1∨e=2
 | _=>True
theorem aG0 (O:cS h) (hs:s.length<1073741824) (hq:∀ h',Upd (fun _=>False) h h'→zR (Infl.run (b6 o ra) (Infl.bitsOf s) 0 Infl.start).2→Q (.tu [.s (aEH (b6 o ra) s).1,.i .i64 (aEH (b6 o ra) s).2]) h'):C Y61.id [.s s,.ag [.i .i64 o,.i .i64 ra]] h Q:=by
 refine Y61.call ?_
 simp only [Y61.t]
 refine bQ (hk:=fun h1 l1 U1 R1=>?_)
 have R1:bC h1 h.length [.i .i64 o,.i .i64 ra]:=R1
 have e2:(AV.ag [.i .i64 o,.i .i64 ra]).parts.length=2:=rfl
 rw [e2]
 refine fC R1 rfl ?_
 have O1:cS h1:=O.upd U1 fun h=>h
 refine aG3 O1 fun h2 d r U2 hd S2=>?_
 have hlt:=O1.lt
 refine aDD (F:=fun i=>h1.length≤i) (by omega) (by omega) S2 (fun i hi=>Nat.le_trans U2.1 hi) fun h3 r3 U3 S3=>?_
 have U:Upd (fun _=>False) h h3:=(U1.then U2).ownP U3 fun i hi=>Nat.le_trans U1.1 hi
 simp only [cW,cX]
 unfold aEH at hq
 have e0:Infl.run (b6 o ra) (Infl.bitsOf s) (8 * 0) (.wait ⟨[],false,false⟩ (.num 3 0 0) .block)=Infl.run (b6 o ra) (Infl.bitsOf s) 0 Infl.start:=rfl
 rw [e0] at S3 ⊢
 generalize Infl.run (b6 o ra) (Infl.bitsOf s) 0 Infl.start=X at S3 hq ⊢
 obtain ⟨p,x⟩:=X
 have D3:=S3.dec
 have hst:=S3.st
 have hrs:=S3.rest
 refine bR (aC ?_)
 cases x with
 | err e k =>
  obtain ⟨h1',h2',h3'⟩:=hst
  have hne:=(zB h3').2
  refine aW (by show (!decide (eno e=0))=true; simp [hne]) (.inl (hq h3 U h3'))
 | wait k w c =>
  obtain ⟨_,_,_,hdn,_⟩:=hst
  refine aL rfl ?_
  simp only [bF,bD]
  refine aE D3.recd rfl rfl (aV ?_)
  rw [hdn]
  exact aW rfl (.inl (hq h3 U trivial))
 | done k =>
  obtain ⟨hdn,_⟩:=hst
  refine aL rfl ?_
  simp only [bF,bD]
  refine aE D3.recd rfl rfl (aV ?_)
  rw [hdn]
  refine aL rfl (aE D3.recd rfl rfl (bR ?_))
  have hr:r3.rest=s.drop ((p+7) / 8):=by rw [hrs]; unfold nX; simp
  rw [hr]
  refine aG ?_ ?_ <;> intro e
  ·have e : ¬ s.drop ((p + 7) / 8) = [] := by simpa using e
   have:=hq h3 U trivial
   simp only [if_neg e] at this
   exact .inl this
  ·have e : s.drop ((p + 7) / 8) = [] := by simpa using e
   have:=hq h3 U trivial
   simp only [if_pos e] at this
   exact .inl this
def aC1 [XR]:Prop:=∀ {h:aA} {Q:AV→aA→Prop},cS h→(∀ h',Upd (fun _=>False) h h'→Q (.b true) h')→C Y36.id [] h Q
abbrev qp (d:Nat):AV:=.p (some ⟨d,7,0⟩)
def RF (o ra:Int) (S:List UInt8) (told:Nat) (over fail:Bool) (after:List UInt8):List AV:=[.i .i64 o,.i .i64 ra,.s S,iN told,.b over,.b fail,.s after]
theorem aFG (hq:∀ h' d,Upd (fun _=>False) h h'→h.length≤d→bC h' d (RF o ra [] 0 false false [])→Q (qp d) h'):C Y80.id [.ag [.i .i64 o,.i .i64 ra]] h Q:=by
 refine Y80.call ?_
 simp only [Y80.t]
 refine bQ (hk:=fun h1 l1 U1 R1=>?_)
 have R1:bC h1 h.length [.i .i64 o,.i .i64 ra]:=R1
 have e2:(AV.ag [.i .i64 o,.i .i64 ra]).parts.length=2:=rfl
 rw [e2]
 refine fC R1 rfl ?_
 refine aAI (cs:=RF o ra [] 0 false false []) rfl ?_
 exact bQ (hk:=fun h2 l2 U2 R2=>.inl (hq h2 _ (U1.then U2) U1.1 R2))
theorem aDP {d told:Nat} {S after:List UInt8} {over fail:Bool} (R:bC h d (RF o ra S told over fail after)) (hq:Q (.b over) h):C Y63.id [qp d] h Q:=by
 refine Y63.call ?_
 simp only [Y63.t,bF,bD]
 exact aE R rfl rfl (aV (.inl hq))
theorem aD3 {d told:Nat} {S after:List UInt8} {over fail:Bool} (R:bC h d (RF o ra S told over fail after)) (hq:Q (.s after) h):C Y57.id [qp d] h Q:=by
 refine Y57.call ?_
 simp only [Y57.t,bF,bD]
 exact aE R rfl rfl (bR (.inl hq))
theorem vI {d told:Nat} {S after:List UInt8} {over fail:Bool} (R:bC h d (RF o ra S told over fail after)) (hof:over=true∨fail=true) (hq:Q (.tu [.s [],.i .i64 10]) h):C Y32.id [qp d,.s s] h Q:=by
 have P0:Y32.p0 (aH h Q) (qp d) s true h:=by
  refine Y32.i0 ?_
  simp only [Y32.t0]
  exact aW rfl (.inl hq)
 refine Y32.call ?_
 simp only [Y32.t,bF,bD, ← Y32.p0.eq_1]
 refine aE R rfl rfl (aV ?_)
 refine aG ?_ ?_ <;> intro e
 ·exact P0
 ·refine aE R rfl rfl (aV ?_)
  rcases hof with g | g
  ·rw [g] at e; cases e
  ·rw [g]; exact P0
theorem aDM {d told : Nat} {S after : List UInt8} (R : bC h d (RF o ra S told false false after)) (hlen : (S ++ s).length < 1073741824) (ht : told ≤ (Infl.run (b6 o ra) (Infl.bitsOf (S ++ s)) 0 Infl.start).2.core.out.length) (hok : zR (Infl.run (b6 o ra) (Infl.bitsOf (S ++ s)) 0 Infl.start).2)
  (hpos:∀ k,(Infl.run (b6 o ra) (Infl.bitsOf (S++s)) 0 Infl.start).2 = .done k→((Infl.run (b6 o ra) (Infl.bitsOf (S++s)) 0 Infl.start).1+7) / 8≤(S++s).length)
  (hq : ∀ h', Upd (fun i => i = d) h h' → bC h' d (match Infl.run (b6 o ra) (Infl.bitsOf (S ++ s)) 0 Infl.start with
    | (_,.wait k _ _)=>RF o ra (S++s) k.out.length false false after
    | (_,.err _ k)=>RF o ra (S++s) k.out.length false true after
    | (p,.done k)=>RF o ra (S++s) k.out.length true false ((S++s).drop ((p+7) / 8))) →
   Q (.tu [.s ((Infl.run (b6 o ra) (Infl.bitsOf (S++s)) 0 Infl.start).2.core.out.drop told),.i .i64 (zZ (Infl.run (b6 o ra) (Infl.bitsOf (S++s)) 0 Infl.start).2)]) h'):C Y32.id [qp d,.s s] h Q:=by
 refine Y32.call ?_
 simp only [Y32.t,bF,bD, ← Y32.p0.eq_1]
 refine aE R rfl rfl (aV (aL rfl (aE R rfl rfl (aV ?_))))
 refine Y32.i0 ?_
 simp only [Y32.t0,bF,bD]
 refine aL rfl (aE R rfl rfl (bR ⟨by rw [List.length_append] at hlen; omega, ?_⟩))
 refine aP R rfl (ltr rfl) (hk:=fun h1 l1 U1 R1=>?_)
 refine aE R1 rfl rfl (bR ?_)
 rw [aIB (n:=7) R1 rfl (by show 0+0+2≤7; omega)]
 refine aHY (o:=o) (ra:=ra) (by omega) fun h2 n U2 hn=>?_
 simp only [cW,cX,yK]
 have R2:=R1.upd U2 fun h=>h
 have hU1:Upd (fun i=>i=d) h h2:=U1.trans U2 fun _ _ h=>h.elim
 rw [Infl.go_run] at hn ⊢
 generalize hX:Infl.run (b6 o ra) (Infl.bitsOf (S++s)) 0 Infl.start=X at hok hn ht hpos hq ⊢
 obtain ⟨p,x⟩:=X
 simp only at hok hn ht hpos hq ⊢
 refine bR (aC (aC ?_))
 refine aE R2 rfl rfl (aC (pS ht ?_))
 refine aP R2 rfl (ltr rfl) (hk:=fun h3 l3 U3 R3=>?_)
 have hU3:=hU1.trans U3 fun _ _ h=>h
 cases x with
 | wait k w c=>exact aW rfl (.inl (hq h3 hU3 R3))
 | err e k =>
  obtain ⟨h1',h2'⟩:=zB hok
  have hc:(Out.err e k).code=e:=rfl
  have hne1:eno e≠1:=by rcases hok with rfl | rfl <;> decide
  simp only [hc,h1']
  refine aL (by simp [hne1]) (aW (by simp [h2']) ?_)
  exact aP R3 rfl (ltr rfl) (hk:=fun h4 l4 U4 R4=>.inl (hq h4 (hU3.trans U4 fun _ _ h=>h) R4))
 | done k =>
  have hn:=hn rfl
  subst hn
  refine aL rfl (aL rfl ?_)
  refine aP R3 rfl (ltr rfl) (hk:=fun h4 l4 U4 R4=>?_)
  refine aE R4 rfl rfl (bR (pS (hpos k rfl) ?_))
  exact aP R4 rfl (ltr rfl) (hk:=fun h5 l5 U5 R5=>.inl (hq h5 ((hU3.trans U4 fun _ _ h=>h).trans U5 fun _ _ h=>h) R5))
end
end Go.Proofs.YtpaphfeihpgamaaDoor
namespace Go.Proofs.YtpaphfeihpgamaaDoor
open Go.GAM
open Go.Infl (bL cV bY Out Lim)
theorem o0.upd {h h':aA} {F F' N:Nat→Prop} {d:Nat} {r:DR} {w:cV} {c:bY} (W:o0 h F d r w c) (U:Upd N h h') (hN:∀ i,F i→¬ N i) (hG:∀ i,i<h.length→F i→F' i):o0 h' F' d r w c:=by
 cases w with
 | num need hv acc =>
  obtain ⟨w1,w2,w3,w4,w5,w6⟩:=W
  exact ⟨w1,w2,w3,w4,w5,w6.upd U (fun i hi=>hN i hi.1) fun i hl hi=>⟨hG i hl hi.1,hi.2⟩⟩
 | sym l n x =>
  obtain ⟨w1,ic,sym,w2,w3,w4⟩:=W
  exact ⟨w1,ic,sym,w2,w3.upd U (fun i hi=>hN i hi.1) fun i hl hi=>⟨hG i hl hi.1,hi.2⟩,w4.upd U (fun i hi=>hN i hi.1.1) fun i hl hi=>⟨⟨hG i hl hi.1.1,hi.1.2⟩,hi.2⟩⟩
theorem DSt.upd {L:Lim} {h h':aA} {F F' N:Nat→Prop} {d:Nat} {r:DR} {told inp:Nat} {o:Out} {rest:List UInt8} (S:DSt L h F d r told o inp rest) (U:Upd N h h') (hN:∀ i,F i→¬ N i) (hO:¬ N 0) (hG:∀ i,i<h.length→F i→F' i):DSt L h' F' d r told o inp rest where
 dec:={ S.dec.upd U fun i hm=>hN i (S.dec.f i hm) with f:=fun i hm=>hG i (S.dec.lt hm) (S.dec.f i hm) }
 ord:=S.ord.upd U hO
 rest:=S.rest
 st:=by
  have hst:=S.st
  cases o with
  | wait k w c=>exact ⟨hst.1,hst.2.1,hst.2.2.1,hst.2.2.2.1,hst.2.2.2.2.1,hst.2.2.2.2.2.1.upd U hN hG,hst.2.2.2.2.2.2⟩
  | done k=>exact hst
  | err e k=>exact hst
theorem aEC (a b:List UInt8):Infl.bitsOf (a++b)=Infl.bitsOf a++Infl.bitsOf b:=List.flatMap_append
def jO (L:Lim) (S:List UInt8):Nat × Out:=Infl.run L (Infl.bitsOf S) 0 Infl.start
theorem aD7 (L:Lim):jO L []=(0,Infl.start):=Infl.run_nil
theorem aE1 {L:Lim} {S:List UInt8} {k:bL} {w:cV} {c:bY} (h:(jO L S).2 = .wait k w c):jO L S=(8 * S.length,.wait k w c):=by
 have:=Infl.run_pos _ _ _ h
 rw [Infl.bits_len,Nat.zero_add] at this
 exact Prod.ext this h
theorem qF {L:Lim} {S s:List UInt8} {k:bL} {w:cV} {c:bY} (h:(jO L S).2 = .wait k w c):jO L (S++s)=Infl.run L (Infl.bitsOf s) (8 * S.length) (.wait k w c):=by
 have:=aE1 h
 unfold jO at this ⊢
 rw [aEC,Infl.run_append,this]
theorem aFR (L:Lim) (S:List UInt8):(jO L S).1≤8 * S.length:=by
 have:=(lQ (L:=L) (Infl.bitsOf S) 0 Infl.start).2
 rw [Infl.bits_len,Nat.zero_add] at this
 exact this
theorem aGB {L:Lim} {S s:List UInt8} {k:bL} {w:cV} {c:bY} (h:(jO L S).2 = .wait k w c):8 * S.length≤(jO L (S++s)).1:=by
 rw [qF h]; exact (lQ _ _ _).1
theorem aDI {L:Lim} {S s:List UInt8} {k:bL} {w:cV} {c:bY} (h:(jO L S).2 = .wait k w c):∃ t,(jO L (S++s)).2.core.out=k.out++t:=by
 rw [qF h]; exact Infl.ext_run L _ _ (.wait k w c)
theorem aEO {S s:List UInt8} {p:Nat} (h:8 * S.length≤p):(S++s).drop ((p+7) / 8)=s.drop ((p+7) / 8 - S.length):=by
 rw [List.drop_append,List.drop_eq_nil_of_le (by omega),List.nil_append]
def tZ:Out→Bool
 | .done _=>true
 | _=>false
def aG6:Out→Bool
 | .err _ _=>true
 | _=>false
theorem DSt.errs {L:Lim} {h:aA} {F:Nat→Prop} {d:Nat} {r:DR} {told inp:Nat} {o:Out} {rest:List UInt8} (S:DSt L h F d r told o inp rest):zR o:=by
 have hst:=S.st
 cases o with
 | wait k w c=>trivial
 | done k=>trivial
 | err e k=>exact hst.2.2
theorem aGJ [XR] {h:aA} {Q:AV→aA→Prop} {L:Lim} {F:Nat→Prop} {d:Nat} {r:DR} {told:Nat} {o:Out} {inp:Nat} {rest:List UInt8} (S:DSt L h F d r told o inp rest) (hq:Q (.b (tZ o)) h):C Y37.id [dp d] h Q:=by
 cases o with
 | wait k w c=>exact yG S hq
 | done k=>exact yG S hq
 | err e k=>exact yG S hq
end Go.Proofs.YtpaphfeihpgamaaDoor
namespace Go.Proofs.YtpaphfeihpgamaaDoor
open Go.GAM
theorem aIF:∀ c:Fin 256,bO .xor .u8 (IntKind.max .u8) ((c.1:Nat):Int)=((255 - c.1:Nat):Int):=by decide +kernel
theorem ofN {k:Nat} (hk:k<256):byteAV (UInt8.ofNat k) = .i .u8 (k:Int):=by
 unfold byteAV
 rw [UInt8.toNat_ofNat',Nat.mod_eq_of_lt hk]
theorem xJ {n:Nat}:IntKind.wrap .u8 (n:Int)=((n % 256:Nat):Int):=by
 simp only [IntKind.wrap,IntKind.bits,IntKind.signed,Bool.false_and]
 have:(2:Int) ^ 8=256:=by decide
 rw [this]
 simp
def hdr (n:Nat):List UInt8:=[1,UInt8.ofNat (n % 256),UInt8.ofNat (n / 256),UInt8.ofNat (255 - n % 256),UInt8.ofNat (255 - n / 256)]
theorem aBY {n:Nat} (h:n<65536):(hdr n).map byteAV=[.i .u8 1,.i .u8 ((n % 256:Nat):Int),.i .u8 ((n / 256:Nat):Int),.i .u8 ((255 - n % 256:Nat):Int),.i .u8 ((255 - n / 256:Nat):Int)]:=by
 unfold hdr
 rw [List.map_cons,List.map_cons,List.map_cons,List.map_cons,List.map_cons,List.map_nil,ofN (by omega),ofN (by omega),ofN (by omega),ofN (by omega)]
 first | done | rfl
theorem aH9 {n:Nat} {K:Int→Prop} (hk:K ((n / 256:Nat):Int)):kZ .i64 (n:Int) 8 K:=by
 refine ⟨by decide, ?_⟩
 have e:(n:Int).fdiv (2 ^ (min (8:Int).toNat IntKind.i64.bits))=((n / 256:Nat):Int):=by
  show (n:Int).fdiv (2 ^ 8)=_
  rw [show (2:Int) ^ 8=((256:Nat):Int) by decide,Int.ofNat_fdiv]
 rw [e]; exact hk
section
variable [XR] {h:aA} {Q:AV→aA→Prop} {s:List UInt8}
theorem aB4 (hG:s.length≤59∨xR) (hs:s.length≤65535) (hq:Q (.s (Infl.storedBytes s)) h):C Y29.id [.s s] h Q:=by
 refine Y29.call ?_
 simp only [Y29.t, ← Y29.p0.eq_1]
 refine cF fun h1 l1 U1 R1=>?_
 have R1:jB h1 h.length nilS:=R1
 refine Y29.i0 ?_
 simp only [Y29.t0, ← Y29.p1.eq_1]
 have e0:mmI false (s.length:Int) 65535=((s.length:Nat):Int):=by unfold mmI; simp only [cond_false]; split <;> omega
 refine aX e0 (aW (decide_eq_true rfl) ?_)
 refine Y29.i1 ?_
 simp only [Y29.t1, ← Y29.p0.eq_1]
 have n8:s.length / 256<256:=by omega
 refine aH9 ?_
 rw [xJ,xJ,Nat.mod_eq_of_lt n8]
 refine aX (aIF ⟨s.length % 256,Nat.mod_lt _ (by decide)⟩) (aH9 ?_)
 rw [xJ,Nat.mod_eq_of_lt n8]
 refine aX (aIF ⟨s.length / 256,n8⟩) ?_
 refine dZ (cs:=(hdr s.length).map byteAV) (by rw [aBY (by omega)] <;> rfl) rfl fun x h2 l2 U2 R2 F2=>?_
 have hx:¬ aQ x h.length:=fun e=>by have:=F2 _ e; have:=U1.1; omega
 refine vR (ns:=hdr s.length) (n0:=by show 0<5; decide) (R1.upd U2 fun h=>h) (by show 5≤64; decide) R2 hx fun h3 id U3 hid R3 B3=>?_
 have hl1:=R1.lt
 have hl2:=U2.1
 refine aDC (Nat.le_refl _) ?_
 rw [List.take_length]
 refine y4 (bs:=hdr s.length) (ns:=s) (hG.imp (fun h=>by show 5+s.length≤64; omega) fun h=>h) R3 B3 (by omega) (by show 0<5; decide) (by omega) fun h4 id' N ex U4 hid' R4 B4=>?_
 refine pS (Nat.le_refl _) (aW rfl ?_)
 have e1:(hdr s.length).length+s.length=(hdr s.length++s).length:=by simp
 rw [e1] at R4
 refine aIO R4 B4 (bR ?_)
 have hl3:=U3.1
 refine iO rfl (Upd.ext ?_) hq
 exact (((U1.then U2).own U3 (Nat.le_refl _)).trans U4 fun i hi e=>by omega)
end
def X1:aZ:=orR (aF0 aFF) (aFX prog (@C xr0) (dW prog))
theorem aDE:kL prog X1:=fun w0 Fz μ f args h K hk=>
 hk.elim (rE w0 Fz μ f args h K) (aAO mixedOK sizeOK (vX mixedOK sizeOK rE) (hH _) (fun w0 Fz μb Y hY=>gU mixedOK sizeOK hY) w0 Fz μ f args h K)
noncomputable instance xr1:XR:=⟨X1⟩
theorem aH4 {W:World}:cA prog W (fun B=>B<W.heap.size) (fun _ _=>none) (@X xr1):=aDE _ _ _
theorem zU {s:List UInt8} (hs:s.length<1073741824) : @pP xr1 s:=fun h Q i v hi S hq=>z0 (.inr (aGE hs hi S hq))
theorem vD {h:aA} {Q:AV→aA→Prop} (hq:Q (.ag [.i .i64 65536,.i .i64 1100]) h):C Y67.id [] h Q:=by
 refine Y67.call ?_
 unfold Y67.t
 refine cF fun h1 l1 U1 R1=>iL R1 rfl rfl rfl fun h2 l2 U2 R2=>fC R2 rfl ?_
 exact iO rfl (Upd.ext (U1.own U2 (Nat.le_refl _))) hq
theorem aF7 : @aC1 xr1:=by
 intro h Q O hq
 refine Y36.call ?_
 simp only [Y36.t, ← Y36.p0.eq_1]
 refine vD (aG0 O (by decide) fun h1 U1 _=>?_)
 have e1:aEH (b6 65536 1100) [75,4,0]=([97],0):=by decide +kernel
 rw [e1]
 simp only [cW,cX]
 refine bR (aC (vD (aG0 (O.upd U1 fun h=>h) (by decide) fun h2 U2 _=>?_)))
 have e2:(aEH (b6 65536 1100) [75,4]).2=1:=by decide +kernel
 simp only [cW,cX]
 rw [e2]
 refine bR (aC (aW (by decide) (aW (by decide) (aW (by decide) ?_))))
 refine aB4 (.inl (by decide)) (by decide) (bR (aW (by decide +kernel) ?_))
 refine xD (zU (by decide)) (by decide) (bR (aW (by decide +kernel) ?_))
 refine xD (zU (by decide)) (by decide) (bR ?_)
 refine Y36.i0 ?_
 simp only [Y36.t0]
 have e3:decide (Infl.fixedText [97,97,97,97,97,97]=[75,4,3,0])=true:=by decide +kernel
 rw [e3]
 exact iO rfl (Upd.ext (U1.then U2)) (hq _ (Upd.refl _ _))
end Go.Proofs.YtpaphfeihpgamaaDoor
namespace Go.Proofs.YtpaphfeihpgamaaDoor
open Go.GAM Go.RowKit Go.ChangeShapes
section
variable {H:Type} {enc:TypeId × Value→H} {w:World}
theorem aFS {g:Nat} {cs:Array Value} {n:String} (hg:prog.globalNamed n=some g) (hv:w.var? prog n=some cs):uF (dX w fun _=>1) g (cs.toList.map (iC w fun _=>1)):=by
 obtain ⟨t,fr,h⟩:=aBS hg hv
 have hlt:g<w.heap.size:=(Array.getElem?_eq_some_iff.1 h).1
 refine ⟨nD w (fun _=>1) g, ?_, ?_, ?_, ?_⟩
 ·unfold dX
  rw [List.getElem?_append_left (by simpa using hlt),List.getElem?_map,List.getElem?_range hlt] <;> rfl
 ·simp only [nD,h]
 ·simp only [nD,h]; simp
 ·simp only [nD,h]
theorem aHV {l : List (String × DataW Unit)} (h1 : ("intrusion/inflate.order", Rows.laid_intrusion_inflate_order) ∈ l) (hL : laidMet prog l w) : cS (dX w fun _ => 1) := by
 obtain ⟨g,t,cs,fuel,p,hg,ht,hv,hd⟩:=yY h1 hL
 obtain rfl:=Option.some.inj ((show prog.globalNamed "intrusion/inflate.order" = some 0 by kernel_rfl).symm.trans hg)
 obtain rfl:=Option.some.inj ((show (prog.globals[0]?).map (·.type)=some 90 by kernel_rfl).symm.trans ht)
 have hG:=aFS hg hv
 obtain ⟨xs,m,rfl,hx,hlen,hl,hf⟩:=DataW.trod_array Tryd.underlying90 hd
 have c1:prog.cellsOf 3=1:=by kernel_rfl
 have c19:prog.cellsOf 90=19:=by kernel_rfl
 rw [c19] at hlen
 rw [c1] at hf
 have hxs:xs.map (·.1)=Infl.order.map fun n:Nat=>(.lit (.int .i64 (n:Int)):DataW Unit):=by
  have:=(congrArg Prod.fst hx).symm
  unfold Rows.laid_intrusion_inflate_order at this
  exact DataW.agg.inj this
 have e:cs.toList.map (iC w fun _=>1)=bB Infl.order:=by
  refine List.ext_getElem? fun i=>?_
  by_cases hi:i<19
  ·have h1 := hf i hi
   have h2:(xs.map (·.1))[i]? = (Infl.order.map fun n:Nat=>(.lit (.int .i64 (n:Int)):DataW Unit))[i]?:=by rw [hxs]
   obtain ⟨c,hc⟩:∃ c,cs.toList[i]? = some c:=⟨_,List.getElem?_eq_getElem (by omega)⟩
   have h3:(cs.toList.drop (i * 1)).take 1=[c]:=by
    rw [Nat.mul_one,List.drop_eq_getElem_cons (by omega)]
    simp only [List.take_succ_cons,List.take_zero]
    rw [List.getElem?_eq_getElem (by omega)] at hc
    rw [Option.some.inj hc]
   rw [h3] at h1
   obtain ⟨o,ho⟩:∃ o,Infl.order[i]? = some o:=⟨_,List.getElem?_eq_getElem (by show i<19; exact hi)⟩
   rw [List.getElem?_map,List.getElem?_map, ← h1,ho] at h2
   cases hy:DataW.trod (fun _=>()) prog w 0 (fun _=>true) false m 3 [c] with
   | none=>rw [hy] at h2; cases h2
   | some y =>
    rw [hy] at h2
    obtain ⟨n,e1,e2,_⟩:=DataW.trod_int (show prog.underlying 3=some (.int .i64) by kernel_rfl) hy
    have e1:=List.singleton_inj.1 e1
    subst e1 e2
    have e3:n=(o:Int):=by simpa using h2
    unfold bB
    rw [List.getElem?_map,List.getElem?_map,hc,ho]
    simp [iC,lH,e3]
  ·have h0 : Infl.order.length = 19 := rfl
   rw [List.getElem?_eq_none (by simp at hlen ⊢; omega),List.getElem?_eq_none (by unfold bB; rw [List.length_map,h0]; omega)]
 rw [e] at hG
 exact hG
theorem aCP {v a b:Value} (h:v.cells.toList=[a,b]):v = .agg #[a,b]:=by
 cases v <;> first | (simp [Value.cells] at h; done) | skip
 rename_i cs
 show Value.agg cs=_
 congr
 apply Array.ext'
 simpa [Value.cells] using h
theorem aGT {v:Value} (k:InW enc prog w 23 v.cells.toList):∃ o ra:Int,aU (muC w fun _=>1) (.ag [.i .i64 o,.i .i64 ra]) v:=by
 obtain ⟨h1,h2⟩:=k.struct Tryd.underlying23
 have c2:prog.cellsOf 23=2:=by kernel_rfl
 have c1:prog.cellsOf 3=1:=by kernel_rfl
 rw [c2] at h1
 generalize hc:v.cells.toList=cs at h1 h2
 match cs,h1 with
 | [a, b], _ =>
  have k0:InW enc prog w 3 (([a,b].drop 0).take (prog.cellsOf 3)):=h2 0 _ rfl
  have k1:InW enc prog w 3 (([a,b].drop 1).take (prog.cellsOf 3)):=h2 1 _ rfl
  rw [c1] at k0 k1
  obtain ⟨o,f0,_⟩:=k0.int (show prog.underlying 3=some (.int .i64) by kernel_rfl)
  obtain ⟨ra,f1,_⟩:=k1.int (show prog.underlying 3=some (.int .i64) by kernel_rfl)
  have e0:a = .int .i64 o:=List.singleton_inj.1 (show [a]=[.int .i64 o] from f0)
  have e1:b = .int .i64 ra:=List.singleton_inj.1 (show [b]=[.int .i64 ra] from f1)
  subst e0
  subst e1
  rw [aCP hc]
  exact ⟨o,ra,.ag _ _ (.cons _ _ _ _ (.i _ _) (.cons _ _ _ _ (.i _ _) .nil))⟩
theorem aHL {a : Option Addr} {len cap : Nat} {i : Nat} (h : aQ (iC w (fun _ => 1) (.slice a len cap)) i) : i < (dX w fun _ => 1).length := by
 have hl:(dX w fun _=>1).length=w.heap.size+1:=by unfold dX; simp
 rw [hl]
 cases a with
 | none =>
  cases len with
  | succ=>exact h.elim
  | zero=>cases cap <;> exact h.elim
 | some a =>
  simp only [iC,lH] at h
  split at h
  ·split at h
   ·have hh : w.heap.size = i := h
    omega
   ·exact h.elim
  ·cases hs : w.shape? a.block with
   | none=>rw [hs] at h; exact h.elim
   | some x =>
    obtain ⟨t,n⟩:=x
    obtain ⟨c,fr,h1,_⟩:=lU hs
    have h2:=(Array.getElem?_eq_some_iff.1 h1).1
    rw [hs] at h
    cases hp:a.spot with
    | some _=>rw [hp] at h; exact h.elim
    | none =>
     rw [hp] at h
     simp only at h
     split at h
     ·have hh : a.block = i := h
      omega
     ·exact h.elim
theorem aDX {a:Option Addr} {len cap:Nat} (k:InW enc prog w 37 (Value.slice a len cap).cells.toList):∃ (av:AV) (l:List (List UInt8)),aU (muC w fun _=>1) av (.slice a len cap)∧RdI 1 (dX w fun _=>1) av (l.map .s) l.length∧∀ i,aQ av i→i<(dX w fun _=>1).length:=by
 obtain ⟨v',l,e,R,_,_,_,hv⟩:=k.strs Tryd.underlying37 Tryd.underlying9 (by kernel_rfl)
 have:Value.slice a len cap=v':=by simpa [Value.cells] using e
 subst this
 exact ⟨_,l,hv,R,fun i hi=>aHL hi⟩
end
end Go.Proofs.YtpaphfeihpgamaaDoor
set_option maxRecDepth 100000
namespace Go.Proofs.YtpaphfeihpgamaaDoor
open Go.GAM
variable [XR]
noncomputable def Y21.body:Code:=(Tryd.f7.body).getD .skip
def Y21.ann:Ann:=(sl [0,3] (sq [0,3] (sl [0,3,14] (.br (sl [4] lf) lf)) (sl [0,3,5] (sq [0,3,5] (sl [0,3,5,19] (.br (sl [4] lf) lf)) (sl [0,5,6] (sq [] (sl [0,5,6,7] (.one (.loop 1 [0,5,6,7] (sq [0,5,6,7] (sl [0,5,6,7,25] bl) (sq [0,5,6,7] (.one (sq [0,5,6,7] (sl [0,5,6,7,33] (.br (sl [4] lf) lf)) (sl [0,5,6,7,8,9] (sl [0,5,6,7,8,9,10,11] (.seq 2 [0,5,6,7,74] lf (.br (sl [4] lf) lf)))))) lf))))) (sl [4] lf)))))))
theorem Y21.dist:aI (places Y21.ann Y21.body)=true:=by kernel_rfl
noncomputable def Y21.J (Q:AV→aA→Prop):JT:=bH prog C Tryd.f7 Y21.ann Y21.body Q
def Y21.p1 (Q:AV→aA→Prop) (x0 x5 x6:AV) (x7:Int) (x74:Bool) (h:aA):Prop:=Y21.J Q 2 [(0,x0),(5,x5),(6,x6),(7,(AV.i .i64 x7)),(74,(AV.b x74))] h
def Y21.p0 (Q:AV→aA→Prop) (x0 x5 x6:AV) (x7:Int) (h:aA):Prop:=Y21.J Q 1 [(0,x0),(5,x5),(6,x6),(7,(AV.i .i64 x7))] h
def Y21.t1 (Q:AV→aA→Prop) (x0 x5 x6:AV) (x7:Int) (x74:Bool) (h:aA) (J:JT):Prop:=
(bif x74 then
(Q (AV.b false) h)
else
(aJ (IntKind.wrap .i64 (x7+1)) fun n75=>
J 1 [(0,x0),(5,x5),(6,x6),(7,(AV.i .i64 n75))] h))
theorem Y21.i1 {Q x0 x5 x6 x7 x74 h} (H:Y21.t1 Q x0 x5 x6 x7 x74 h (Y21.J Q)):Y21.p1 Q x0 x5 x6 x7 x74 h:=gR Y21.J Tryd.f7 Y21.dist [1,1,1,1,1,0,1,0,0,1,0,0,1,1,1,1] H
def Y21.t0 (Q:AV→aA→Prop) (x0 x5 x6:AV) (x7:Int) (h:aA) (J:JT):Prop:=
bK x0 fun n24=>
(bif (decide ((x7:Int)<n24)) then
(aN 1 x0 (AV.i .i64 x7) h fun v28=>
aD v28 h fun v29=>
asS v29 fun l30=>
(bif (decide ((40:Int)<(l30.length:Int))) then
(C Y36.id [] h fun v32 h33=>
asB v32 fun c34=>
Q (AV.b c34) h33)
else
(aN 1 x0 (AV.i .i64 x7) h fun v37=>
aD v37 h fun v38=>
asS v38 fun l39=>
C Y1.id [x5,(AV.s l39)] h fun v40 h41=>
aO 0 v40 fun v42=>
asS v42 fun l43=>
aO 1 v40 fun v44=>
asI .i64 v44 fun n45=>
aN 1 x0 (AV.i .i64 x7) h41 fun v47=>
aD v47 h41 fun v48=>
asS v48 fun l49=>
C Y32.id [x6,(AV.s l49)] h41 fun v50 h51=>
aO 0 v50 fun v52=>
asS v52 fun l53=>
aO 1 v50 fun v54=>
asI .i64 v54 fun n55=>
(bif (!(decide ((l43:List UInt8)=l53))) then
(J 2 [(0,x0),(5,x5),(6,x6),(7,(AV.i .i64 x7)),(74,(AV.b true))] h51)
else
((bif (!decide ((n45:Int)=n55)) then
(J 2 [(0,x0),(5,x5),(6,x6),(7,(AV.i .i64 x7)),(74,(AV.b true))] h51)
else
(C Y37.id [x5] h51 fun v59 h60=>
asB v59 fun c61=>
C Y63.id [x6] h60 fun v62 h63=>
asB v62 fun c64=>
(bif (!(c61 == c64)) then
(J 2 [(0,x0),(5,x5),(6,x6),(7,(AV.i .i64 x7)),(74,(AV.b true))] h63)
else
(C Y62.id [x5] h63 fun v66 h67=>
asS v66 fun l68=>
C Y57.id [x6] h67 fun v69 h70=>
asS v69 fun l71=>
J 2 [(0,x0),(5,x5),(6,x6),(7,(AV.i .i64 x7)),(74,(AV.b (!(decide ((l68:List UInt8)=l71)))))] h70)))))))))
else
(C Y36.id [] h fun v77 h78=>
asB v77 fun c79=>
Q (AV.b c79) h78))
theorem Y21.i0 {Q x0 x5 x6 x7 h} (H:Y21.t0 Q x0 x5 x6 x7 h (Y21.J Q)):Y21.p0 Q x0 x5 x6 x7 h:=gH Y21.J Tryd.f7 Y21.dist [1,1,1,1,1,0,1,0] H
def Y21.t (Q:AV→aA→Prop) (x0 x1:AV) (h:aA) (J:JT):Prop:=
dC (some 23) x1 h fun v0 h1=>
bK x0 fun n3=>
(bif (decide ((24:Int)<n3)) then
(C Y36.id [] h1 fun v5 h6=>
asB v5 fun c7=>
Q (AV.b c7) h6)
else
(dA 2 v0 h1 fun v10=>
C Y56.id [v10] h1 fun v11 h12=>
dS prog .eql 32 v11 (AV.p none) fun v14=>
asB v14 fun c15=>
(bif c15 then
(Q (AV.b false) h12)
else
(dA 2 v0 h12 fun v19=>
C Y80.id [v19] h12 fun v20 h21=>
J 1 [(0,x0),(5,v11),(6,v20),(7,(AV.i .i64 0))] h21))))
theorem Y21.call {K x0 x1 h} (H:Y21.t (aH h K) x0 x1 h (Y21.J (aH h K))):C Y21.id [x0,x1] h K:=
 gC Y21.J Tryd.func7 Y21.dist H
end Go.Proofs.YtpaphfeihpgamaaDoor
namespace Go.Proofs.YtpaphfeihpgamaaDoor
open Go.GAM Go.RowKit Go.ChangeShapes
open Go.Infl (bL cV bY Out Lim)
structure aIE (o ra:Int) (h:aA) (F:Nat→Prop) (d q:Nat) (m:Nat):Prop where
 go:(∃ S r told k w c,(jO (b6 o ra) S).2 = .wait k w c∧S.length≤m∧DSt (b6 o ra) h F d r told (.wait k w c) S.length []∧bC h q (RF o ra S k.out.length false false [])) ∨
  (∃ S r told x inp rest tld,(∀ k w c,x ≠ .wait k w c)∧DSt (b6 o ra) h F d r told x inp rest∧bC h q (RF o ra S tld (tZ x) (aG6 x) rest))
section
variable [XR] {h:aA} {Q:AV→aA→Prop} {L:Lim} {s:List UInt8} {o ra:Int}
theorem xH (aw : aC1) {h0 h0' : aA} {d q : Nat} {F : Nat → Prop} {v : AV} {l : List (List UInt8)} (hl : l.length ≤ 24) (hF0 : ¬ F 0) (hgq : 0 ≠ q) (hFq : ¬ F q) (hv : ∀ i, aQ v i → ¬ F i ∧ i ≠ q) (hq : ∀ h', Q (.b true) h') :
  ∀ (m i:Nat) (h:aA),i+m=l.length→(∀ i,h.length≤i→F i)→RdI 1 h v (l.map .s) l.length→aIE o ra h F d q (40 * i)→cS h→Y21.p0 (aH h0' Q) v (dp d) (qp q) i h:=by
 intro m
 induction m with
 | zero =>
  intro i h hi hF R Y O
  refine Y21.i0 ?_
  simp only [Y21.t0]
  refine R.len (aL (by simp; omega) (aw O fun h2 U2=>aV (.inl (hq h2))))
 | succ m ih =>
  intro i h hi hF R Y O
  obtain ⟨s,hs⟩:∃ s,l[i]? = some s:=⟨_,List.getElem?_eq_getElem (by omega)⟩
  refine Y21.i0 ?_
  simp only [Y21.t0, ← Y21.p1.eq_1]
  refine R.len (aW (by simp; omega) (R.str (Upd.refl _ _) hs ?_))
  refine aG ?_ ?_ <;> intro e
  ·exact aw O fun h2 U2=>aV (.inl (hq h2))
  have hs40:s.length≤40:=by simp at e; omega
  refine R.str (Upd.refl _ _) hs ?_
  have nxt:∀ (h':aA) (r:DR) (told inp tld:Nat) (x:Out) (rest S:List UInt8),Upd (fun i=>F i∨i=q) h h'→DSt (b6 o ra) h' F d r told x inp rest→bC h' q (RF o ra S tld (tZ x) (aG6 x) rest)→aIE o ra h' F d q (40 * (i+1)) →
    (C Y37.id [dp d] h' fun v59 h60=>asB v59 fun c61=>C Y63.id [qp q] h60 fun v62 h63=>asB v62 fun c64=>(bif (!(c61 == c64)) then Y21.p1 (aH h0' Q) v (dp d) (qp q) i true h63 else
     (C Y62.id [dp d] h63 fun v66 h67=>asS v66 fun l68=>C Y57.id [qp q] h67 fun v69 h70=>asS v69 fun l71=>Y21.p1 (aH h0' Q) v (dp d) (qp q) i (!(decide (l68=l71))) h70))):=fun h' r told inp tld x rest S U D RR Y'=>by
   refine aGJ D (aV (aDP RR (aV ?_)))
   refine aL (by cases tZ x <;> rfl) ?_
   refine aHC D (bR (aD3 RR (bR ?_)))
   refine Y21.i1 ?_
   simp only [Y21.t1, ← Y21.p0.eq_1]
   refine aL (by simp) (inc (by omega) ?_)
   exact ih (i+1) h' (by omega) (fun i hi=>hF i (Nat.le_trans U.1 hi)) (R.upd U fun i hi hm=>hm.elim (hv i hi).1 (hv i hi).2) Y' D.ord
  rcases Y.go with ⟨S,r,told,k,w,c,hst,hSm,D,RR⟩ | ⟨S,r,told,x,inp,rest,tld,hx,D,RR⟩
  ·refine aDD hF0 (by omega) D hF fun h1 r1 U1 D1 => ?_
   simp only [cW,cX]
   rw [← qF hst] at D1 ⊢
   have R1:=R.upd U1 fun i hi hm=>(hv i hi).1 hm
   refine bR (aC (R1.str (Upd.refl _ _) hs ?_))
   obtain ⟨t,ht⟩:=aDI (s:=s) hst
   have hge:=aGB (s:=s) hst
   have hle:=aFR (b6 o ra) (S++s)
   have herr:zR (jO (b6 o ra) (S++s)).2:=D1.errs
   refine aDM (RR.upd U1 hFq) (by rw [List.length_append]; omega) (by show _≤(jO (b6 o ra) (S++s)).2.core.out.length; rw [ht]; simp) herr (fun k _=>by show ((jO (b6 o ra) (S++s)).1+7) / 8≤_; omega) fun h2 U2 R2=>?_
   simp only [cW,cX]
   have e0:Infl.run (b6 o ra) (Infl.bitsOf (S++s)) 0 Infl.start=jO (b6 o ra) (S++s):=rfl
   rw [e0] at R2 ⊢
   refine bR (aC (aL (by simp) (aL (by simp) ?_)))
   have D2:=D1.upd (F':=F) U2 (fun i hi e=>hFq (e ▸ hi)) hgq fun _ _ h=>h
   have U:Upd (fun i=>F i∨i=q) h h2:=(U1.mono fun i _ h=>.inl h).trans U2 fun i _ h=>.inr h
   cases hX:jO (b6 o ra) (S++s) with
   | mk p x =>
    have hge:8 * S.length≤p:=by rw [hX] at hge; exact hge
    rw [hX] at D2 R2
    cases x with
    | wait k' w' c' =>
     have hwait:(jO (b6 o ra) (S++s)).2 = .wait k' w' c':=by rw [hX]
     have D3:DSt (b6 o ra) h2 F d r1 k.out.length (.wait k' w' c') (S++s).length []:=by rw [List.length_append]; exact D2
     exact nxt h2 r1 _ _ _ _ _ _ U D3 R2 ⟨.inl ⟨S++s,r1,_,k',w',c',hwait,by rw [List.length_append]; omega,D3,R2⟩⟩
    | done k' =>
     have hrest:nX s S.length (p,.done k')=(S++s).drop ((p+7) / 8):=(aEO hge).symm
     rw [hrest] at D2
     exact nxt h2 r1 _ _ _ _ _ _ U D2 R2 ⟨.inr ⟨_,r1,_,.done k',_,_,_,(fun _ _ _ h=>by cases h),D2,R2⟩⟩
    | err e' k' =>
     exact nxt h2 r1 _ _ _ _ _ _ U D2 R2 ⟨.inr ⟨_,r1,_,.err e' k',_,_,_,(fun _ _ _ h=>by cases h),D2,R2⟩⟩
  ·refine aB1 D hx ?_
   simp only [cW,cX]
   refine bR (aC (R.str (Upd.refl _ _) hs ?_))
   refine vI RR (by cases x with | wait k w c=>exact absurd rfl (hx k w c) | done k=>exact .inl rfl | err e k=>exact .inr rfl) ?_
   simp only [cW,cX]
   refine bR (aC (aL (by simp) (aL (by simp) ?_)))
   exact nxt h r _ _ _ _ _ _ (Upd.refl _ _) D RR ⟨.inr ⟨S,r,told,x,inp,rest,tld,hx,D,RR⟩⟩
theorem yU (aw:aC1) (O:cS h) {v:AV} {l:List (List UInt8)} (R:RdI 1 h v (l.map .s) l.length) (hvl:∀ i,aQ v i→i<h.length) (hq:∀ h',Q (.b true) h'):C Y21.id [v,.ag [.i .i64 o,.i .i64 ra]] h Q:=by
 refine Y21.call ?_
 simp only [Y21.t, ← Y21.p0.eq_1]
 refine bQ (hk:=fun h1 l1 U1 R1=>?_)
 have R1:bC h1 h.length [.i .i64 o,.i .i64 ra]:=R1
 have e2:(AV.ag [.i .i64 o,.i .i64 ra]).parts.length=2:=rfl
 rw [e2]
 have O1:cS h1:=O.upd U1 fun h=>h
 have Rv:=R.ext U1
 refine Rv.len ?_
 refine aG ?_ ?_ <;> intro e
 ·exact aw O1 fun h2 U2=>aV (.inl (hq h2))
 ·have e : l.length ≤ 24 := by simp at e; omega
  refine fC R1 rfl (aG3 O1 fun h2 d r U2 hd D2=>?_)
  refine dI (by kernel_rfl) (aV (aL rfl ?_))
  refine fC (R1.upd U2 fun h=>h) rfl (aFG fun h3 q U3 hq3 R3=>?_)
  have hlt:=O1.lt
  have hU2:=U2.1
  have hqlt:=R3.lt
  let F:Nat→Prop:=fun i=>(h1.length≤i∧i<h2.length)∨h3.length≤i
  have D3:DSt (b6 o ra) h3 F d r 0 Infl.start 0 []:=D2.upd U3 (fun _ _ h=>h) (fun h=>h) fun i hi hm=>.inl ⟨hm,hi⟩
  have Rv3:=(Rv.ext U2).ext U3
  refine xH (F:=F) (o:=o) (ra:=ra) aw e ?_ ?_ ?_ ?_ hq l.length 0 h3 (by omega) (fun i hi=>.inr hi) Rv3 ⟨.inl ⟨[],r,0,_,_,_,by rw [aD7] <;> rfl,by simp,D3,R3⟩⟩ D3.ord (h0:=h)
  ·rintro (hh | hh) <;> omega
  ·omega
  ·rintro (hh | hh) <;> omega
  ·intro i hi
   have:=hvl i hi
   exact ⟨by rintro (hh | hh) <;> omega,by omega⟩
end
theorem walk_InflateFeeds {H:Type} {enc:TypeId × Value→H} {a:Option Addr} {len cap:Nat} {v1:Value} (W:World) (hL:laidMet Tryd.prog Rows.inflateFeedsRow.laid W) (k0:InW enc Tryd.prog W 37 (Value.slice a len cap).cells.toList) (k1:InW enc Tryd.prog W 23 v1.cells.toList) :
  Calls Tryd.prog Y21.id #[.slice a len cap,v1] W fun e w'=>e = .returned (.bool true)∧Below W.heap.size W w':=by
 obtain ⟨o,ra,hv⟩:=aGT k1
 obtain ⟨av,l,ha,R,hvl⟩:=aDX k0
 exact vA mixedOK sizeOK aH4 (by kernel_rfl) (szOf:=fun _=>1) (.cons _ _ _ _ ha (.cons _ _ _ _ hv .nil)) (yU aF7 (aHV (l:=Rows.inflateFeedsRow.laid) (List.mem_of_getElem? (i:=1) rfl) hL) R hvl fun _=>rfl)
end Go.Proofs.YtpaphfeihpgamaaDoor
