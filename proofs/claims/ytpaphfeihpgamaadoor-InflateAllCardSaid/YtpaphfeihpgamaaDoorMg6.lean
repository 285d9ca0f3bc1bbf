/- Lemmas (several texts in one). -/
import Derived.Test.YtpaphfeihpgamaaDoorRows
import Derived.OpenShut
import Derived.Test.YtpaphfeihpgamaaDoorMg5
set_option linter.unusedVariables false
set_option linter.unusedSimpArgs false
set_option linter.unusedSectionVars false
set_option maxRecDepth 20000
namespace Go.Proofs.YtpaphfeihpgamaaDoor
open Go.GAM
open Go.Infl (bP dI bY Out Lim)
theorem tG {l : List Nat} {n c : Nat} (h15 : ∀ x ∈ l, x ≤ 15) (h : Huff.stepP l n c = .more) : n < 15 := by
 unfold Huff.stepP at h
 split at h
 ·cases h
 ·split at h
  ·have : Huff.longest l ≤ 15 := by
    rw [← fW h15]
    have:∀ n,lg l n≤n:=by
     intro n
     induction n with
     | zero=>exact Nat.le_refl _
     | succ n ih=>unfold lg; split <;> omega
    exact this 15
   omega
  ·cases h
section
variable [XR] {h:aA} {Q:AV→aA→Prop} {L:Lim} {s:List UInt8} {d:Nat} {r:RS} {out:List UInt8} {F:Infl.Fin}
def RUc (d id:Nat) (h:aA) (r:RS) (h':aA) (r':RS):Prop:=Upd (fun i=>dJ d r i∨i=id) h h'∧r'.outv=r.outv
theorem aAM {h0 h0':aA} {r0:RS} {id:Nat} {l:List Nat} {lv cv:AV} {k:bP} {c:bY} {G:Nat→Prop} (hsk:k.skip=false) (ho:k.out=out) (hG:∀ i,G i→¬ dJ d r0 i)
  (hq0:∀ h' r',RUc d id h0 r0 h' r'→RSt L s h' d r' out→jM r' out F→Q (iN 0) h')
  (hq1:∀ i h' r',i<l.length→RUc d id h0 r0 h' r'→RSt L s h' d r' out→r'.stop=false→r0.at'<r'.at'→eD h' G id l lv cv 0 0→F=Infl.go L ((Infl.bitsOf s).drop r'.at') r'.at' (Infl.settle L ((r'.at'+7) / 8) 3 (Infl.apply L ((r'.at'+7) / 8) k i c))→Q (iN i) h') :
  ∀ (m : Nat) (h : aA) (r : RS) (n x : Nat), 8 * s.length - r.at' = m → RUc d id h0 r0 h r → r0.at' ≤ r.at' → RSt L s h d r out → r.stop = false → n ≤ 15 → x < 2 ^ n → Huff.fst l (n + 1) ≤ 2 * x → eD h G id l lv cv n x →
   F=Infl.go L ((Infl.bitsOf s).drop r.at') r.at' (.wait k (.sym l n x) c)→Y29.p0 (aH h0' Q) (rp d) (kp id) h:=by
 intro m
 induction m with
 | zero =>
  intro h r n x hm U hle0 S hl hn hx hfst A hF
  have hle:=S.le
  refine Y29.i0 ?_
  simp only [Y29.t0]
  refine jZ S (fun e=>by rw [hl] at e; cases e) (fun _ hge h1 U1 S1=>?_) (fun _ hlt=>by omega)
  refine aB (bF S1 (aY (aV rfl (.inl ?_))))
  refine hq0 h1 { r with short:=true } ⟨U.1.trans U1 fun i _ e=>.inl (.inl e),U.2⟩ S1 ?_
  rw [List.drop_eq_nil_of_le (by rw [Infl.bits_len]; omega),Infl.go_nil] at hF
  rw [hF]
  exact ⟨ho,.inl ⟨rfl,rfl⟩⟩
 | succ m ih =>
  intro h r n x hm U hle0 S hl hn hx hfst A hF
  refine Y29.i0 ?_
  simp only [Y29.t0]
  refine jZ S (fun e=>by rw [hl] at e; cases e) (fun _ hge=>by omega) (fun _ hlt b h1 hb hb2 U1 S1=>?_)
  have hl1:RS.stop { r with at':=r.at'+1 }=false:=hl
  refine aB (bF S1 (aY (aO hl1 ?_)))
  have hGd:∀ i,G i→¬ i=d:=fun i hi e=>hG i hi (.inl e)
  have A1:eD h1 G id l lv cv n x:=A.upd U1 hGd fun _ _ h=>h
  have Ua:RUc d id h0 r0 h1 { r with at':=r.at'+1 }:=⟨U.1.trans U1 fun i _ e=>.inl (.inl e),U.2⟩
  have hout:¬ aN r.outv id:=fun hs=>hG id A.g (.inr (by rw [← U.2]; exact hs))
  have hdn:¬ d=id:=fun e=>hGd id A.g e.symm
  have hc2:2 * x+b<2 ^ (n+1):=by rw [Nat.pow_succ]; omega
  have hse:=Huff.step_eq (l:=l) (n:=n+1) (c:=2 * x+b) (by omega) hc2 (by omega) (Huff.check_ok A.le A.ok)
  rw [mT hb,Infl.go_sym hsk,hse] at hF
  refine aE7 A1 hn hx hb2 fun h2 U2=>?_
  have S2:RSt L s h2 d { r with at':=r.at'+1 } out:=S1.upd U2 fun i hm e=>by
   rcases hm with hm | hm
   ·exact hdn (hm.symm.trans e)
   ·exact hout (e ▸ hm)
  have Ub:RUc d id h0 r0 h2 { r with at':=r.at'+1 }:=⟨Ua.1.trans U2 fun i _ e=>.inr e,U.2⟩
  have hin:r.at' / 8+1=(r.at'+1+7) / 8:=by omega
  cases hs:Huff.stepR l (n+1) (2 * x+b) with
  | sym i =>
   rw [hs] at hF
   simp only at hF ⊢
   intro hi A2
   simp only [cY,cX,xR]
   refine aB (aY (aB (aO rfl (aV rfl (.inl ?_)))))
   refine hq1 i h2 _ hi Ub S2 hl (by show r0.at'<r.at'+1; omega) A2 ?_
   rw [hF,hin]
  | more =>
   rw [hs] at hF hse
   simp only at hF ⊢
   intro A2
   simp only [cY,cX,xR]
   refine aB (aY (aB (aO rfl (aO rfl ?_))))
   have hlt15:=tG A.le hse
   have hm2:Huff.fst l (n+1+1)≤2 * (2 * x+b):=Huff.step_more (b:=0) hse (by omega)
   exact ih h2 _ (n+1) (2 * x+b) (by show 8 * s.length - (r.at'+1)=m; omega) Ub (by show r0.at'≤r.at'+1; omega) S2 hl (by omega) hc2 hm2 A2 hF
  | bad =>
   rw [hs] at hF
   simp only at hF ⊢
   intro A2
   simp only [cY,cX,xR]
   refine aB (aY (aB (aV rfl ?_)))
   refine eZ S2 (fun e=>by rw [show RS.stop { r with at':=r.at'+1 }=false from hl] at e; cases e) fun _ h3 U3 S3=>.inl ?_
   refine hq0 h3 { r with at':=r.at'+1,e:=2 } ⟨Ub.1.trans U3 fun i _ e=>.inl (.inl e),U.2⟩ S3 ?_
   rw [hF]
   have hsh:r.short=false:=by unfold RS.stop at hl; revert hl; cases r.short <;> simp
   exact ⟨ho,.inr (.inl ⟨hsh,rfl,rfl⟩)⟩
theorem kL {id:Nat} {l:List Nat} {lv cv:AV} {k:bP} {c:bY} {G:Nat→Prop} (hsk:k.skip=false) (ho:k.out=out) (hG:∀ i,G i→¬ dJ d r i) (S:RSt L s h d r out) (hl:r.stop=false) (A:eD h G id l lv cv 0 0)
  (hF:F=Infl.go L ((Infl.bitsOf s).drop r.at') r.at' (.wait k (.sym l 0 0) c))
  (hq0:∀ h' r',RUc d id h r h' r'→RSt L s h' d r' out→jM r' out F→Q (iN 0) h')
  (hq1:∀ i h' r',i<l.length→RUc d id h r h' r'→RSt L s h' d r' out→r'.stop=false→r.at'<r'.at'→eD h' G id l lv cv 0 0→F=Infl.go L ((Infl.bitsOf s).drop r'.at') r'.at' (Infl.settle L ((r'.at'+7) / 8) 3 (Infl.apply L ((r'.at'+7) / 8) k i c))→Q (iN i) h') :
  C Y29.id [rp d,kp id] h Q:=by
 refine Y29.call ?_
 simp only [Y29.t, ← Y29.p0.eq_1]
 refine eP (by kernel_rfl) (aY (aO rfl ?_))
 exact aAM hsk ho hG hq0 hq1 _ h r 0 0 rfl ⟨(Upd.refl _ _),rfl⟩ (Nat.le_refl _) S hl (by omega) (by decide) (Nat.le_refl _) A hF
theorem sT {p:AV} (hp:p = .p none∨∃ id,p=kp id) (S:RSt L s h d r out) (hst:r.stop=true) (hq:∀ h',Upd (· = d) h h'→RSt L s h' d r out→Q (iN 0) h'):C Y29.id [rp d,p] h Q:=by
 refine Y29.call ?_
 simp only [Y29.t, ← Y29.p0.eq_1]
 rcases hp with rfl | ⟨id,rfl⟩
 ·refine qF (by kernel_rfl) (aY (aV rfl ?_))
  exact eZ S (fun _=>.inl (hq h (Upd.refl _ _) S)) fun e=>by rw [hst] at e; cases e
 ·refine eP (by kernel_rfl) (aY (aO rfl ?_))
  refine Y29.i0 ?_
  simp only [Y29.t0]
  refine jZ S (fun _ h1 U1 S1=>?_) (fun e=>by rw [hst] at e; cases e) (fun e=>by rw [hst] at e; cases e)
  exact aB (bF S1 (aY (aV hst (.inl (hq h1 U1 S1)))))
theorem xL {h0' : aA} {n y : Nat} (hn : n ≤ 1000) : ∀ (m i : Nat) (h : aA) (v : AV) (l : List Nat), i + m = n → l.length + m ≤ 10000 → Exa h v l →
  (∀ h' v',Upd (aN v) h h'→Exa h' v' (l++List.replicate m y)→(∀ i,aN v' i→aN v i∨h.length≤i)→Q v' h')→Y30.p0 (aH h0' Q) v n y i h:=by
 intro m
 induction m with
 | zero =>
  intro i h v l hi hlen S hq
  obtain rfl:i=n:=by omega
  refine Y30.i0 ?_
  simp only [Y30.t0]
  exact aO (by simp) (.inl (hq h v (Upd.refl _ _) (by simpa using S) fun i hi=>.inl hi))
 | succ m ih =>
  intro i h v l hi hlen S hq
  refine Y30.i0 ?_
  simp only [Y30.t0, ← Y30.p0.eq_1]
  refine aV (by simp; omega) ?_
  refine dT (cs:=bB [y]) rfl rfl fun z h1 l1 U1 R1 F1=>?_
  have S1:Exa h1 v l:=S.upd U1 fun _ _ h=>h
  refine S1.app (ns:=[y]) (fun K hk=>R1.news hk) Nat.one_pos (by simp; omega) fun v2 h2 U2 S2 N2=>inc (by omega) ?_
  refine ih (i+1) h2 v2 (l++[y]) (by omega) (by simp; omega) S2 fun h3 v3 U3 S3 N3=>?_
  have hU1:=U1.1
  have hU2:=U2.1
  refine hq h3 v3 ?_ ?_ ?_
  ·refine (((U1.mono fun _ _ h => h.elim).trans U2 fun _ _ h => h)).trans U3 fun i hi hm => ?_
   rcases N2 i hm with g | g
   ·exact g
   ·omega
  ·rw [List.append_assoc] at S3
   rw [List.replicate_succ]
   exact S3
  ·intro i hi
   rcases N3 i hi with g | g
   ·rcases N2 i g with g2 | g2
    ·exact .inl g2
    ·right; omega
   ·right; omega
theorem mV {n y:Nat} {v:AV} {l:List Nat} (hn:n≤1000) (hlen:l.length+n≤10000) (S:Exa h v l) (hq:∀ h' v',Upd (aN v) h h'→Exa h' v' (l++List.replicate n y)→(∀ i,aN v' i→aN v i∨h.length≤i)→Q v' h'):C Y30.id [v,iN n,iN y] h Q:=by
 refine Y30.call ?_
 simp only [Y30.t, ← Y30.p0.eq_1]
 exact xL hn n 0 h v l (by omega) hlen S hq
theorem nM {n y:Nat} (hn:n≤1000) (hq:∀ h' v',Upd (fun _=>False) h h'→Exa h' v' (List.replicate n y)→(∀ i,aN v' i→h.length≤i)→Q v' h'):C Y30.id [.sl none 0 none,iN n,iN y] h Q:=
 mV hn (by simp; omega) (.inl ⟨rfl,rfl⟩) fun h' v' U S N=>hq h' v' (U.mono fun _ _ h=>h) (by simpa using S) fun i hi=>(N i hi).elim (fun h=>h.elim) fun h=>h
theorem aDD (hq:∀ h' v',Upd (fun _=>False) h h'→Exa h' v' Infl.fixedL→(∀ i,aN v' i→h.length≤i)→Q v' h'):C Y67.id [] h Q:=by
 refine Y67.call ?_
 simp only [Y67.t]
 refine nM (n:=144) (y:=8) (by decide) fun h1 v1 U1 S1 N1=>?_
 refine mV (n:=112) (y:=9) (by decide) (by simp) S1 fun h2 v2 U2 S2 N2=>?_
 refine mV (n:=24) (y:=7) (by decide) (by simp) S2 fun h3 v3 U3 S3 N3=>?_
 refine mV (n:=8) (y:=8) (by decide) (by simp) S3 fun h4 v4 U4 S4 N4=>?_
 have n2:∀ i,aN v2 i→h.length≤i:=fun i hi=>(N2 i hi).elim (N1 i) fun g=>Nat.le_trans U1.1 g
 have V2:Upd (fun _=>False) h h2:=U1.ownP U2 N1
 have n3:∀ i,aN v3 i→h.length≤i:=fun i hi=>(N3 i hi).elim (n2 i) fun g=>Nat.le_trans V2.1 g
 have V3:Upd (fun _=>False) h h3:=V2.ownP U3 n2
 exact .inl (hq h4 v4 (V3.ownP U4 n3) S4 fun i hi=>(N4 i hi).elim (n3 i) fun g=>Nat.le_trans V3.1 g)
omit [XR] in
theorem sN (k:bP):(Infl.block k).set:=by
 unfold Infl.block
 split
 ·trivial
 ·show 0<3; decide
omit [XR] in
theorem yL (k:bP) (n:Nat):(Infl.raw k n).set:=by
 unfold Infl.raw
 split
 ·exact sN k
 ·show 0<8; decide
def At (L:Lim) (s:List UInt8) (F:Infl.Fin) (r:RS) (out:List UInt8) (o:Out):Prop:=(r.stop=true∧jM r out F)∨(r.stop=false∧F=Infl.go L ((Infl.bitsOf s).drop r.at') r.at' o)
theorem dL {r:RS} (h:r.stop=false):r.short=false∧r.e=0:=by
 unfold RS.stop at h
 rw [Bool.or_eq_false_iff] at h
 exact ⟨h.1,by simpa using h.2⟩
theorem zF {c:UInt8} {f:bP→Out} {kl:Bool} (S:RSt L s h d r out) (hl:r.stop=false) (hset:∀ k,(f k).set)
  (hF:F=Infl.go L ((Infl.bitsOf s).drop r.at') r.at' (Infl.settle L ((r.at'+7) / 8) 3 (match Infl.putP L ((r.at'+7) / 8) ⟨out,kl,false⟩ c with | none=>.err 2 ⟨out,kl,false⟩ | some k'=>f k')))
  (hq:∀ h' r' out',RU d h r h' r'→RSt L s h' d r' out'→r'.at'=r.at'→(r'.stop=false→out'=out++[c])→At L s F r' out' (f ⟨out',kl,false⟩)→Q (.tu []) h'):C Y32.id [rp d,.i .u8 (c.toNat:Int)] h Q:=by
 obtain ⟨hsh,he⟩:=dL hl
 refine xH S (fun e=>by rw [hl] at e; cases e) (fun _ hfull h1 U1 S1=>?_) fun _ hfull h1 v U1 S1=>?_
 ·unfold Infl.putP at hF
  rw [if_pos hfull] at hF
  simp only at hF
  rw [Infl.settle_set (by trivial),Infl.go_err] at hF
  refine hq h1 { r with e:=16 } out (RU.own U1 rfl) S1 rfl (fun e=>by unfold RS.stop at e; rw [hsh] at e; cases e) (.inl ⟨by unfold RS.stop; rw [hsh] <;> rfl, ?_⟩)
  rw [hF]
  exact ⟨rfl,.inr (.inr ⟨hsh,rfl,rfl⟩)⟩
 ·unfold Infl.putP at hF
  rw [if_neg (by simp [hfull])] at hF
  simp only at hF
  rw [Infl.settle_set (hset _)] at hF
  exact hq h1 { r with outv:=v } (out++[c]) U1 S1 rfl (fun _=>rfl) (.inr ⟨hl,hF⟩)
theorem rP {h0' : aA} {n : Nat} (hn : n < 65536) {kl : Bool} : ∀ (m i : Nat) (h : aA) (r : RS) (out : List UInt8), i + m = n → RSt L s h d r out → At L s F r out (Infl.raw ⟨out, kl, false⟩ m) →
  (∀ h' r' out',RU d h r h' r'→RSt L s h' d r' out'→(r'.stop=false→r.stop=false∧r.at'≤r'.at')→At L s F r' out' (Infl.block ⟨out',kl,false⟩)→Q (.tu []) h') →
  Y4.p2 (aH h0' Q) (rp d) n i h:=by
 intro m
 induction m with
 | zero =>
  intro i h r out hi S hF hq
  obtain rfl:i=n:=by omega
  refine Y4.i2 ?_
  simp only [Y4.t2, ← Y4.p3.eq_1]
  refine aO (by simp) (Y4.i3 ?_)
  simp only [Y4.t3]
  exact aO rfl (.inl (hq h r out (RU.refl _ _ _) S (fun e=>⟨e,Nat.le_refl _⟩) hF))
 | succ m ih =>
  intro i h r out hi S hF hq
  refine Y4.i2 ?_
  simp only [Y4.t2, ← Y4.p3.eq_1]
  refine aV (by simp; omega) (bF S (aY (Y4.i3 ?_)))
  simp only [Y4.t3, ← Y4.p2.eq_1]
  rcases hF with hF | ⟨hl,hF⟩
  ·rw [hF.1]
   exact aO rfl (.inl (hq h r out (RU.refl _ _ _) S (fun e=>by rw [hF.1] at e; cases e) (.inl hF)))
  ·rw [hl]
   refine aV rfl ?_
   have hraw:Infl.raw ⟨out,kl,false⟩ (m+1) = .wait ⟨out,kl,false⟩ (.num 8 0 0) (.raw (m+1)):=by unfold Infl.raw; rw [if_neg (by omega)]
   rw [hraw] at hF
   refine fP (F:=F) (n:=8) (k:=⟨out,kl,false⟩) (c:=.raw (m+1)) (by decide) rfl S hl rfl (by rw [if_pos (by decide)]; exact hF) (fun v h1 r1 hv U1 S1 hs1 hf1=>?_) (fun v h1 r1 hv U1 S1 hs1 hle1 hlt1 hF1=>?_)
   ·refine aB ?_
    rw [uV hv]
    refine xH S1 (fun _=>?_) (fun e=>by rw [hs1] at e; cases e) (fun e=>by rw [hs1] at e; cases e)
    refine inc (by omega) ?_
    have P3:Y4.p3 (aH h0' Q) (rp d) n ((i+1:Nat):Int) false h1:=by
     refine Y4.i3 ?_
     simp only [Y4.t3]
     exact aO rfl (.inl (hq h1 r1 out U1 S1 (fun e=>by rw [hs1] at e; cases e) (.inl ⟨hs1,hf1⟩)))
    refine Y4.i2 ?_
    simp only [Y4.t2, ← Y4.p3.eq_1]
    refine aG ?_ ?_ <;> intro e
    ·refine bF S1 (aY ?_)
     rw [hs1]
     exact P3
    ·exact P3
   ·refine aB ?_
    rw [uV hv]
    refine zF (f:=fun k'=>Infl.raw k' m) (kl:=kl) S1 hs1 (fun k=>yL k m) hF1 fun h2 r2 o2 U2 S2 he2 ho2 hA2=>?_
    refine inc (by omega) ?_
    exact ih (i+1) h2 r2 o2 (by omega) S2 hA2 fun h3 r3 o3 U3 S3 hle3 hA3=>hq h3 r3 o3 ((U1.trans U2).trans U3) S3 (fun e=>⟨hl,by have:=(hle3 e).2; omega⟩) hA3
theorem rJ {h0':aA} {kl:Bool} (hq:∀ h' r',RU d h r h' r'→RSt L s h' d r' out→r'.stop=false→r.at'≤r'.at'→F=Infl.go L ((Infl.bitsOf s).drop r'.at') r'.at' (.wait ⟨out,kl,false⟩ (.num 16 0 0) .stored1)→r'.at' % 8=0→Y4.p0 (aH h0' Q) (rp d) h') :
  ∀ (m:Nat) (h1:aA) (r1:RS),(8 - r1.at' % 8) % 8=m→RU d h r h1 r1→r.at'≤r1.at'→RSt L s h1 d r1 out→r1.stop=false→F=Infl.go L ((Infl.bitsOf s).drop r1.at') r1.at' (.wait ⟨out,kl,true⟩ (.num 16 0 0) .stored1)→Y4.p0 (aH h0' Q) (rp d) h1:=by
 intro m
 induction m with
 | zero =>
  intro h1 r1 hm U hle S hl hF
  refine hq h1 r1 U S hl hle ?_ (by omega)
  rw [hF]
  have:=Infl.go_skip' (L:=L) (w:=.num 16 0 0) (c:=.stored1) (bs:=(Infl.bitsOf s).drop r1.at') (i:=r1.at') (k:=⟨out,kl,true⟩) (by unfold Infl.gap; omega) rfl
  rw [this,show Infl.gap r1.at'=0 from hm,List.drop_zero,Nat.add_zero]
 | succ m ih =>
  intro h1 r1 hm U hle S hl hF
  have hsl:=S.sl
  have hle2:=S.le
  refine Y4.i0 ?_
  simp only [Y4.t0,bG,bE, ← Y4.p0.eq_1]
  refine aE S.recd rfl rfl (aB ?_)
  refine lR (n:=((r1.at' % 8:Nat):Int)) (by decide) (by rw [Int.tmod_eq_emod_of_nonneg (by omega)]; omega) ?_
  refine aV (by simp; omega) ?_
  refine aE S.recd rfl rfl (aB (inc (by omega) ?_))
  refine aQ S.recd rfl (ltr rfl) (hk:=fun h2 l2 U2 R2=>?_)
  have hlt:r1.at'+1≤8 * s.length:=by omega
  have S2:RSt L s h2 d { r1 with at':=r1.at'+1 } out:=S.with U2 R2 rfl hlt
  refine ih h2 { r1 with at':=r1.at'+1 } (by show (8 - (r1.at'+1) % 8) % 8=m; omega) (U.trans (RU.own U2 rfl)) (by show r.at'≤r1.at'+1; omega) S2 hl ?_
  obtain ⟨b,hb⟩:∃ b,(Infl.bitsOf s)[r1.at']? = some b:=⟨_,List.getElem?_eq_getElem (by rw [Infl.bits_len]; omega)⟩
  rw [hF,mT hb,Infl.go_bit,if_pos ⟨rfl,by omega⟩]
theorem aA3 {kl : Bool} (S : RSt L s h d r out) (hl : r.stop = false) (hF : F = Infl.go L ((Infl.bitsOf s).drop r.at') r.at' (.wait ⟨out, kl, true⟩ (.num 16 0 0) .stored1))
  (hq:∀ h' r' out',RU d h r h' r'→RSt L s h' d r' out'→(r'.stop=false→r.at'≤r'.at')→At L s F r' out' (Infl.block ⟨out',kl,false⟩)→Q (.tu []) h'):C Y4.id [rp d] h Q:=by
 refine Y4.call ?_
 simp only [Y4.t, ← Y4.p0.eq_1]
 refine rJ (r:=r) (kl:=kl) (F:=F) (fun h1 r1 U1 S1 hl1 hle1 hF1 hal=>?_) _ h r rfl (RU.refl _ _ _) (Nat.le_refl _) S hl hF
 have hsl:=S1.sl
 have hle2:=S1.le
 refine Y4.i0 ?_
 simp only [Y4.t0,bG,bE]
 refine aE S1.recd rfl rfl (aB ?_)
 refine lR (n:=((r1.at' % 8:Nat):Int)) (by decide) (by rw [Int.tmod_eq_emod_of_nonneg (by omega)]; omega) ?_
 refine aO (by rw [hal] <;> rfl) ?_
 have P1:∀ (n:Nat) (h':aA) (r':RS),n<65536→RU d h r h' r'→RSt L s h' d r' out→(r'.stop=false→r.at'≤r'.at')→At L s F r' out (Infl.raw ⟨out,kl,false⟩ n)→Y4.p1 (aH h Q) (rp d) n h':=fun n h' r' hn U' S' hle' hA'=>by
  refine Y4.i1 ?_
  simp only [Y4.t1, ← Y4.p2.eq_1]
  exact rP hn n 0 h' r' out (by omega) S' hA' fun h2 r2 o2 U2 S2 hle2 hA2=>hq h2 r2 o2 (U'.trans U2) S2 (fun e=>by
   have h1:=hle2 e
   have:=hle' h1.1
   omega) hA2
 refine fP (F:=F) (n:=16) (k:=⟨out,kl,false⟩) (c:=.stored1) (by decide) rfl S1 hl1 rfl (by rw [if_pos (by decide)]; exact hF1) (fun v h2 r2 hv U2 S2 hs2 hf2=>?_) (fun v h2 r2 hv U2 S2 hs2 hle2 hlt2 hF2=>?_)
 ·refine aB (fO (by decide) hs2 S2 fun h3 U3 S3 => aB ?_)
  have hv:v<65536:=hv
  refine bR (n:=((65535 - v:Nat):Int)) (by omega) (by omega) (by omega) ?_
  have fin:∀ h',Upd (· = d) h2 h'→RSt L s h' d r2 out→Y4.p1 (aH h Q) (rp d) v h':=fun h' U' S'=>P1 v h' r2 hv ((U1.trans U2).trans (RU.own U' rfl)) S' (fun e=>by rw [hs2] at e; cases e) (.inl ⟨hs2,hf2⟩)
  refine aG ?_ ?_ <;> intro e
  ·refine eZ S3 (fun _=>fin h3 U3 S3) fun e=>by rw [hs2] at e; cases e
  ·exact fin h3 U3 S3
 ·rw [Infl.settle_set (show (Infl.apply L ((r2.at' + 7) / 8) ⟨out, kl, false⟩ v .stored1).set by show 0 < 16; decide)] at hF2
  have hv:v<65536:=hv
  refine aB (fP (F:=F) (n:=16) (k:=⟨out,kl,false⟩) (c:=.stored2 v) (by decide) rfl S2 hs2 rfl (by rw [if_pos (by decide)]; exact hF2) (fun v2 h3 r3 hv3 U3 S3 hs3 hf3=>?_) (fun v2 h3 r3 hv3 U3 S3 hs3 hle3 hlt3 hF3=>?_))
  ·refine aB ?_
   refine bR (n:=((65535 - v:Nat):Int)) (by omega) (by omega) (by omega) ?_
   have fin:Y4.p1 (aH h Q) (rp d) v h3:=P1 v h3 r3 hv ((U1.trans U2).trans U3) S3 (fun e=>by rw [hs3] at e; cases e) (.inl ⟨hs3,hf3⟩)
   refine aG ?_ ?_ <;> intro e
   ·refine eZ S3 (fun _=>fin) fun e=>by rw [hs3] at e; cases e
   ·exact fin
  ·have hv3 : v2 < 65536 := hv3
   simp only [Infl.apply] at hF3
   refine aB ?_
   refine bR (n:=((65535 - v:Nat):Int)) (by omega) (by omega) (by omega) ?_
   obtain ⟨hsh,he⟩:=dL hs3
   refine aG ?_ ?_ <;> intro e
   ·have e : ¬ v2 + v = 65535 := by simp at e; omega
    rw [if_neg e,Infl.settle_set (by trivial),Infl.go_err] at hF3
    refine eZ S3 (fun e=>by rw [hs3] at e; cases e) fun _ h4 U4 S4=>P1 v h4 { r3 with e:=2 } hv (((U1.trans U2).trans U3).trans (RU.own U4 rfl)) S4 (fun e=>by unfold RS.stop at e; rw [hsh] at e; cases e) (.inl ⟨by unfold RS.stop; rw [hsh] <;> rfl, ?_⟩)
    rw [hF3]
    exact ⟨rfl,.inr (.inl ⟨hsh,rfl,rfl⟩)⟩
   ·have e : v2 + v = 65535 := by simp at e; omega
    rw [if_pos e,Infl.settle_set (yL _ _)] at hF3
    exact P1 v h3 r3 hv ((U1.trans U2).trans U3) S3 (fun _=>by omega) (.inr ⟨hs3,hF3⟩)
end
end Go.Proofs.YtpaphfeihpgamaaDoor
namespace Go.Proofs.YtpaphfeihpgamaaDoor
open Go.GAM
open Go.Infl (bP dI bY Out Lim)
theorem aD4 {P:Program} {t:TypeId} {K:AV→Prop} (ht:lB P t=true) (hk:K (.b false)):d7 P .neq t (.p none) (.p none) K:=by
 show (bif lB P t then _ else _); rw [ht]; exact hk
theorem aAV {P:Program} {t:TypeId} {a:AA} {K:AV→Prop} (ht:lB P t=true) (hk:K (.b true)):d7 P .neq t (.p (some a)) (.p none) K:=by
 show (bif lB P t then _ else _); rw [ht]; exact hk
section
variable [XR] {h:aA} {Q:AV→aA→Prop} {L:Lim} {F:Nat→Prop} {d:Nat} {r:DR} {out:List UInt8} {told:Nat}
theorem vU {x:Nat} {c:bY} {v:AV} (O:cT h) (D:Dec L h F d r out told) (hF:∀ i,h.length≤i→F i) (hd:r.done=false) (hk:kG c=none) (hc:Clo h (Gd F d r) d 0 (.p none) c v) (hf:fit c x)
  (hq:∀ e h' r',cQ F L h F d r told (Infl.apply L r.input ⟨out,r.last,r.skip⟩ x c) e h' r'→Q (.i .i64 e) h'):bX C v [iN x] h Q:=by
 cases c with
 | block=>exact aEH D hF hd hc hf hq
 | stored1=>exact z5 D hF hd hc hf hq
 | stored2 n=>exact aAH D hF hd hc hf hq
 | raw n=>exact aG4 D hF hd hc hf hq
 | lit a b=>cases hk
 | more a b n=>exact aGA D hF hd hc hf hq
 | far a b n=>cases hk
 | farMore a b n f=>exact aBA D hF hd hc hf hq
 | dyn1=>exact aGP D hF hd hc hf hq
 | dyn2 lits=>exact aGD D hF hd hc hf hq
 | dyn3 lits dists=>exact aGV D hF hd hc hf hq
 | third l i n lits dists=>exact aEK O D hF hd hc hf hq
 | lens c l lits dists=>cases hk
 | rep c l lits dists m y=>exact aG6 D hF hd hc hf hq
theorem aDX {x ic:Nat} {sym:AV} {l:List Nat} {c:bY} {v:AV} (D:Dec L h F d r out told) (hF:∀ i,h.length≤i→F i) (hd:r.done=false) (hk:kG c=some l) (A:b6 h (Gd F d r) ic l sym 0 0) (hc:Clo h (fun i=>Gd F d r i∧i≠ic) d ic sym c v) (hf:fit c x)
  (hq:∀ e h' r',cQ F L h F d r told (Infl.apply L r.input ⟨out,r.last,r.skip⟩ x c) e h' r'→Q (.i .i64 e) h'):bX C v [iN x] h Q:=by
 cases c <;> first | (cases hk; done) | skip
 case lit a b=>cases hk; exact aHH D hF hd A hc hf hq
 case far a b n=>cases hk; exact aHA D hF hd A hc hf hq
 case lens c l lits dists=>cases hk; exact aGI D hF hd A hc hf hq
theorem iJ {x:Nat} {c:bY} {i:Nat} {k:bP} (hs:short c):(Infl.apply L i k x c).set:=by
 cases c <;> first | exact hs.elim | skip
 ·trivial
 ·simp only [Infl.apply]
  split
  ·trivial
  ·split <;> trivial
theorem jB {c:bY} {i a b:Nat} {k:bP} (hs:short c):Infl.settle L i 3 (.wait k (.num 0 a b) c)=Infl.apply L i k 0 c:=by
 show Infl.settle L i 2 (Infl.apply L i k 0 c)=_
 exact Infl.settle_set (iJ hs)
theorem behind {h0':aA} {b:Bool} {x:Int} (hx:b=true) (hq:Q (.i .i64 x) h):Y3.p2 (aH h0' Q) (dp d) x b h:=by
 refine Y3.i2 ?_
 simp only [Y3.t2]
 exact aV hx (.inl hq)
theorem pS {h0' h0 : aA} {r0 : DR} {o : Out} {e : Int} (O : cT h) (hF : ∀ i, h.length ≤ i → F i) (P : cQ F L h0 F d r0 told o e h r) (hns : o.set)
  (hq:Q (.i .i64 e) h) (K:Int→Prop) :
  (bif (!decide ((e:Int)=0)) then Y3.p2 (aH h0' Q) (dp d) e true h else
   (aU (dp d) fun v75=>aC 7 v75 fun v76=>aD v76 h fun v77=>asB v77 fun c78=>Y3.p2 (aH h0' Q) (dp d) e c78 h)):=by
 refine aG ?_ ?_ <;> intro he
 ·exact behind rfl hq
 ·have he : e = 0 := by simpa using he
  simp only [bG,bE]
  refine aE P.dec.recd rfl rfl (aY ?_)
  cases hd:r.done with
  | true=>exact behind rfl hq
  | false =>
   refine Y3.i2 ?_
   simp only [Y3.t2,bG,bE, ← Y3.p3.eq_1]
   refine aO rfl ?_
   have P3:∀ t,t=false→Y3.p3 (aH h0' Q) (dp d) t h:=fun t ht=>by
    refine Y3.i3 ?_
    simp only [Y3.t3]
    rw [← he]
    exact aO ht (.inl hq)
   have hst:=P.st
   cases o with
   | done k=>rw [hst.2] at hd; cases hd
   | err x k =>
    obtain ⟨hx,hx2,_⟩:=hst
    rw [he] at hx
    rcases hx2 with rfl | rfl <;> exact absurd hx (by decide)
   | wait k w c =>
    obtain ⟨_,_,_,_,hw,hf⟩:=hst
    cases w with
    | num need hv acc =>
     obtain ⟨_,hcode,hneed,_⟩:=hw
     refine aE P.dec.recd rfl rfl ?_
     rw [hcode]
     refine qF (by kernel_rfl) (aY (aV rfl ?_))
     refine aE P.dec.recd rfl rfl (aB (P3 _ ?_))
     rw [hneed]
     have hns:0<need:=hns
     simp; omega
    | sym l n x =>
     obtain ⟨_,ic,sym,hcode,_⟩:=hw
     refine aE P.dec.recd rfl rfl ?_
     rw [hcode]
     exact eP (by kernel_rfl) (aY (aO rfl (P3 _ rfl)))
theorem y2 {h0' h0 : aA} {r0 : DR} {o : Out} {e : Int} (hF0 : ¬ F 0) (O : cT h) (hF : ∀ i, h.length ≤ i → F i) (P : cQ F L h0 F d r0 told o e h r)
    (hq:∀ e h' r',cT h'→(Infl.settle L r0.input 3 o).set→cQ F L h0 F d r0 told (Infl.settle L r0.input 3 o) e h' r'→Q (.i .i64 e) h') :
    (bif (!decide ((e:Int)=0)) then Y3.p2 (aH h0' Q) (dp d) e true h else
      (aU (dp d) fun v75=>aC 7 v75 fun v76=>aD v76 h fun v77=>asB v77 fun c78=>Y3.p2 (aH h0' Q) (dp d) e c78 h)):=by
  by_cases hns:o.set
  · rw [Infl.settle_set hns] at hq
    exact pS O hF P hns (hq e h r O hns P) fun _=>True
  · obtain ⟨k, hv, acc, c, rfl⟩ : ∃ k hv acc c, o = .wait k (.num 0 hv acc) c := by
      cases o with
      | done k=>exact absurd trivial hns
      | err x k=>exact absurd trivial hns
      | wait k w c =>
        cases w with
        | sym l n x=>exact absurd trivial hns
        | num need hv acc =>
          have:need=0:=by
            have:¬ 0<need:=hns
            omega
          subst this
          exact ⟨k,hv,acc,c,rfl⟩
    have hst:=P.st
    obtain ⟨he,h1,h2,h3,hw,hf⟩:=hst
    obtain ⟨hco,hcode,hneed,hhv,hac,hclo⟩:=hw
    obtain ⟨_,_,f3,f4⟩:=hf
    have hsh:short c:=f3.elim (fun h=>by omega) fun h=>h.2.2
    rw [jB hsh] at hq
    subst he
    refine aO rfl ?_
    simp only [bG,bE]
    refine aE P.dec.recd rfl rfl (aY ?_)
    rw [h3]
    refine Y3.i2 ?_
    simp only [Y3.t2,bG,bE, ← Y3.p3.eq_1]
    refine aO rfl ?_
    refine aE P.dec.recd rfl rfl ?_
    rw [hcode]
    refine qF (by kernel_rfl) (aY (aV rfl ?_))
    refine aE P.dec.recd rfl rfl (aB ?_)
    rw [hneed]
    refine Y3.i3 ?_
    simp only [Y3.t3, ← Y3.p0.eq_1]
    refine aV rfl ?_
    refine Y3.i0 ?_
    simp only [Y3.t0,bG,bE, ← Y3.p2.eq_1]
    refine aE P.dec.recd rfl rfl ?_
    have hk:k=⟨k.out,r.last,r.skip⟩:=by rw [h1,h2]
    have hD:Dec L h F d r k.out told:=P.dec
    refine vU (x:=0) O hD hF h3 hco hclo (f4 0 (by decide)) fun e2 h2 r2 P2=>aB ?_
    rw [P.inp, ← hk] at P2
    have P3:cQ F L h0 F d r0 told (Infl.apply L r0.input k 0 c) e2 h2 r2:=P2.from P.upd (fun _ _ h=>h) P.keep P.inp P.bad P.rest
    have O2:cT h2:=O.upd P2.upd hF0
    exact pS O2 (fun i hi=>hF i (Nat.le_trans P2.upd.1 hi)) P3 (iJ hsh) (hq e2 h2 r2 O2 (iJ hsh) P3) fun _=>True
theorem aBI {h0' h0:aA} {r0:DR} {x:Nat} {c:bY} (hF0:¬ F 0) (O:cT h) (D:Dec L h F d r out told) (hF:∀ i,h.length≤i→F i) (hd:r.done=false) (hk:kG c=none) (hc:Clo h (Gd F d r) d 0 (.p none) c r.next) (hf:fit c x)
  (U0:Upd F h0 h) (K0:∀ i,i<h0.length→Mut d r i→Mut d r0 i) (e1:r.input=r0.input) (e2:r.bad=r0.bad) (e3:r.rest=r0.rest)
  (hq:∀ e h' r',cT h'→(Infl.settle L r0.input 3 (Infl.apply L r0.input ⟨out,r.last,r.skip⟩ x c)).set→cQ F L h0 F d r0 told (Infl.settle L r0.input 3 (Infl.apply L r0.input ⟨out,r.last,r.skip⟩ x c)) e h' r'→Q (.i .i64 e) h'):Y3.p1 (aH h0' Q) (dp d) x h:=by
 refine Y3.i1 ?_
 simp only [Y3.t1, ← Y3.p0.eq_1]
 refine Y3.i0 ?_
 simp only [Y3.t0,bG,bE, ← Y3.p2.eq_1]
 refine aE D.recd rfl rfl ?_
 refine vU O D hF hd hk hc hf fun e h1 r1 P=>aB ?_
 rw [e1] at P
 exact y2 hF0 (O.upd P.upd hF0) (fun i hi=>hF i (Nat.le_trans P.upd.1 hi)) (P.from U0 (fun _ _ h=>h) K0 e1 e2 e3) hq
theorem aAE {h0' h0:aA} {r0:DR} {x ic:Nat} {sym:AV} {l:List Nat} {c:bY} (hF0:¬ F 0) (O:cT h) (D:Dec L h F d r out told) (hF:∀ i,h.length≤i→F i) (hd:r.done=false) (hk:kG c=some l) (A:b6 h (Gd F d r) ic l sym 0 0) (hc:Clo h (fun i=>Gd F d r i∧i≠ic) d ic sym c r.next) (hf:fit c x)
  (U0:Upd F h0 h) (K0:∀ i,i<h0.length→Mut d r i→Mut d r0 i) (e1:r.input=r0.input) (e2:r.bad=r0.bad) (e3:r.rest=r0.rest)
  (hq:∀ e h' r',cT h'→(Infl.settle L r0.input 3 (Infl.apply L r0.input ⟨out,r.last,r.skip⟩ x c)).set→cQ F L h0 F d r0 told (Infl.settle L r0.input 3 (Infl.apply L r0.input ⟨out,r.last,r.skip⟩ x c)) e h' r'→Q (.i .i64 e) h'):Y3.p1 (aH h0' Q) (dp d) x h:=by
 refine Y3.i1 ?_
 simp only [Y3.t1, ← Y3.p0.eq_1]
 refine Y3.i0 ?_
 simp only [Y3.t0,bG,bE, ← Y3.p2.eq_1]
 refine aE D.recd rfl rfl ?_
 refine aDX D hF hd hk A hc hf fun e h1 r1 P=>aB ?_
 rw [e1] at P
 exact y2 hF0 (O.upd P.upd hF0) (fun i hi=>hF i (Nat.le_trans P.upd.1 hi)) (P.from U0 (fun _ _ h=>h) K0 e1 e2 e3) hq
theorem aG3 {a b k:Nat} (h:a<2 ^ k):a ||| b * 2 ^ k=a+b * 2 ^ k:=by
 rw [Nat.or_comm,Nat.mul_comm]
 have:=Nat.two_pow_add_eq_or_of_lt h b
 omega
theorem aHI {w : dI} {c : bY} {b : Nat} (hb : b < 2) (hF0 : ¬ F 0) (O : cT h) (D : Dec L h F d r out told) (hF : ∀ i, h.length ≤ i → F i) (hd : r.done = false) (hw : wG h F d r w c) (hf : xP w c) (hset : (Out.wait ⟨out, r.last, r.skip⟩ w c).set)
  (hq:∀ e h' r',cT h'→(Infl.bitP L r.input ⟨out,r.last,r.skip⟩ w c b).set→cQ F L h F d r told (Infl.bitP L r.input ⟨out,r.last,r.skip⟩ w c b) e h' r'→Q (.i .i64 e) h'):C Y3.id [dp d,iN b] h Q:=by
 refine Y3.call ?_
 simp only [Y3.t,bG,bE, ← Y3.p1.eq_1]
 refine aE D.recd rfl rfl ?_
 cases w with
 | num need hv acc =>
  obtain ⟨hco,hcode,hneed,hhv,hacc,hclo⟩:=hw
  obtain ⟨f1,f2,f3,f4⟩:=hf
  have hset:0<need:=hset
  have hlt:hv<need:=f3.elim (fun h=>h) fun h=>by omega
  rw [hcode]
  refine aD4 (by kernel_rfl) (aY (aO rfl ?_))
  refine aE D.recd rfl rfl (aB (aE D.recd rfl rfl (aB ?_)))
  rw [hacc,hhv]
  have p1:2 ^ hv≤2 ^ 16:=Nat.pow_le_pow_right (by decide) (by omega)
  have p2:b * 2 ^ hv≤1 * 2 ^ 16:=Nat.mul_le_mul (by omega) p1
  have p3:acc+b * 2 ^ hv<2 ^ (hv+1):=by
   have:b * 2 ^ hv≤1 * 2 ^ hv:=Nat.mul_le_mul_right _ (by omega)
   rw [Nat.pow_succ]; omega
  have p4:2 ^ (hv+1)≤2 ^ need:=Nat.pow_le_pow_right (by decide) (by omega)
  refine eK (by omega) (by omega) ?_
  have hor:bN .or .i64 ((acc:Nat):Int) ((b * 2 ^ hv:Nat):Int)=((acc+b * 2 ^ hv:Nat):Int):=by
   rw [y8 (by omega) (by omega),aG3 f2]
  refine aW hor ?_
  generalize hA:acc+b * 2 ^ hv=A at *
  refine aQ D.recd rfl (ltr rfl) (hk:=fun h1 l1 U1 R1=>?_)
  refine aE R1 rfl rfl (aB ?_)
  rw [hhv]
  refine inc (by omega) ?_
  refine aQ R1 rfl (ltr rfl) (hk:=fun h2 l2 U2 R2=>?_)
  have U:=U1.trans U2 fun _ _ h=>h
  have D2:Dec L h2 F d { r with acc:=A,have':=hv+1 } out told:=D.with U R2 rfl rfl rfl rfl
  have O2:cT h2:=O.upd U fun e=>hF0 (e ▸ D.f d (.inl rfl))
  have clo2:=hclo.upd (G':=Gd F d { r with acc:=A,have':=hv+1 }) U (fun i hi e=>hi.2 (.inl e)) fun _ _ h=>h
  refine aE R2 rfl rfl (aB (aE R2 rfl rfl (aB ?_)))
  rw [hneed]
  rw [Infl.bit_num] at hq
  refine aG ?_ ?_ <;> intro e
  ·have e : hv + 1 < need := by simp at e; omega
   rw [if_pos e,hA] at hq
   refine .inl (hq 0 h2 { r with acc:=A,have':=hv+1 } O2 hset ⟨U.mono fun i _ e=>D.f i (.inl e),fun _ _ h=>h,D2,rfl,rfl,rfl,rfl,rfl,rfl,hd,⟨hco,hcode,hneed,rfl,rfl,clo2⟩,f1,p3,.inl e,f4⟩)
  ·have e : ¬ hv + 1 < need := by simp at e; omega
   rw [if_neg e,hA] at hq
   refine aE R2 rfl rfl (aB ?_)
   exact aBI (r0:=r) hF0 O2 D2 (fun i hi=>hF i (by omega)) hd hco clo2 (f4 A (by omega)) (U.mono fun i _ e=>D.f i (.inl e)) (fun _ _ h=>h) rfl rfl rfl hq
 | sym l n x =>
  obtain ⟨hco,ic,sym,hcode,A,hclo⟩:=hw
  obtain ⟨f1,f2,f3⟩:=hf
  rw [hcode]
  refine aAV (by kernel_rfl) (aY (aV rfl ?_))
  refine aE D.recd rfl rfl ?_
  rw [hcode]
  rw [Infl.bit_sym] at hq
  refine aGJ A f1 f2 hb fun h1 U1=>?_
  have hne:∀ i,Mut d r i→¬ i=ic:=fun i hm e=>A.g.2 (e ▸ hm)
  have D1:Dec L h1 F d r out told:=D.upd U1 hne
  have O1:cT h1:=O.upd U1 fun e=>hF0 (e ▸ A.g.1)
  have UF:Upd F h h1:=U1.mono fun i _ e=>e ▸ A.g.1
  have clo1:=hclo.upd (G':=fun i=>Gd F d r i∧i≠ic) U1 (fun i hi e=>hi.2 e) fun _ _ h=>h
  have A1:∀ {n' x'},bD h1 ic (cW l sym n' x')→b6 h1 (Gd F d r) ic l sym n' x':=fun R=>{ A with recd:=R,syms:=A.syms.upd U1 fun i hi e=>(A.gs i hi).2.1 e,gs:=fun i hi=>⟨(A.gs i hi).1,(A.gs i hi).2.1,Nat.lt_of_lt_of_le (A.gs i hi).2.2 U1.1⟩ }
  have hF1:∀ i,h1.length≤i→F i:=fun i hi=>hF i (Nat.le_trans U1.1 hi)
  cases hs:Huff.stepP l (n+1) (2 * x+b) with
  | sym i =>
   simp only [hs] at hq ⊢
   intro R1 hi
   simp only [cY,cX,xR]
   refine aB (aY (aB (aO rfl (aO rfl ?_))))
   exact aAE hF0 O1 D1 hF1 hd hco (A1 R1) clo1 (f3 i hi) UF (fun _ _ h=>h) rfl rfl rfl hq
  | more =>
   simp only [hs] at hq ⊢
   intro R1
   simp only [cY,cX,xR]
   refine aB (aY (aB (aO rfl (aV rfl (.inl ?_)))))
   have hn1:n+1≤15:=by
    unfold Huff.stepP at hs
    split at hs
    ·cases hs
    ·split at hs
     ·have : Huff.longest l ≤ 15 := by
       rw [← fW A.le]
       have:∀ n,lg l n≤n:=by
        intro n
        induction n with
        | zero=>exact Nat.le_refl _
        | succ n ih=>unfold lg; split <;> omega
       exact this 15
      omega
     ·cases hs
   exact hq 0 h1 r O1 trivial ⟨UF,fun _ _ h=>h,D1,rfl,rfl,rfl,rfl,rfl,rfl,hd,⟨hco,ic,sym,hcode,A1 R1,clo1⟩,hn1,by rw [Nat.pow_succ]; omega,f3⟩
  | bad =>
   simp only [hs] at hq ⊢
   intro R1
   simp only [cY,cX,xR]
   refine aB (aY (aB (aV rfl (.inl ?_))))
   exact hq 2 h1 r O1 trivial ⟨UF,fun _ _ h=>h,D1,rfl,rfl,rfl,rfl,.inl rfl,hd⟩
end
end Go.Proofs.YtpaphfeihpgamaaDoor
namespace Go.Proofs.YtpaphfeihpgamaaDoor
open Go.GAM
open Go.Infl (bP dI bY Out Lim)
section
variable [XR] {h:aA} {Q:AV→aA→Prop} {L:Lim} {s:List UInt8} {d:Nat} {r:RS} {out:List UInt8} {F:Infl.Fin}
theorem aD1 {x:Nat} (h1:257≤x) (h2:x≤285) (hq:Q (.tu [iN (Infl.least x).1,iN (Infl.least x).2]) h):C Y70.id [iN x] h Q:=by
 refine Y70.call ?_
 simp only [Y70.t]
 unfold Infl.least at hq
 refine aG ?_ ?_ <;> intro e
 ·have e : x ≤ 264 := by simp at e; omega
  rw [if_pos e] at hq
  exact bR (n:=((x - 254:Nat):Int)) (by omega) (by omega) (by omega) (.inl hq)
 ·have e : ¬ x ≤ 264 := by simp at e; omega
  rw [if_neg e] at hq
  refine aG ?_ ?_ <;> intro e2
  ·have e2 : x = 285 := by simp at e2; omega
   rw [if_pos e2] at hq
   exact .inl hq
  ·have e2 : ¬ x = 285 := by simp at e2; omega
   rw [if_neg e2] at hq
   refine bR (n:=((x - 261:Nat):Int)) (by omega) (by omega) (by omega) ?_
   refine kF (n:=(((x - 261) / 4:Nat):Int)) (by decide) (by rw [Int.tdiv_eq_ediv_of_nonneg (by omega),bA (by omega) (by omega)]; omega) ?_
   refine bR (n:=((x - 265:Nat):Int)) (by omega) (by omega) (by omega) ?_
   refine lR (n:=(((x - 265) % 4:Nat):Int)) (by decide) (by rw [Int.tmod_eq_emod_of_nonneg (by omega)]; omega) ?_
   refine bR (n:=((4+(x - 265) % 4:Nat):Int)) (by omega) (by omega) (by omega) ?_
   have hp:2 ^ ((x - 261) / 4)≤2 ^ 6:=Nat.pow_le_pow_right (by decide) (by omega)
   have hm:(4+(x - 265) % 4) * 2 ^ ((x - 261) / 4)≤8 * 2 ^ 6:=Nat.mul_le_mul (by omega) hp
   rw [wrap_u64 (by omega) (by omega)]
   refine eK (by omega) (by omega) ?_
   generalize (4+(x - 265) % 4) * 2 ^ ((x - 261) / 4)=y at *
   exact bR (n:=((y+3:Nat):Int)) (by omega) (by omega) (by omega) (.inl hq)
theorem aF8 {x:Nat} (h2:x≤29) (hq:Q (.tu [iN (Infl.farOf x).1,iN (Infl.farOf x).2]) h):C Y79.id [iN x] h Q:=by
 refine Y79.call ?_
 simp only [Y79.t]
 unfold Infl.farOf at hq
 refine aG ?_ ?_ <;> intro e
 ·have e : x < 4 := by simp at e; omega
  rw [if_pos e] at hq
  exact inc (by omega) (.inl hq)
 ·have e : ¬ x < 4 := by simp at e; omega
  rw [if_neg e] at hq
  refine kF (n:=((x / 2:Nat):Int)) (by decide) (by rw [Int.tdiv_eq_ediv_of_nonneg (by omega),bA (by omega) (by omega)]; omega) ?_
  refine bR (n:=((x / 2 - 1:Nat):Int)) (by omega) (by omega) (by omega) ?_
  refine lR (n:=((x % 2:Nat):Int)) (by decide) (by rw [Int.tmod_eq_emod_of_nonneg (by omega)]; omega) ?_
  refine bR (n:=((2+x % 2:Nat):Int)) (by omega) (by omega) (by omega) ?_
  have hp:2 ^ (x / 2 - 1)≤2 ^ 13:=Nat.pow_le_pow_right (by decide) (by omega)
  have hm:(2+x % 2) * 2 ^ (x / 2 - 1)≤4 * 2 ^ 13:=Nat.mul_le_mul (by omega) hp
  rw [wrap_u64 (by omega) (by omega)]
  refine eK (by omega) (by omega) ?_
  generalize (2+x % 2) * 2 ^ (x / 2 - 1)=y at *
  exact inc (by omega) (.inl hq)
theorem RU.c {d id:Nat} {h0 h h':aA} {r0 r r':RS} (a:RU d h0 r0 h r) (b:RUc d id h r h' r') (hid:h0.length≤id):RU d h0 r0 h' r':=
 ⟨a.1.trans b.1 fun i hi hm=>hm.elim (a.2 i hi) fun e=>by omega,fun i hi hm=>a.2 i hi (by unfold dJ at *; rw [b.2] at hm; exact hm)⟩
structure rO (h:aA) (h0:aA) (d:Nat) (r:RS) (ia:Nat) (a:List Nat) (la ca:AV) (ib:Nat) (b:List Nat) (lb cb:AV):Prop where
 a:eD h (fun i=>¬ dJ d r i∧i≠ib) ia a la ca 0 0
 b:eD h (fun i=>¬ dJ d r i∧i≠ia) ib b lb cb 0 0
 na:h0.length≤ia
 nb:h0.length≤ib
theorem rO.ru {h h' h0:aA} {r r':RS} {ia ib:Nat} {a b:List Nat} {la ca lb cb:AV} (T:rO h h0 d r ia a la ca ib b lb cb) (U:RU d h r h' r'):rO h' h0 d r' ia a la ca ib b lb cb:=
 ⟨T.a.upd U.1 (fun i hi hm=>hi.1 hm) fun i hl hi=>⟨fun hm=>hi.1 (U.2 i hl hm),hi.2⟩,T.b.upd U.1 (fun i hi hm=>hi.1 hm) fun i hl hi=>⟨fun hm=>hi.1 (U.2 i hl hm),hi.2⟩,T.na,T.nb⟩
theorem kK {r r':RS} (e:r'.outv=r.outv) (i:Nat):dJ d r' i↔dJ d r i:=by unfold dJ; rw [e]
def lits (a b:List Nat) (kl:Bool) (out:List UInt8):Out:=Infl.litW ⟨out,kl,false⟩ a b
theorem aHF {h0 h0' : aA} {r0 : RS} {ia ib : Nat} {a b : List Nat} {la ca lb cb : AV} {kl : Bool} {n far : Nat} (hn : n ≤ 300) (hf0 : 0 < far)
  (hq:∀ h' r' out',RU d h0 r0 h' r'→rO h' h0 d r' ia a la ca ib b lb cb→RSt L s h' d r' out'→(r'.stop=false→r.at'≤r'.at')→At L s F r' out' (lits a b kl out')→Y2.p0 (aH h0' Q) (rp d) (kp ia) (kp ib) h') :
  ∀ (m i : Nat) (h : aA) (r1 : RS) (out : List UInt8), i + m = n → RU d h0 r0 h r1 → rO h h0 d r1 ia a la ca ib b lb cb → RSt L s h d r1 out → (r1.stop = false → r.at' ≤ r1.at') →
   (r1.stop=true∧jM r1 out F∨r1.stop=false∧far≤out.length∧F=Infl.go L ((Infl.bitsOf s).drop r1.at') r1.at' (match Infl.copyP L ((r1.at'+7) / 8) far m ⟨out,kl,false⟩ with | (k',true)=>Infl.litW k' a b | (k',false)=>.err 2 k')) →
   Y2.p3 (aH h0' Q) (rp d) (kp ia) (kp ib) n far i h:=by
 have leave:∀ (i:Int) (h:aA) (r1:RS) (out:List UInt8),RU d h0 r0 h r1→rO h h0 d r1 ia a la ca ib b lb cb→RSt L s h d r1 out→(r1.stop=false→r.at'≤r1.at')→At L s F r1 out (lits a b kl out)→Y2.p4 (aH h0' Q) (rp d) (kp ia) (kp ib) n far i false h:=fun i h r1 out U T S hle hA=>by
  refine Y2.i4 ?_
  simp only [Y2.t4, ← Y2.p0.eq_1]
  exact aO rfl (hq h r1 out U T S hle hA)
 intro m
 induction m with
 | zero =>
  intro i h r1 out hi U T S hle hF
  obtain rfl:i=n:=by omega
  refine Y2.i3 ?_
  simp only [Y2.t3, ← Y2.p4.eq_1]
  refine aO (by simp) (leave _ h r1 out U T S hle ?_)
  rcases hF with hF | ⟨hl,_,hF⟩
  ·exact .inl hF
  ·exact .inr ⟨hl,hF⟩
 | succ m ih =>
  intro i h r1 out hi U T S hle hF
  refine Y2.i3 ?_
  simp only [Y2.t3, ← Y2.p4.eq_1]
  refine aV (by simp; omega) (bF S (aY ?_))
  rcases hF with hF | ⟨hl,hfar,hF⟩
  ·rw [hF.1]
   exact leave _ h r1 out U T S hle (.inl hF)
  ·rw [hl]
   refine Y2.i4 ?_
   simp only [Y2.t4,bG,bE, ← Y2.p3.eq_1]
   refine aV rfl ?_
   have hlen:=S.len
   refine aE S.recd rfl rfl (aE S.recd rfl rfl (S.ob.rd.len ?_))
   simp only [List.length_map]
   have hfl:far≤9223372036854775807:=by omega
   refine bR (n:=((out.length - far:Nat):Int)) (by omega) (by omega) (by omega) ?_
   obtain ⟨c,hc⟩:∃ c,out[out.length - far]? = some c:=⟨_,List.getElem?_eq_getElem (by omega)⟩
   refine S.ob.rd.byte (i:=out.length - far) hc ?_
   have hg:out.getD (out.length - far) 0=c:=by rw [List.getD_eq_getElem?_getD,hc] <;> rfl
   rw [Infl.copyP] at hF
   simp only at hF
   rw [hg] at hF
   obtain ⟨hsh,he⟩:=dL hl
   refine xH S (fun e=>by rw [hl] at e; cases e) (fun _ hfull h1 U1 S1=>?_) fun _ hfull h1 v U1 S1=>?_
   ·unfold Infl.putP at hF
    rw [if_pos hfull] at hF
    simp only at hF
    rw [Infl.go_err] at hF
    have hst:RS.stop { r1 with e:=16 }=true:=by unfold RS.stop; rw [hsh] <;> rfl
    have hfit:jM { r1 with e:=16 } out F:=by rw [hF]; exact ⟨rfl,.inr (.inr ⟨hsh,rfl,rfl⟩)⟩
    have Ua:RU d h r1 h1 { r1 with e:=16 }:=RU.own U1 rfl
    refine inc (by omega) (ih (i+1) h1 { r1 with e:=16 } out (by omega) (U.trans Ua) (T.ru Ua) S1 (fun e=>by rw [hst] at e; cases e) (.inl ⟨hst,hfit⟩))
   ·unfold Infl.putP at hF
    rw [if_neg (by simp [hfull])] at hF
    refine inc (by omega) (ih (i+1) h1 { r1 with outv:=v } (out++[c]) (by omega) (U.trans U1) (T.ru U1) S1 hle (.inr ⟨hl,by simp; omega,hF⟩))
theorem rM {h0 h0' : aA} {r0 : RS} {ia ib : Nat} {a b : List Nat} {la ca lb cb : AV} {kl : Bool}
  (hq:∀ h' r' out',RU d h0 r0 h' r'→RSt L s h' d r' out'→(r'.stop=false→r0.at'≤r'.at')→At L s F r' out' (Infl.block ⟨out',kl,false⟩)→Q (.tu []) h') :
  ∀ (m : Nat) (h : aA) (r : RS) (out : List UInt8), (r.stop = false → 8 * s.length - r.at' ≤ m) → RU d h0 r0 h r → rO h h0 d r ia a la ca ib b lb cb → RSt L s h d r out → (r.stop = false → r0.at' ≤ r.at') → At L s F r out (lits a b kl out) →
   Y2.p0 (aH h0' Q) (rp d) (kp ia) (kp ib) h:=by
 intro m
 induction m with
 | zero =>
  intro h r out hm U T S hle hA
  refine Y2.i0 ?_
  simp only [Y2.t0, ← Y2.p1.eq_1]
  refine bF S (aY ?_)
  rcases hA with hA | ⟨hl,hF⟩
  ·rw [hA.1]
   exact aO rfl (.inl (hq h r out U S hle (.inl hA)))
  ·rw [hl]
   refine aV rfl ?_
   have hle2:=S.le
   refine kL (F:=F) (k:=⟨out,kl,false⟩) (c:=.lit a b) (G:=fun i=>¬ dJ d r i∧i≠ib) rfl rfl (fun i hi=>hi.1) S hl T.a hF (fun h1 r1 U1 S1 hf1=>?_) (fun i h1 r1 hi U1 S1 hs1 hlt1 A1 hF1=>?_)
   ·refine aB (bF S1 (aY ?_))
    rw [hf1.stop]
    refine aV rfl (Y2.i1 ?_)
    simp only [Y2.t1]
    exact aV rfl (.inl (hq h1 r1 out (U.c U1 T.na) S1 (fun e=>by rw [hf1.stop] at e; cases e) (.inl ⟨hf1.stop,hf1⟩)))
   ·have := S1.le
    have:=hm hl
    omega
 | succ m ih =>
  intro h r out hm U T S hle hA
  refine Y2.i0 ?_
  simp only [Y2.t0, ← Y2.p1.eq_1]
  refine bF S (aY ?_)
  rcases hA with hA | ⟨hl,hF⟩
  ·rw [hA.1]
   exact aO rfl (.inl (hq h r out U S hle (.inl hA)))
  rw [hl]
  refine aV rfl ?_
  have hle2:=S.le
  have hm:=hm hl
  have hle:=hle hl
  refine kL (F:=F) (k:=⟨out,kl,false⟩) (c:=.lit a b) (G:=fun i=>¬ dJ d r i∧i≠ib) rfl rfl (fun i hi=>hi.1) S hl T.a hF (fun h1 r1 U1 S1 hf1=>?_) (fun x h1 r1 hi U1 S1 hs1 hlt1 A1 hF1=>?_)
  ·refine aB (bF S1 (aY ?_))
   rw [hf1.stop]
   refine aV rfl (Y2.i1 ?_)
   simp only [Y2.t1]
   exact aV rfl (.inl (hq h1 r1 out (U.c U1 T.na) S1 (fun e=>by rw [hf1.stop] at e; cases e) (.inl ⟨hf1.stop,hf1⟩)))
  have hx320:x<320:=Nat.lt_of_lt_of_le hi T.a.len
  have Ua:=U.c U1 T.na
  have T1:rO h1 h0 d r1 ia a la ca ib b lb cb:=by
   have hne:ia≠ib:=T.a.g.2
   refine ⟨A1.upd (Upd.refl (fun _=>False) h1) (fun _ _ h=>h) fun i _ hi=>⟨fun hm=>hi.1 ((kK U1.2 i).1 hm),hi.2⟩,T.b.upd U1.1 (fun i hi hm=>hm.elim hi.1 hi.2) fun i _ hi=>⟨fun hm=>hi.1 ((kK U1.2 i).1 hm),hi.2⟩,T.na,T.nb⟩
  have hle1:=S1.le
  obtain ⟨hsh1,he1⟩:=dL hs1
  simp only [Infl.apply] at hF1
  refine aB (bF S1 (aY ?_))
  rw [hs1]
  refine aO rfl (Y2.i1 ?_)
  simp only [Y2.t1, ← Y2.p0.eq_1, ← Y2.p2.eq_1]
  refine aG ?_ ?_ <;> intro e256
  ·have e256 : x = 256 := by simp at e256; omega
   rw [if_neg (by omega),if_pos e256,Infl.settle_set (sN _)] at hF1
   exact .inl (hq h1 r1 out Ua S1 (fun _=>by omega) (.inr ⟨hs1,hF1⟩))
  have e256:¬ x=256:=by simp at e256; omega
  refine aG ?_ ?_ <;> intro elt
  ·have elt : x < 256 := by simp at elt; omega
   rw [if_pos elt] at hF1
   rw [uV elt]
   refine zF (f:=fun k'=>Infl.litW k' a b) (kl:=kl) S1 hs1 (fun k=>trivial) hF1 fun h2 r2 o2 U2 S2 he2 ho2 hA2=>?_
   exact ih h2 r2 o2 (fun _=>by omega) (Ua.trans U2) (T1.ru U2) S2 (fun _=>by omega) hA2
  have elt:¬ x<256:=by simp at elt; omega
  rw [if_neg elt,if_neg e256] at hF1
  refine aG ?_ ?_ <;> intro e285
  ·have e285 : 285 < x := by simp at e285; omega
   rw [if_pos e285,Infl.settle_set (by trivial),Infl.go_err] at hF1
   refine eZ S1 (fun e=>by rw [hs1] at e; cases e) fun _ h2 U2 S2=>.inl ?_
   have hst:RS.stop { r1 with e:=2 }=true:=by unfold RS.stop; rw [hsh1] <;> rfl
   refine hq h2 { r1 with e:=2 } out (Ua.trans (RU.own U2 rfl)) S2 (fun e=>by rw [hst] at e; cases e) (.inl ⟨hst, ?_⟩)
   rw [hF1]
   exact ⟨rfl,.inr (.inl ⟨hsh1,rfl,rfl⟩)⟩
  have e285:¬ 285<x:=by simp at e285; omega
  rw [if_neg e285] at hF1
  obtain ⟨b1,b2⟩:=mW x (by omega) (by omega)
  refine aD1 (by omega) (by omega) ?_
  simp only [cY,cX]
  refine aB (aB ?_)
  refine fP (F:=F) (n:=(Infl.least x).2) (k:=⟨out,kl,false⟩) (c:=.more a b (Infl.least x).1) b2 rfl S1 hs1 rfl ?_ (fun v h2 r2 hv U2 S2 hs2 hf2=>?_) (fun v h2 r2 hv U2 S2 hs2 hle2 hlt2 hF2=>?_)
  ·by_cases hz : 0 < (Infl.least x).2
   ·rw [if_pos hz,hF1,Infl.settle_set (by exact hz)]
   ·have hz : (Infl.least x).2 = 0 := by omega
    rw [if_neg (by omega),hF1,hz,jB (c:=.more a b (Infl.least x).1) trivial,Infl.settle_set (iJ (c:=.more a b (Infl.least x).1) trivial)]
  ·have stopA : ∀ (h3 : aA), Upd (· = d) h2 h3 → RSt L s h3 d r2 out → Q (.tu []) h3 := fun h3 U3 S3 => hq h3 r2 out ((Ua.trans U2).trans (RU.own U3 rfl)) S3 (fun e => by rw [hs2] at e; cases e) (.inl ⟨hs2, hf2⟩)
   refine aB (bR (n:=(((Infl.least x).1+v:Nat):Int)) (by omega) (by omega) (by omega) ?_)
   refine sT (.inr ⟨ib,rfl⟩) S2 hs2 fun h3 U3 S3=>aB (bF S3 (aY ?_))
   rw [hs2]
   exact aV rfl (.inl (stopA h3 U3 S3))
  have Ub:=Ua.trans U2
  have T2:=T1.ru U2
  have hF2':F=Infl.go L ((Infl.bitsOf s).drop r2.at') r2.at' (.wait ⟨out,kl,false⟩ (.sym b 0 0) (.far a b ((Infl.least x).1+v))):=by
   rw [hF2,Infl.settle_set (by trivial)] <;> rfl
  refine aB (bR (n:=(((Infl.least x).1+v:Nat):Int)) (by omega) (by omega) (by omega) ?_)
  have hnv:(Infl.least x).1+v≤300:=by omega
  generalize (Infl.least x).1+v=nn at hF2' hnv ⊢
  refine kL (F:=F) (k:=⟨out,kl,false⟩) (c:=.far a b nn) (G:=fun i=>¬ dJ d r2 i∧i≠ia) rfl rfl (fun i hi=>hi.1) S2 hs2 T2.b hF2' (fun h3 r3 U3 S3 hf3=>?_) (fun y h3 r3 hy U3 S3 hs3 hlt3 B3 hF3=>?_)
  ·refine aB (bF S3 (aY ?_))
   rw [hf3.stop]
   exact aV rfl (.inl (hq h3 r3 out (Ub.c U3 T.nb) S3 (fun e=>by rw [hf3.stop] at e; cases e) (.inl ⟨hf3.stop,hf3⟩)))
  have Uc:=Ub.c U3 T.nb
  have T3:rO h3 h0 d r3 ia a la ca ib b lb cb:=
   ⟨T2.a.upd U3.1 (fun i hi hm=>hm.elim hi.1 hi.2) fun i _ hi=>⟨fun hm=>hi.1 ((kK U3.2 i).1 hm),hi.2⟩,B3.upd (Upd.refl (fun _=>False) h3) (fun _ _ h=>h) fun i _ hi=>⟨fun hm=>hi.1 ((kK U3.2 i).1 hm),hi.2⟩,T.na,T.nb⟩
  obtain ⟨hsh3,he3⟩:=dL hs3
  have hle3:=S3.le
  simp only [Infl.apply] at hF3
  refine aB (bF S3 (aY ?_))
  rw [hs3]
  refine aO rfl ?_
  refine aG ?_ ?_ <;> intro e29
  ·have e29 : 29 < y := by simp at e29; omega
   rw [if_pos e29,Infl.settle_set (by trivial),Infl.go_err] at hF3
   refine eZ S3 (fun e=>by rw [hs3] at e; cases e) fun _ h4 U4 S4=>.inl ?_
   have hst:RS.stop { r3 with e:=2 }=true:=by unfold RS.stop; rw [hsh3] <;> rfl
   refine hq h4 { r3 with e:=2 } out (Uc.trans (RU.own U4 rfl)) S4 (fun e=>by rw [hst] at e; cases e) (.inl ⟨hst, ?_⟩)
   rw [hF3]
   exact ⟨rfl,.inr (.inl ⟨hsh3,rfl,rfl⟩)⟩
  have e29:¬ 29<y:=by simp at e29; omega
  rw [if_neg e29] at hF3
  obtain ⟨c0,c1,c2⟩:=tL y (by omega)
  refine aF8 (by omega) ?_
  simp only [cY,cX]
  refine aB (aB ?_)
  have copyl:∀ (far:Nat) (h4:aA) (r4:RS),0<far→RU d h0 r0 h4 r4→rO h4 h0 d r4 ia a la ca ib b lb cb→RSt L s h4 d r4 out→(r4.stop=false→r3.at'≤r4.at') →
    (r4.stop=true∧jM r4 out F∨r4.stop=false∧far≤out.length∧F=Infl.go L ((Infl.bitsOf s).drop r4.at') r4.at' (match Infl.copyP L ((r4.at'+7) / 8) far nn ⟨out,kl,false⟩ with | (k',true)=>Infl.litW k' a b | (k',false)=>.err 2 k')) →
    Y2.p2 (aH h0' Q) (rp d) (kp ia) (kp ib) nn far h4:=fun far h4 r4 hf0 U4 T4 S4 hle4 hF4=>by
   refine Y2.i2 ?_
   simp only [Y2.t2, ← Y2.p3.eq_1]
   refine aHF (r:=r3) (F:=F) (kl:=kl) (n:=nn) (far:=far) hnv hf0 (fun h5 r5 o5 U5 T5 S5 hle5 hA5=>?_) nn 0 h4 r4 out (by omega) U4 T4 S4 hle4 hF4
   exact ih h5 r5 o5 (fun e=>by have:=hle5 e; omega) U5 T5 S5 (fun e=>by have:=hle5 e; omega) hA5
  refine fP (F:=F) (n:=(Infl.farOf y).2) (k:=⟨out,kl,false⟩) (c:=.farMore a b nn (Infl.farOf y).1) c2 rfl S3 hs3 rfl ?_ (fun v2 h4 r4 hv4 U4 S4 hs4 hf4=>?_) (fun v2 h4 r4 hv4 U4 S4 hs4 hle4 hlt4 hF4=>?_)
  ·by_cases hz : 0 < (Infl.farOf y).2
   ·rw [if_pos hz,hF3,Infl.settle_set (by exact hz)]
   ·have hz : (Infl.farOf y).2 = 0 := by omega
    rw [if_neg (by omega),hF3,hz,jB (c:=.farMore a b nn (Infl.farOf y).1) trivial,Infl.settle_set (iJ (c:=.farMore a b nn (Infl.farOf y).1) trivial)]
  ·refine aB (bR (n := (((Infl.farOf y).1 + v2 : Nat) : Int)) (by omega) (by omega) (by omega) ?_)
   simp only [bG,bE]
   refine aE S4.recd rfl rfl (S4.ob.rd.len ?_)
   have fin:=copyl ((Infl.farOf y).1+v2) h4 r4 (by omega) (Uc.trans U4) (T3.ru U4) S4 (fun e=>by rw [hs4] at e; cases e) (.inl ⟨hs4,hf4⟩)
   refine aG ?_ ?_ <;> intro e
   ·exact eZ S4 (fun _=>fin) fun e=>by rw [hs4] at e; cases e
   ·exact fin
  ·have Ud := Uc.trans U4
   have T4:=T3.ru U4
   simp only [Infl.apply] at hF4
   refine aB (bR (n:=(((Infl.farOf y).1+v2:Nat):Int)) (by omega) (by omega) (by omega) ?_)
   simp only [bG,bE]
   refine aE S4.recd rfl rfl (S4.ob.rd.len ?_)
   rw [List.length_map]
   obtain ⟨hsh4,he4⟩:=dL hs4
   refine aG ?_ ?_ <;> intro e
   ·have e : out.length < (Infl.farOf y).1 + v2 := by simp at e; omega
    rw [if_pos e,Infl.settle_set (by trivial),Infl.go_err] at hF4
    have hst:RS.stop { r4 with e:=2 }=true:=by unfold RS.stop; rw [hsh4] <;> rfl
    refine eZ S4 (fun e=>by rw [hs4] at e; cases e) fun _ h5 U5 S5=>?_
    have Ue:RU d h4 r4 h5 { r4 with e:=2 }:=RU.own U5 rfl
    refine copyl _ h5 { r4 with e:=2 } (by omega) (Ud.trans Ue) (T4.ru Ue) S5 (fun e=>by rw [hst] at e; cases e) (.inl ⟨hst, ?_⟩)
    rw [hF4]
    exact ⟨rfl,.inr (.inl ⟨hsh4,rfl,rfl⟩)⟩
   ·have e : ¬ out.length < (Infl.farOf y).1 + v2 := by simp at e; omega
    rw [if_neg e] at hF4
    refine copyl _ h4 r4 (by omega) Ud T4 S4 (fun _=>hle4) (.inr ⟨hs4,by omega, ?_⟩)
    have hset:(match Infl.copyP L ((r4.at'+7) / 8) ((Infl.farOf y).1+v2) nn ⟨out,kl,false⟩ with | (k',true)=>Infl.litW k' a b | (k',false)=>Out.err 2 k').set:=by
     cases Infl.copyP L ((r4.at'+7) / 8) ((Infl.farOf y).1+v2) nn ⟨out,kl,false⟩ with
     | mk k' ok=>cases ok <;> trivial
    rw [hF4]
    exact congrArg _ (Infl.settle_set hset)
end
end Go.Proofs.YtpaphfeihpgamaaDoor
namespace Go.Proofs.YtpaphfeihpgamaaDoor
open Go.GAM
open Go.Infl (bP dI bY Out Lim)
theorem iT {k:bP} {n a b:Nat} {c:bY} (h:0<n):(Out.wait k (.num n a b) c).set:=h
theorem sK (k:bP) (a b:List Nat):(Infl.codes k a b).set:=by unfold Infl.codes; split <;> trivial
theorem qS (k:bP) (c l:List Nat) (x y:Nat):(Infl.lensW k c l x y).set:=by
 unfold Infl.lensW; split
 ·exact sK _ _ _
 ·trivial
theorem sP (k:bP) (l:List Nat) (i n x y:Nat):(Infl.thirdW k l i n x y).set:=by
 unfold Infl.thirdW; split
 ·split
  ·exact qS _ _ _ _ _
  ·trivial
 ·show 0<3; decide
theorem Exa.kind {h:aA} {v:AV} {l:List Nat} (S:Exa h v l):v.parts=[v]∧v.sizeOK=true∧v.cellOK=true:=by
 rcases S with ⟨rfl,_⟩ | ⟨id,b,rfl,_⟩ <;> exact ⟨rfl,rfl,rfl⟩
theorem Exa.store {h:aA} {v:AV} {l:List Nat} (S:Exa h v l) {k:IntKind} {i x:Nat} (hi:i<l.length) {K:aA→Prop} (hk:∀ h',h'.length=h.length→Upd (aN v) h h'→Exa h' v (l.set i x)→K h') :
  aP 1 v (.i k (i:Int)) h fun a=>aT 1 a (iN x) h K:=by
 rcases S with ⟨rfl,rfl⟩ | ⟨id,b,rfl,h1,h2,h3,h4,h5,h6⟩
 ·simp at hi
 ·have e : b.cells.length = l.length := by rw [h3, aX]
  refine ⟨by omega,by omega,⟨b,h1,by show b.floor≤l.length; omega,by omega⟩, ?_⟩
  refine ⟨b,h1,h5,h4,e.symm,by simp only [Int.toNat_natCast]; omega,rfl,rfl,rfl, ?_⟩
  refine hk _ (by simp) ((Upd.set _ _ _).mono fun i _ h=>h.symm) (.inr ⟨id,{ b with cells:=wr b.cells (0+(i:Int).toNat * 1) (iN x).parts,floor:=b.cells.length },by rw [List.length_set],List.getElem?_set_self (aM h1),h2, ?_, ?_,h5,h6⟩)
  ·show (b.cells).set (0 + (i : Int).toNat * 1) (iN x) = _
   rw [Int.toNat_natCast,Nat.mul_one,Nat.zero_add,h3,iH]
  ·show b.cells.length ≤ _
   rw [List.length_set]; omega
section
variable [XR] {h:aA} {Q:AV→aA→Prop} {L:Lim} {s:List UInt8} {d:Nat} {r:RS} {out:List UInt8} {F:Infl.Fin}
theorem RU.more {d:Nat} {h0 h h':aA} {r0 r:RS} {M:Nat→Prop} (a:RU d h0 r0 h r) (U:Upd M h h') (hM:∀ i,M i→h0.length≤i):RU d h0 r0 h' r:=
 ⟨a.1.trans U fun i hi hm=>by have:=hM i hm; omega,a.2⟩
theorem lV {n:Nat} {kl:Bool} {c:bY} (hn0:0<n) (hn:n≤16) (S:RSt L s h d r out) (hA:At L s F r out (.wait ⟨out,kl,false⟩ (.num n 0 0) c))
  (hq:∀ v h' r',v<2 ^ n→RU d h r h' r'→RSt L s h' d r' out→(r'.stop=false→r.stop=false∧r.at'<r'.at')→At L s F r' out (Infl.settle L ((r'.at'+7) / 8) 3 (Infl.apply L ((r'.at'+7) / 8) ⟨out,kl,false⟩ v c))→Q (iN v) h') :
  C Y12.id [rp d,iN n] h Q:=by
 rcases hA with hA | ⟨hl,hF⟩
 ·exact fO hn hA.1 S fun h1 U1 S1=>hq 0 h1 r (Nat.pow_pos (by decide)) (RU.own U1 rfl) S1 (fun e=>by rw [hA.1] at e; cases e) (.inl hA)
 ·exact fP (F:=F) (k:=⟨out,kl,false⟩) (c:=c) hn rfl S hl rfl (by rw [if_pos hn0]; exact hF) (fun v h1 r1 hv U1 S1 hs1 hf1=>hq v h1 r1 hv U1 S1 (fun e=>by rw [hs1] at e; cases e) (.inl ⟨hs1,hf1⟩)) fun v h1 r1 hv U1 S1 hs1 hle1 hlt1 hF1=>hq v h1 r1 hv U1 S1 (fun _=>⟨hl,hlt1 hn0⟩) (.inr ⟨hs1,hF1⟩)
theorem gE {k:bP} (ho:k.out=out) (S:RSt L s h d r out) (hA:At L s F r out (.err 1 k)) (hq:∀ h' r',RU d h r h' r'→RSt L s h' d r' out→r'.stop=true→jM r' out F→Q (.tu []) h'):C Y37.id [rp d] h Q:=by
 refine eZ S (fun e=>?_) fun hl h1 U1 S1=>?_
 ·rcases hA with hA | ⟨hl, _⟩
  ·exact hq h r (RU.refl _ _ _) S hA.1 hA.2
  ·rw [hl] at e; cases e
 ·obtain ⟨hsh, he⟩ := dL hl
  rcases hA with hA | ⟨_,hF⟩
  ·rw [hA.1] at hl; cases hl
  ·rw [Infl.go_err] at hF
   exact hq h1 { r with e:=2 } (RU.own U1 rfl) S1 (by unfold RS.stop; rw [hsh] <;> rfl) (by rw [hF]; exact ⟨ho,.inr (.inl ⟨hsh,rfl,rfl⟩)⟩)
theorem At.stop {o:Out} (hs:r.stop=true) (hA:At L s F r out o) (o':Out):At L s F r out o':=by
 rcases hA with hA | ⟨hl,_⟩
 ·exact .inl hA
 ·rw [hs] at hl; cases hl
structure mC (L:Lim) (s:List UInt8) (F:Infl.Fin) (d:Nat) (h0:aA) (r0:RS) (kl:Bool) (Q:AV→aA→Prop):Prop where
 stop:∀ h' r' out v w,RU d h0 r0 h' r'→RSt L s h' d r' out→r'.stop=true→jM r' out F→Q (.tu [v,w]) h'
 live:∀ h' r' out (a b:List Nat) va vb,RU d h0 r0 h' r'→RSt L s h' d r' out→r'.stop=false→r0.at'≤r'.at'→RdI 1 h' va (bB a) a.length→RdI 1 h' vb (bB b) b.length→(∀ i,aN va i→h0.length≤i∧i<h'.length∧¬ dJ d r' i)→(∀ i,aN vb i→h0.length≤i∧i<h'.length∧¬ dJ d r' i) →
  va.parts=[va]∧va.sizeOK=true∧va.cellOK=true→vb.parts=[vb]∧vb.sizeOK=true∧vb.cellOK=true→a.length≤320→b.length≤320→(∀ x∈a,x≤15)→(∀ x∈b,x≤15)→Huff.checkP a=0→Huff.checkP b=0→F=Infl.go L ((Infl.bitsOf s).drop r'.at') r'.at' (Infl.litW ⟨out,kl,false⟩ a b)→Q (.tu [va,vb]) h'
theorem Exa.frontS {h:aA} {v:AV} {l:List Nat} (S:Exa h v l) {n:Nat} (hn:n≤l.length) {K:AV→Prop} (hk:∀ v',RdI 1 h v' (bB (l.take n)) (l.take n).length→(∀ i,aN v' i→aN v i)→v'.parts=[v']∧v'.sizeOK=true∧v'.cellOK=true→K v'):bH 1 v none (some (.i .i64 (n:Int))) none h K:=by
 rcases S with ⟨rfl,rfl⟩ | ⟨id,b,rfl,g1,g2,g3,g4,g5,g6⟩
 ·have : n = 0 := by simpa using hn
  subst this
  exact ⟨by simp,rfl,rfl,rfl,fun h=>by simp at h,hk _ (.inl ⟨rfl,by simp,by simp [bB]⟩) (fun _ h=>h) ⟨rfl,rfl,rfl⟩⟩
 ·have e : b.cells.length = l.length := by rw [g3, aX]
  refine ⟨Nat.one_pos,fun h=>by simp at h,by omega,by simp,b,g1,by omega,by show b.floor≤l.length; omega,.inl g2,.inl (by simpa using hn), ?_⟩
  refine hk _ (.inr (.inr ⟨id,l.length,0+0 * 1,none,b, ?_,g1,by omega,by omega, ?_, ?_⟩)) (fun _ h=>h) ⟨rfl,rfl,rfl⟩
  ·simp; omega
  ·simp; omega
  ·rw [show 0 + 0 * 1 = 0 from rfl, List.drop_zero, g3]
   unfold bB
   rw [← List.map_take,Nat.mul_one,List.length_take,Nat.min_eq_left hn]
theorem Exa.backS {h:aA} {v:AV} {l:List Nat} (S:Exa h v l) {n:Nat} (hn:n≤l.length) {K:AV→Prop} (hk:∀ v',RdI 1 h v' (bB (l.drop n)) (l.drop n).length→(∀ i,aN v' i→aN v i)→v'.parts=[v']∧v'.sizeOK=true∧v'.cellOK=true→K v'):bH 1 v (some (.i .i64 (n:Int))) none none h K:=by
 rcases S with ⟨rfl,rfl⟩ | ⟨id,b,rfl,g1,g2,g3,g4,g5,g6⟩
 ·have : n = 0 := by simpa using hn
  subst this
  exact ⟨by simp,rfl,rfl,rfl,fun h=>by simp at h,hk _ (.inl ⟨rfl,rfl,rfl⟩) (fun _ h=>h) ⟨rfl,rfl,rfl⟩⟩
 ·have e : b.cells.length = l.length := by rw [g3, aX]
  refine ⟨Nat.one_pos,fun h=>by simp at h,by omega,by simpa using hn,b,g1,by omega,by show b.floor≤l.length; omega,.inl g2,.inl (Nat.le_refl _), ?_⟩
  refine hk _ (.inr (.inr ⟨id,l.length,0+((n:Int).toNat) * 1,none,b, ?_,g1,by omega,by omega, ?_, ?_⟩)) (fun _ h=>h) ⟨rfl,rfl,rfl⟩
  ·simp
  ·simp; omega
  ·rw [Int.toNat_natCast, Nat.mul_one, Nat.zero_add, Nat.mul_one, g3]
   unfold bB
   rw [← List.map_drop]
   exact List.take_of_length_le (by simp)
theorem wH {h0 h0' : aA} {r0 : RS} {lits dists : Nat} {l : List Nat} {v : AV} {kl : Bool} (hl1 : lits ≤ 288) (hl2 : dists ≤ 32) (hP : mC L s F d h0 r0 kl Q) (U : RU d h0 r0 h r) (S : RSt L s h d r out) (hle : r.stop = false → r0.at' ≤ r.at') (E : Exa h v l) (hN : ∀ i, aN v i → h0.length ≤ i ∧ ¬ dJ d r i) (h16 : ∀ x ∈ l, x < 16) (hlen : r.stop = false → l.length = lits + dists) {c : List Nat}
  (hA:At L s F r out (Infl.lensW ⟨out,kl,false⟩ c l lits dists)):Y0.p9 (aH h0' Q) (rp d) lits v h:=by
 refine Y0.i9 ?_
 simp only [Y0.t9, ← Y0.p10.eq_1]
 refine bF S (aY ?_)
 rcases hA with hA | ⟨hl,hF⟩
 ·rw [hA.1]
  exact aV rfl (.inl (hP.stop h r out _ _ U S hA.1 hA.2))
 ·rw [hl]
  have hlen:=hlen hl
  have hat:=hle hl
  refine aO rfl ?_
  unfold Infl.lensW at hF
  rw [if_pos hlen] at hF
  have hEl:∀ i,aN v i→i<h.length:=fun i hi=>E.lt hi
  have la:(l.take lits).length≤320:=by rw [List.length_take]; omega
  have lb:(l.drop lits).length≤320:=by rw [List.length_drop]; omega
  have a15:∀ x∈l.take lits,x≤15:=fun x hx=>by have:=h16 x (List.mem_of_mem_take hx); omega
  have b15:∀ x∈l.drop lits,x≤15:=fun x hx=>by have:=h16 x (List.mem_of_mem_drop hx); omega
  refine E.frontS (by omega) fun va Ra Na Ka=>?_
  have hck:∀ n,d8 n=0↔n=0:=fun n=>by
   unfold d8
   split
   ·simp
   ·simp
   ·rename_i h1 h2; simp; exact h1
  have P11:∀ (h1:aA) (r1:RS),RU d h r h1 r1→(r1.stop=true→RSt L s h1 d r1 out∧jM r1 out F)→(r1.stop=false→r1=r∧h1=h∧Huff.checkP (l.take lits)=0∧Huff.checkP (l.drop lits)=0)→Y0.p11 (aH h0' Q) lits v h1:=fun h1 r1 U1 hs hlv=>by
   have E1:Exa h1 v l:=E.upd U1.1 fun i hi hm=>(hN i hi).2 hm
   refine Y0.i11 ?_
   simp only [Y0.t11]
   refine E1.frontS (by omega) fun v1 R1 N1 K1=>E1.backS (by omega) fun v2 R2 N2 K2=>.inl ?_
   cases hr:r1.stop with
   | true =>
    obtain ⟨S1,f1⟩:=hs hr
    exact hP.stop h1 r1 out _ _ (U.trans U1) S1 hr f1
   | false =>
    obtain ⟨rfl,rfl,c1,c2⟩:=hlv hr
    refine hP.live h1 r1 out _ _ v1 v2 U S hl hat R1 R2 (fun i hi=>⟨(hN i (N1 i hi)).1,hEl i (N1 i hi),(hN i (N1 i hi)).2⟩) (fun i hi=>⟨(hN i (N2 i hi)).1,hEl i (N2 i hi),(hN i (N2 i hi)).2⟩) K1 K2 la lb a15 b15 c1 c2 ?_
    rw [hF]
    unfold Infl.codes
    rw [if_pos ⟨c1,c2⟩]
  have bad:¬ (Huff.checkP (l.take lits)=0∧Huff.checkP (l.drop lits)=0)→Y0.p10 (aH h0' Q) (rp d) lits v true h:=fun hb=>by
   refine Y0.i10 ?_
   simp only [Y0.t10, ← Y0.p11.eq_1]
   refine aV rfl ?_
   unfold Infl.codes at hF
   rw [if_neg hb] at hF
   refine gE (k:=⟨out,kl,false⟩) (F:=F) rfl S (.inr ⟨hl,hF⟩) fun h1 r1 U1 S1 hs1 hf1=>?_
   exact P11 h1 r1 U1 (fun _=>⟨S1,hf1⟩) fun e=>by rw [hs1] at e; cases e
  refine jY Ra la a15 (aB ?_)
  refine aG ?_ ?_ <;> intro e
  ·refine bad fun hh => ?_
   rw [hh.1] at e
   simp [d8] at e
  ·have e : Huff.checkP (l.take lits) = 0 := (hck _).1 (by simpa using e)
   refine E.backS (by omega) fun vb Rb Nb Kb=>?_
   refine jY Rb lb b15 (aB ?_)
   by_cases hb:Huff.checkP (l.drop lits)=0
   ·rw [hb]
    refine Y0.i10 ?_
    simp only [Y0.t10, ← Y0.p11.eq_1]
    refine aO rfl (P11 h r (RU.refl _ _ _) (fun e=>by rw [hl] at e; cases e) fun _=>⟨rfl,rfl,e,hb⟩)
   ·have : (!decide (d8 (Huff.checkP (l.drop lits)) = 0)) = true := by simp [hck, hb]
    rw [this]
    exact bad fun hh=>hb hh.2
def zK (h:aA) (A B:Nat) (d:Nat) (r:RS) (p:AV) (c:List Nat):Prop:=(p = .p none∨∃ id,p=kp id)∧(r.stop=false→∃ id lv cv,p=kp id∧eD h (fun i=>¬ dJ d r i∧A≤i∧i<B) id c lv cv 0 0∧c.length≤19)
theorem sO {h0 h0' : aA} {r0 : RS} {lits dists B : Nat} {kl : Bool} {c : List Nat} {p : AV} (hl1 : lits ≤ 288) (hl2 : dists ≤ 32) (hB : h0.length ≤ B) (hP : mC L s F d h0 r0 kl Q) :
    ∀ (m : Nat) (h : aA) (r : RS) (v : AV) (l : List Nat), (r.stop = false → lits + dists - l.length ≤ m) → RU d h0 r0 h r → RSt L s h d r out → (r.stop = false → r0.at' ≤ r.at') → Exa h v l → B ≤ h.length → (∀ i, aN v i → B ≤ i ∧ ¬ dJ d r i) → (∀ x ∈ l, x < 16) → l.length ≤ 1000 → (r.stop = false → l.length ≤ lits + dists) → zK h h0.length B d r p c →
      At L s F r out (Infl.lensW ⟨out,kl,false⟩ c l lits dists)→Y0.p5 (aH h0' Q) (rp d) lits dists p v h:=by
  have final:∀ (h:aA) (r:RS) (v:AV) (l:List Nat),RU d h0 r0 h r→RSt L s h d r out→(r.stop=false→r0.at'≤r.at')→Exa h v l→(∀ i,aN v i→B≤i∧¬ dJ d r i)→(∀ x∈l,x<16)→(r.stop=false→l.length=lits+dists)→At L s F r out (Infl.lensW ⟨out,kl,false⟩ c l lits dists)→Y0.p6 (aH h0' Q) (rp d) lits dists p v false h:=fun h r v l U S hle E hN h16 hlen hA=>by
    refine Y0.i6 ?_
    simp only [Y0.t6, ← Y0.p9.eq_1]
    exact aO rfl (wH hl1 hl2 hP U S hle E (fun i hi=>⟨Nat.le_trans hB (hN i hi).1,(hN i hi).2⟩) h16 hlen hA)
  intro m
  induction m with
  | zero =>
    intro h r v l hm U S hle E hBh hN h16 hl1000 hll hc hA
    refine Y0.i5 ?_
    simp only [Y0.t5, ← Y0.p6.eq_1]
    refine E.rd.len (bR (n:=((lits+dists:Nat):Int)) (by omega) (by omega) (by omega) ?_)
    refine aG ?_ ?_ <;> intro e
    · refine bF S (aY ?_)
      cases hs:r.stop with
      | true=>exact final h r v l U S hle E hN h16 (fun e=>by rw [hs] at e; cases e) hA
      | false=>have:=hm hs; have:=hll hs; simp at e; omega
    · exact final h r v l U S hle E hN h16 (fun hs=>by have:=hll hs; simp at e; omega) hA
  | succ m ih =>
    intro h r v l hm U S hle E hBh hN h16 hl1000 hll hc hA
    refine Y0.i5 ?_
    simp only [Y0.t5, ← Y0.p6.eq_1]
    refine E.rd.len (bR (n:=((lits+dists:Nat):Int)) (by omega) (by omega) (by omega) ?_)
    refine aG ?_ ?_ <;> intro e
    · have e : l.length < lits + dists := by simp at e; omega
      refine bF S (aY ?_)
      cases hs:r.stop with
      | true=>exact final h r v l U S hle E hN h16 (fun e=>by rw [hs] at e; cases e) hA
      | false=>
      obtain ⟨ic,lv,cv,rfl,A,hc19⟩:=hc.2 hs
      have hle:=hle hs
      rcases hA with hA | ⟨_,hF⟩
      · rw [hA.1] at hs; cases hs
      unfold Infl.lensW at hF
      rw [if_neg (by omega)] at hF
      have P7:∀ (n y:Nat) (h1:aA) (r1:RS),0<n→n≤138→y<16→RU d h0 r0 h1 r1→RSt L s h1 d r1 out→(r1.stop=false→r0.at'≤r1.at')→Exa h1 v l→B≤h1.length→(∀ i,aN v i→B≤i∧¬ dJ d r1 i)→zK h1 h0.length B d r1 (kp ic) c →
          At L s F r1 out (if lits+dists<l.length+n then .err 1 ⟨out,kl,false⟩ else Infl.lensW ⟨out,kl,false⟩ c (l++List.replicate n y) lits dists)→Y0.p7 (aH h0' Q) (rp d) lits dists (kp ic) v y n h1:=fun n y h1 r1 hn0 hn hy U1 S1 hle1 E1 hB1 hN1 hc1 hA1=>by
        have P8:∀ (h2:aA) (r2:RS),RU d h0 r0 h2 r2→RSt L s h2 d r2 out→(r2.stop=false→r0.at'≤r2.at')→Exa h2 v l→B≤h2.length→(∀ i,aN v i→B≤i∧¬ dJ d r2 i)→zK h2 h0.length B d r2 (kp ic) c→(r2.stop=false→l.length+n≤lits+dists)→At L s F r2 out (Infl.lensW ⟨out,kl,false⟩ c (l++List.replicate n y) lits dists)→Y0.p8 (aH h0' Q) (rp d) lits dists (kp ic) v y n h2:=fun h2 r2 U2 S2 hle2 E2 hB2 hN2 hc2 hl2' hA2=>by
          refine Y0.i8 ?_
          simp only [Y0.t8, ← Y0.p5.eq_1]
          refine mV (by omega) (by omega) E2 fun h3 v3 U3 S3 N3=>?_
          have hvn:∀ i,aN v i→h0.length≤i:=fun i hi=>Nat.le_trans hB (hN2 i hi).1
          refine ih h3 r2 v3 (l++List.replicate n y) (fun e=>?_) (U2.more U3 hvn) (S2.upd U3 fun i hm hi=>(hN2 i hi).2 hm) hle2 S3 (Nat.le_trans hB2 U3.1) (fun i hi=>?_) (fun x hx=>?_) (by simp; omega) (fun e=>by simp; exact hl2' e) ⟨hc2.1,fun e=>?_⟩ hA2
          · have := hl2' e
            rw [List.length_append,List.length_replicate]
            have:=hm hs
            omega
          · rcases N3 i hi with g | g
            · exact hN2 i g
            · exact ⟨by omega,fun hm=>by have:=S2.lt hm; omega⟩
          · rcases List.mem_append.1 hx with g | g
            · exact h16 x g
            · rw [(List.mem_replicate.1 g).2]; exact hy
          · obtain ⟨id, lv', cv', e1, A', e2⟩ := hc2.2 e
            exact ⟨id,lv',cv',e1,A'.upd U3 (fun i hi hm=>by have:=(hN2 i hm).1; omega) fun i _ hi=>hi,e2⟩
        refine Y0.i7 ?_
        simp only [Y0.t7, ← Y0.p8.eq_1]
        refine E1.rd.len (bR (n:=((l.length+n:Nat):Int)) (by omega) (by omega) (by omega) (bR (n:=((lits+dists:Nat):Int)) (by omega) (by omega) (by omega) ?_))
        refine aG ?_ ?_ <;> intro e1
        · have e1 : lits + dists < l.length + n := by simp at e1; omega
          rw [if_pos e1] at hA1
          refine gE (k:=⟨out,kl,false⟩) (F:=F) rfl S1 hA1 fun h2 r2 U2 S2 hs2 hf2=>?_
          refine P8 h2 r2 (U1.trans U2) S2 (fun e=>by rw [hs2] at e; cases e) (E1.upd U2.1 fun i hi hm=>(hN1 i hi).2 hm) (Nat.le_trans hB1 U2.1.1) (fun i hi=>⟨(hN1 i hi).1,fun hm=>(hN1 i hi).2 (U2.2 i (E1.lt hi) hm)⟩) ⟨hc1.1,fun e=>by rw [hs2] at e; cases e⟩ (fun e=>by rw [hs2] at e; cases e) (.inl ⟨hs2,hf2⟩)
        · have e1 : ¬ lits + dists < l.length + n := by simp at e1; omega
          rw [if_neg e1] at hA1
          exact P8 h1 r1 U1 S1 hle1 E1 hB1 hN1 hc1 (fun _=>by omega) hA1
      refine Y0.i6 ?_
      simp only [Y0.t6, ← Y0.p7.eq_1, ← Y0.p9.eq_1]
      refine aV rfl ?_
      have keepN:∀ {h1:aA} {r1:RS},r1.outv=r.outv→∀ i,aN v i→B≤i∧¬ dJ d r1 i:=fun {h1 r1} e i hi=>⟨(hN i hi).1,fun hm=>(hN i hi).2 ((kK e i).1 hm)⟩
      have hicB:ic<B:=A.g.2.2
      have eN:∀ {h1:aA} {r1:RS},RUc d ic h r h1 r1→Exa h1 v l:=fun {h1 r1} U1=>E.upd U1.1 fun i hi hm=>hm.elim (hN i hi).2 fun e=>by have:=(hN i hi).1; omega
      refine kL (F:=F) (k:=⟨out,kl,false⟩) (c:=.lens c l lits dists) (G:=fun i=>¬ dJ d r i∧h0.length≤i∧i<B) rfl rfl (fun i hi=>hi.1) S hs A hF (fun h1 r1 U1 S1 hf1=>?_) (fun x h1 r1 hx U1 S1 hs1 hlt1 A1 hF1=>?_)
      ·
        refine aB (aO rfl (aO rfl (aO rfl ?_)))
        exact P7 1 0 h1 r1 (by decide) (by decide) (by decide) (U.c U1 A.g.2.1) S1 (fun e=>by rw [hf1.stop] at e; cases e) (eN U1) (Nat.le_trans hBh U1.1.1) (keepN (h1:=h1) U1.2) ⟨.inr ⟨ic,rfl⟩,fun e=>by rw [hf1.stop] at e; cases e⟩ (.inl ⟨hf1.stop,hf1⟩)
      · have hx19 : x < 19 := by omega
        have Ua:=U.c U1 A.g.2.1
        have E1:=eN U1
        have N1:=keepN (h1:=h1) U1.2
        have hB1:=Nat.le_trans hBh U1.1.1
        have A1':eD h1 (fun i=>¬ dJ d r1 i∧h0.length≤i∧i<B) ic c lv cv 0 0:=A1.upd (Upd.refl (fun _=>False) h1) (fun _ _ h=>h) fun i _ hi=>⟨fun hm=>hi.1 ((kK U1.2 i).1 hm),hi.2⟩
        have C1:zK h1 h0.length B d r1 (kp ic) c:=⟨.inr ⟨ic,rfl⟩,fun _=>⟨ic,lv,cv,rfl,A1',hc19⟩⟩
        simp only [Infl.apply] at hF1
        have more:∀ (bits mm y:Nat) (K:Int→aA→Prop),0<bits→bits≤7→0<mm→mm+2 ^ bits≤139→y<16→F=Infl.go L ((Infl.bitsOf s).drop r1.at') r1.at' (.wait ⟨out,kl,false⟩ (.num bits 0 0) (.rep c l lits dists mm y)) →
            (∀ (w:Nat) (h2:aA),w<2 ^ bits→Exa h2 v l→Y0.p7 (aH h0' Q) (rp d) lits dists (kp ic) v y ((mm+w:Nat):Int) h2→K w h2) →
            C Y12.id [rp d,iN bits] h1 fun v1 h2=>asI .i64 v1 fun n=>K n h2:=fun bits mm y K hb0 hb hm0 hmb hy hF2 hK=>by
          refine lV (F:=F) (kl:=kl) (c:=.rep c l lits dists mm y) hb0 (by omega) S1 (.inr ⟨hs1,hF2⟩) fun w h2 r2 hw U2 S2 hl2 hA2=>aB ?_
          have E2:Exa h2 v l:=E1.upd U2.1 fun i hi hm=>(N1 i hi).2 hm
          refine hK w h2 hw E2 ?_
          refine P7 (mm+w) y h2 r2 (by omega) (by omega) hy (Ua.trans U2) S2 (fun e=>by have:=hl2 e; omega) E2 (Nat.le_trans hB1 U2.1.1) (fun i hi=>⟨(N1 i hi).1,fun hm=>(N1 i hi).2 (U2.2 i (E1.lt hi) hm)⟩) ⟨.inr ⟨ic,rfl⟩,fun _=>⟨ic,lv,cv,rfl,A1'.upd U2.1 (fun i hi hm=>hi.1 hm) fun i hl hi=>⟨fun hm=>hi.1 (U2.2 i hl hm),hi.2⟩,hc19⟩⟩ ?_
          rcases hA2 with hA2 | ⟨hs2,hF3⟩
          · exact .inl hA2
          · refine .inr ⟨hs2, ?_⟩
            simp only [Infl.apply] at hF3
            rw [hF3]
            refine congrArg _ (Infl.settle_set ?_)
            split
            · trivial
            · exact qS _ _ _ _ _
        refine aB ?_
        refine aG ?_ ?_ <;> intro e16
        · have e16 : x = 16 := by simp at e16; omega
          rw [if_neg (by omega),if_pos e16] at hF1
          refine E1.rd.len ?_
          refine aG ?_ ?_ <;> intro e0
          · have e0 : l = [] := List.eq_nil_of_length_eq_zero (by simp at e0; simpa using e0)
            rw [if_pos e0,Infl.settle_set (by trivial)] at hF1
            refine gE (k:=⟨out,kl,false⟩) (F:=F) rfl S1 (.inr ⟨hs1,hF1⟩) fun h2 r2 U2 S2 hs2 hf2=>?_
            exact wH (l:=l) (c:=c) hl1 hl2 hP (Ua.trans U2) S2 (fun e=>by rw [hs2] at e; cases e) (E1.upd U2.1 fun i hi hm=>(N1 i hi).2 hm) (fun i hi=>⟨Nat.le_trans hB (N1 i hi).1,fun hm=>(N1 i hi).2 (U2.2 i (E1.lt hi) hm)⟩) h16 (fun e=>by rw [hs2] at e; cases e) (.inl ⟨hs2,hf2⟩)
          · have e0 : l ≠ [] := fun e => by rw [e] at e0; simp at e0
            rw [if_neg e0,Infl.settle_set (iT (n:=2) (by decide))] at hF1
            have hpos:0<l.length:=List.length_pos_iff.2 e0
            have hlast:l[l.length - 1]? = some (l.getLastD 0):=by
              rw [List.getLastD_eq_getLast?,List.getLast?_eq_getElem?]
              rw [List.getElem?_eq_getElem (by omega)] <;> rfl
            refine more 2 3 (l.getLastD 0) _ (by decide) (by decide) (by decide) (by decide) (h16 _ (List.mem_of_getElem? hlast)) hF1 fun w h2 hw E2 hp7=>?_
            refine bR (n:=((3+w:Nat):Int)) (by omega) (by omega) (by omega) (E2.rd.len ?_)
            refine bR (n:=((l.length - 1:Nat):Int)) (by omega) (by omega) (by omega) ?_
            exact cN E2.rd.i hlast hp7
        · have e16 : ¬ x = 16 := by simp at e16; omega
          refine aG ?_ ?_ <;> intro e17
          · have e17 : x = 17 := by simp at e17; omega
            rw [if_neg (by omega),if_neg e16,if_pos e17,Infl.settle_set (iT (n:=3) (by decide))] at hF1
            refine more 3 3 0 _ (by decide) (by decide) (by decide) (by decide) (by decide) hF1 fun w h2 hw E2 hp7=>?_
            exact bR (n:=((3+w:Nat):Int)) (by omega) (by omega) (by omega) hp7
          · have e17 : ¬ x = 17 := by simp at e17; omega
            refine aG ?_ ?_ <;> intro e18
            · have e18 : x = 18 := by simp at e18; omega
              rw [if_neg (by omega),if_neg e16,if_neg e17,Infl.settle_set (iT (n:=7) (by decide))] at hF1
              refine more 7 11 0 _ (by decide) (by decide) (by decide) (by decide) (by decide) hF1 fun w h2 hw E2 hp7=>?_
              exact bR (n:=((11+w:Nat):Int)) (by omega) (by omega) (by omega) hp7
            · have e18 : ¬ x = 18 := by simp at e18; omega
              have hx16:x<16:=by omega
              rw [if_pos hx16,Infl.settle_set (qS _ _ _ _ _)] at hF1
              refine P7 1 x h1 r1 (by decide) (by decide) hx16 Ua S1 (fun _=>by omega) E1 hB1 N1 C1 (.inr ⟨hs1, ?_⟩)
              rw [if_neg (by omega)]
              exact hF1
    · exact final h r v l U S hle E hN h16 (fun hs=>by have:=hll hs; simp at e; omega) hA
end
end Go.Proofs.YtpaphfeihpgamaaDoor
namespace Go.Proofs.YtpaphfeihpgamaaDoor
open Go.GAM
open Go.Infl (bP dI bY Out Lim)
section
variable [XR] {h:aA} {Q:AV→aA→Prop} {L:Lim} {s:List UInt8} {d:Nat} {r:RS} {out:List UInt8} {F:Infl.Fin}
theorem s0 {h0 h0':aA} {r0:RS} {lits dists:Nat} {c:List Nat} {v:AV} {kl:Bool} (hl1:lits≤288) (hl2:dists≤32) (hP:mC L s F d h0 r0 kl Q) (U:RU d h0 r0 h r) (S:RSt L s h d r out) (hle:r.stop=false→r0.at'≤r.at') (E:Exa h v c) (hN:∀ i,aN v i→h0.length≤i∧¬ dJ d r i) (hc19:c.length=19) (h8:∀ x∈c,x<8)
  (hA:At L s F r out (Infl.lensW ⟨out,kl,false⟩ c [] lits dists)) (hck:r.stop=false→Huff.checkP c=0):Y0.p4 (aH h0' Q) (rp d) lits dists v h:=by
 have c15:∀ x∈c,x≤15:=fun x hx=>by have:=h8 x hx; omega
 have hU1:=U.1.1
 refine Y0.i4 ?_
 simp only [Y0.t4, ← Y0.p5.eq_1]
 refine oB E.rd.i (fun i hi=>E.lt hi) E.kind (by omega) c15 (fun hn e=>?_) fun hok h1 id cv V A hid hcv=>?_
 ·simp only [cY, cX]
  refine aB ?_
  have hs:r.stop=true:=by
   cases hs:r.stop with
   | true=>rfl
   | false=>exact absurd (hck hs) hn
  exact sO (c:=c) (B:=h.length) hl1 hl2 hU1 hP (lits+dists) h r _ [] (fun e=>by rw [hs] at e; cases e) U S hle (.inl ⟨rfl,rfl⟩) (Nat.le_refl _) (fun _ h=>h.elim) (fun x hx=>by cases hx) (by simp) (fun e=>by rw [hs] at e; cases e) ⟨.inl rfl,fun e=>by rw [hs] at e; cases e⟩ hA
 ·simp only [cY, cX]
  refine aB ?_
  have hV:=V.1
  refine sO (c:=c) (B:=h1.length) hl1 hl2 (by omega) hP (lits+dists) h1 r _ [] (fun _=>Nat.le_refl _) (U.more V fun _ h=>h.elim) (S.upd V fun _ _ h=>h) hle (.inl ⟨rfl,rfl⟩) (Nat.le_refl _) (fun _ h=>h.elim) (fun x hx=>by cases hx) (by simp) (fun _=>Nat.zero_le _) ⟨.inr ⟨id,rfl⟩,fun _=>⟨id,v,cv,rfl, ?_,by omega⟩⟩ hA
  refine A.upd (Upd.refl (fun _=>False) h1) (fun _ _ h=>h) fun i hl hi=>?_
  rcases hi with hi | hi
  ·exact ⟨(hN i hi).2,(hN i hi).1,hl⟩
  ·exact ⟨fun hm=>by have:=S.lt hm; omega,by omega,hl⟩
theorem aFN {h0 h0' : aA} {r0 : RS} {lits dists n : Nat} {v7 v8 : AV} {kl : Bool} (hl1 : lits ≤ 288) (hl2 : dists ≤ 32) (hn : n ≤ 19) (hP : mC L s F d h0 r0 kl Q) :
  ∀ (m i : Nat) (h : aA) (r : RS) (c : List Nat), i + m = n → RU d h0 r0 h r → RSt L s h d r out → (r.stop = false → r0.at' ≤ r.at') → RdI 1 h v7 (bB Infl.order) 19 → (∀ i, aN v7 i → h0.length ≤ i ∧ ¬ dJ d r i ∧ ¬ aN v8 i ∧ i < h.length) → Exa h v8 c → (∀ i, aN v8 i → h0.length ≤ i ∧ ¬ dJ d r i) → c.length = 19 → (∀ x ∈ c, x < 8) →
   At L s F r out (Infl.thirdW ⟨out,kl,false⟩ c i n lits dists)→Y0.p2 (aH h0' Q) (rp d) lits dists n v7 v8 i h:=by
 intro m
 induction m with
 | zero =>
  intro i h r c hi U S hle R7 N7 E8 N8 hc19 h8 hA
  obtain rfl:i=n:=by omega
  have c15:∀ x∈c,x≤15:=fun x hx=>by have:=h8 x hx; omega
  refine Y0.i2 ?_
  simp only [Y0.t2, ← Y0.p3.eq_1]
  refine aO (by simp) (bF S (aY ?_))
  cases hs:r.stop with
  | true =>
   refine aO rfl (Y0.i3 ?_)
   simp only [Y0.t3, ← Y0.p4.eq_1]
   exact aO rfl (s0 (c:=c) (out:=out) hl1 hl2 hP U S hle E8 N8 hc19 h8 (At.stop hs hA _) fun e=>by rw [hs] at e; cases e)
  | false =>
   rcases hA with hA | ⟨_,hF⟩
   ·rw [hA.1] at hs; cases hs
   unfold Infl.thirdW at hF
   rw [if_pos rfl] at hF
   refine aV rfl (jY E8.rd.i (by omega) c15 (aB (Y0.i3 ?_)))
   simp only [Y0.t3, ← Y0.p4.eq_1]
   by_cases hok:Huff.checkP c=0
   ·rw [if_pos hok] at hF
    rw [hok]
    exact aO rfl (s0 (c:=c) (out:=out) hl1 hl2 hP U S hle E8 N8 hc19 h8 (.inr ⟨hs,hF⟩) fun _=>hok)
   ·rw [if_neg hok] at hF
    have hne:(!decide (d8 (Huff.checkP c)=0))=true:=by
     have:d8 (Huff.checkP c)≠0:=by
      unfold d8
      split
      ·contradiction
      ·decide
      ·decide
     simp [this]
    refine aV hne (gE (k:=⟨out,kl,false⟩) (F:=F) rfl S (.inr ⟨hs,hF⟩) fun h1 r1 U1 S1 hs1 hf1=>?_)
    exact s0 (c:=c) (out:=out) hl1 hl2 hP (U.trans U1) S1 (fun e=>by rw [hs1] at e; cases e) (E8.upd U1.1 fun i hi hm=>(N8 i hi).2 hm) (fun i hi=>⟨(N8 i hi).1,fun hm=>(N8 i hi).2 (U1.2 i (E8.lt hi) hm)⟩) hc19 h8 (.inl ⟨hs1,hf1⟩) fun e=>by rw [hs1] at e; cases e
 | succ m ih =>
  intro i h r c hi U S hle R7 N7 E8 N8 hc19 h8 hA
  obtain ⟨o1,o2⟩:=uS i (by omega)
  refine Y0.i2 ?_
  simp only [Y0.t2, ← Y0.p2.eq_1]
  refine aV (by simp; omega) ?_
  have hget:(bB Infl.order)[i * 1+0]? = some (iN (Infl.order.getD i 0)):=by rw [Nat.mul_one,Nat.add_zero]; exact gD o1
  rw [aCY R7 (by omega) (by omega),Int.toNat_natCast,aBX R7 (by omega) Nat.one_pos hget]
  refine aB ?_
  have hthird:Infl.thirdW ⟨out,kl,false⟩ c i n lits dists = .wait ⟨out,kl,false⟩ (.num 3 0 0) (.third c i n lits dists):=by unfold Infl.thirdW; rw [if_neg (by omega)]
  rw [hthird] at hA
  refine lV (n:=3) (F:=F) (kl:=kl) (c:=.third c i n lits dists) (by decide) (by decide) S hA fun v h1 r1 hv U1 S1 hl1' hA1=>aB ?_
  have hv8:v<8:=hv
  have R71:RdI 1 h1 v7 (bB Infl.order) 19:=R7.upd U1.1 fun i hi hm=>(N7 i hi).2.1 hm
  have E81:Exa h1 v8 c:=E8.upd U1.1 fun i hi hm=>(N8 i hi).2 hm
  rw [aBX R71 (by omega) Nat.one_pos hget]
  refine aB ⟨rfl, ?_⟩
  rw [aCY R71 (by omega) (by omega),Int.toNat_natCast]
  refine ⟨rfl, ?_⟩
  refine E81.store (by omega) fun h2 l2 U2 E82=>inc (by omega) ?_
  refine ih (i+1) h2 r1 (c.set (Infl.order.getD i 0) v) (by omega) ((U.trans U1).more U2 fun i hi=>(N8 i hi).1) (S1.upd U2 fun i hm hi=>(N8 i hi).2 (U1.2 i (E8.lt hi) hm)) (fun e=>?_) (R71.upd U2 fun i hi hm=>(N7 i hi).2.2.1 hm) (fun i hi=>⟨(N7 i hi).1,fun hm=>(N7 i hi).2.1 (U1.2 i (N7 i hi).2.2.2 hm),(N7 i hi).2.2.1,by have:=(N7 i hi).2.2.2; have:=U1.1.1; omega⟩) E82 (fun i hi=>⟨(N8 i hi).1,fun hm=>(N8 i hi).2 (U1.2 i (E8.lt hi) hm)⟩) (by rw [List.length_set]; exact hc19) (fun x hx=>?_) ?_
  ·have := hl1' e
   have:=hle this.1
   omega
  ·rcases List.mem_or_eq_of_mem_set hx with g | g
   ·exact h8 x g
   ·rw [g]; exact hv8
  ·rcases hA1 with hA1 | ⟨hs1, hF1⟩
   ·exact .inl hA1
   ·refine .inr ⟨hs1, ?_⟩
    simp only [Infl.apply] at hF1
    rw [Infl.settle_set (sP _ _ _ _ _ _)] at hF1
    exact hF1
theorem aGS {kl : Bool} (S : RSt L s h d r out) (hA : At L s F r out (.wait ⟨out, kl, false⟩ (.num 5 0 0) .dyn1)) (hP : mC L s F d h r kl Q) : C Y0.id [rp d] h Q := by
 have P1:∀ (lits dists:Nat) (h1:aA) (r1:RS),lits≤288→dists≤32→RU d h r h1 r1→RSt L s h1 d r1 out→(r1.stop=false→r.at'≤r1.at')→At L s F r1 out (.wait ⟨out,kl,false⟩ (.num 4 0 0) (.dyn3 lits dists))→Y0.p1 (aH h Q) (rp d) lits dists h1:=fun lits dists h1 r1 hl1 hl2 U1 S1 hle1 hA1=>by
  refine Y0.i1 ?_
  simp only [Y0.t1, ← Y0.p2.eq_1]
  refine lV (n:=4) (F:=F) (kl:=kl) (c:=.dyn3 lits dists) (by decide) (by decide) S1 hA1 fun v h2 r2 hv U2 S2 hl2' hA2=>aB ?_
  have hv:v<16:=hv
  refine bR (n:=((v+4:Nat):Int)) (by omega) (by omega) (by omega) ?_
  refine dT (cs:=bB Infl.order) rfl rfl fun v7 h3 l3 U3 R3 F3=>?_
  refine nM (n:=19) (y:=0) (by decide) fun h4 v8 U4 E4 N4=>?_
  have hU1:=U1.1.1
  have hU2:=U2.1.1
  have hU4:=U4.1
  have S3:RSt L s h4 d r2 out:=(S2.upd U3 fun _ _ h=>h).upd U4 fun _ _ h=>h
  have R4:=R3.i.ext U4
  refine aFN (n:=v+4) (out:=out) hl1 hl2 (by omega) hP (v+4) 0 h4 r2 (List.replicate 19 0) (by omega) (((U1.trans U2).more U3 fun _ h=>h.elim).more U4 fun _ h=>h.elim) S3 (fun e=>?_) R4 (fun i hi=>?_) E4 (fun i hi=>⟨by have:=N4 i hi; omega,fun hm=>by have:=N4 i hi; have:=S2.lt hm; omega⟩) (by simp) (fun x hx=>by rw [(List.mem_replicate.1 hx).2]; decide) ?_
  ·have := hl2' e
   have:=hle1 this.1
   omega
  ·have hlt : i < h3.length := R3.lt hi
   have hge:h2.length≤i:=F3 i hi
   exact ⟨by omega,fun hm=>by have:=S2.lt hm; omega,fun h8=>by have:=N4 i h8; omega,by omega⟩
  ·rcases hA2 with hA2 | ⟨hs2, hF2⟩
   ·exact .inl hA2
   ·refine .inr ⟨hs2, ?_⟩
    simp only [Infl.apply] at hF2
    rw [Infl.settle_set (sP _ _ _ _ _ _)] at hF2
    exact hF2
 have P0:∀ (lits:Nat) (h1:aA) (r1:RS),lits≤288→RU d h r h1 r1→RSt L s h1 d r1 out→(r1.stop=false→r.at'≤r1.at')→At L s F r1 out (.wait ⟨out,kl,false⟩ (.num 5 0 0) (.dyn2 lits))→Y0.p0 (aH h Q) (rp d) lits h1:=fun lits h1 r1 hl1 U1 S1 hle1 hA1=>by
  refine Y0.i0 ?_
  simp only [Y0.t0, ← Y0.p1.eq_1]
  refine lV (n:=5) (F:=F) (kl:=kl) (c:=.dyn2 lits) (by decide) (by decide) S1 hA1 fun v h2 r2 hv U2 S2 hl2' hA2=>aB ?_
  have hv:v<32:=hv
  have hle2:r2.stop=false→r.at'≤r2.at':=fun e=>by have:=hl2' e; have:=hle1 this.1; omega
  refine bR (n:=((v+1:Nat):Int)) (by omega) (by omega) (by omega) ?_
  simp only [Infl.apply] at hA2
  refine aG ?_ ?_ <;> intro e
  ·have e : 30 < v + 1 := by simp at e; omega
   rw [if_pos e,Infl.settle_set (by trivial)] at hA2
   refine gE (k:=⟨out,kl,false⟩) (F:=F) rfl S2 hA2 fun h3 r3 U3 S3 hs3 hf3=>?_
   exact P1 lits (v+1) h3 r3 hl1 (by omega) ((U1.trans U2).trans U3) S3 (fun e=>by rw [hs3] at e; cases e) (.inl ⟨hs3,hf3⟩)
  ·have e : ¬ 30 < v + 1 := by simp at e; omega
   rw [if_neg e,Infl.settle_set (iT (n:=4) (by decide))] at hA2
   exact P1 lits (v+1) h2 r2 hl1 (by omega) (U1.trans U2) S2 hle2 hA2
 refine Y0.call ?_
 simp only [Y0.t, ← Y0.p0.eq_1]
 refine lV (n:=5) (F:=F) (kl:=kl) (c:=.dyn1) (by decide) (by decide) S hA fun v h2 r2 hv U2 S2 hl2' hA2=>aB ?_
 have hv:v<32:=hv
 have hle2:r2.stop=false→r.at'≤r2.at':=fun e=>by have:=hl2' e; omega
 refine bR (n:=((v+257:Nat):Int)) (by omega) (by omega) (by omega) ?_
 simp only [Infl.apply] at hA2
 refine aG ?_ ?_ <;> intro e
 ·have e : 286 < v + 257 := by simp at e; omega
  rw [if_pos e,Infl.settle_set (by trivial)] at hA2
  refine gE (k:=⟨out,kl,false⟩) (F:=F) rfl S2 hA2 fun h3 r3 U3 S3 hs3 hf3=>?_
  exact P0 (v+257) h3 r3 (by omega) (U2.trans U3) S3 (fun e=>by rw [hs3] at e; cases e) (.inl ⟨hs3,hf3⟩)
 ·have e : ¬ 286 < v + 257 := by simp at e; omega
  rw [if_neg e,Infl.settle_set (iT (n:=5) (by decide))] at hA2
  exact P0 (v+257) h2 r2 (by omega) U2 S2 hle2 hA2
theorem rC {a b:List Nat} {va vb:AV} {kl:Bool} (S:RSt L s h d r out) (Ra:RdI 1 h va (bB a) a.length) (Rb:RdI 1 h vb (bB b) b.length) (Na:∀ i,aN va i→i<h.length∧¬ dJ d r i) (Nb:∀ i,aN vb i→i<h.length∧¬ dJ d r i)
  (Ka:va.parts=[va]∧va.sizeOK=true∧va.cellOK=true) (Kb:vb.parts=[vb]∧vb.sizeOK=true∧vb.cellOK=true) (la:a.length≤320) (lb:b.length≤320) (a15:∀ x∈a,x≤15) (b15:∀ x∈b,x≤15) (ca:Huff.checkP a=0) (cb:Huff.checkP b=0)
  (hA:At L s F r out (lits a b kl out)) (hq:∀ h' r' out',RU d h r h' r'→RSt L s h' d r' out'→(r'.stop=false→r.at'≤r'.at')→At L s F r' out' (Infl.block ⟨out',kl,false⟩)→Q (.tu []) h'):C Y2.id [rp d,va,vb] h Q:=by
 refine Y2.call ?_
 simp only [Y2.t, ← Y2.p0.eq_1]
 refine oB Ra (fun i hi=>(Na i hi).1) Ka la a15 (fun hn _=>absurd ca hn) fun _ h1 ia cva U1 A1 hia hca=>?_
 simp only [cY,cX]
 refine aB (oB (Rb.ext U1) (fun i hi=>Nat.lt_of_lt_of_le (Nb i hi).1 U1.1) Kb lb b15 (fun hn _=>absurd cb hn) fun _ h2 ib cvb U2 B2 hib hcb=>?_)
 simp only [cY,cX]
 refine aB ?_
 have U:=U1.then U2
 have hU1:=U1.1
 have hial:=A1.recd.lt
 have S2:RSt L s h2 d r out:=S.upd U fun _ _ h=>h
 refine rM (r0:=r) (a:=a) (b:=b) (la:=va) (ca:=cva) (lb:=vb) (cb:=cvb) hq (8 * s.length) h2 r out (fun _=>by omega) (RU.ext U) ⟨?_, ?_,hia,by omega⟩ S2 (fun _=>Nat.le_refl _) hA
 ·refine A1.upd U2 (fun _ _ h => h) fun i hl hi => ?_
  rcases hi with hi | hi
  ·exact ⟨(Na i hi).2,by have:=(Na i hi).1; omega⟩
  ·exact ⟨fun hm=>by have:=S.lt hm; omega,by omega⟩
 ·refine B2.upd (Upd.refl (fun _ => False) h2) (fun _ _ h => h) fun i hl hi => ?_
  rcases hi with hi | hi
  ·exact ⟨(Nb i hi).2,by have:=(Nb i hi).1; omega⟩
  ·exact ⟨fun hm=>by have:=S.lt hm; omega,by omega⟩
end
end Go.Proofs.YtpaphfeihpgamaaDoor
namespace Go.Proofs.YtpaphfeihpgamaaDoor
open Go.GAM
open Go.Infl (bP dI bY Out Lim)
structure DSt (L:Lim) (h:aA) (F:Nat→Prop) (d:Nat) (r:DR) (told:Nat) (o:Out) (inp:Nat) (rest:List UInt8):Prop where
 dec:Dec L h F d r o.core.out told
 ord:cT h
 rest:r.rest=rest
 st:match o with
  | .wait k w c=>r.input=inp∧r.last=k.last∧r.skip=k.skip∧r.done=false∧r.bad=false∧wG h F d r w c∧xP w c∧(Out.wait k w c).set
  | .done _=>r.done=true∧r.bad=false
  | .err e _=>r.done=false∧r.bad=true∧(e=1∨e=2)
def aBZ:Out→Int
 | .err e _=>eno e
 | _=>0
section
variable [XR] {h:aA} {Q:AV→aA→Prop} {L:Lim} {F:Nat→Prop} {d:Nat} {r:DR} {out:List UInt8} {told:Nat}
theorem Dec.text {l:List UInt8} (D:Dec L h F d r out told) {K:List UInt8→Prop} (hk:K (out.drop told)):cJ r.fresh h K:=by
 refine Byt.str (l:=out.drop told) ?_ hk
 have:=D.fresh.rd
 rw [List.length_map] at this
 exact this
theorem sD {w:dI} {c:bY} {k:bP} (hs:k.skip=true):∀ (bs:List Nat) (i:Nat),i % 8≠0→i % 8+bs.length=8→Infl.run L bs i (.wait k w c)=(i+bs.length,.wait k w c)
 | [],i,h1,h2=>by rw [Infl.run_nil] <;> rfl
 | b :: bs, i, h1, h2 => by
  rw [Infl.run_bit,if_pos ⟨hs,h1⟩]
  rw [List.length_cons] at h2 ⊢
  by_cases hb:bs=[]
  ·subst hb; rw [Infl.run_nil] <;> rfl
  ·have := List.length_pos_iff.2 hb
   rw [sD hs bs (i+1) (by omega) (by omega)]
   congr 1; omega
theorem tS:∀ (n x:Nat),(Huff.loBits x n).length=n
 | 0,_=>rfl
 | n+1,x=>by unfold Huff.loBits; rw [List.length_cons,tS n]
theorem aDM (c:UInt8) {k:Nat} (hk:k<8):bN .and .i64 ((c.toNat / 2 ^ k:Nat):Int) 1=((c.toNat / 2 ^ k % 2:Nat):Int):=by
 have hc:=c.toNat_lt
 have:c.toNat / 2 ^ k≤c.toNat:=Nat.div_le_self _ _
 have:=fS (x:=c.toNat / 2 ^ k) (y:=1) (by omega) (by decide)
 rw [Nat.and_one_is_mod] at this
 exact this
def Nxt (Q:AV→aA→Prop) (d:Nat) (s:List UInt8) (i:Nat) (told:Nat) (h':aA):Out→Prop
 | .wait ..=>Y1.p1 Q (dp d) s s.length ((i+1:Nat):Int) h'
 | .done _=>Y1.p4 Q (dp d) h'
 | .err e k=>Q (.tu [.s (k.out.drop told),.i .i64 (eno e)]) h'
theorem aA2 {hb : aA} {s : List UInt8} {i : Nat} {ch : UInt8} (hc : s[i]? = some ch) (hslen : s.length < 1099511627776) (hF0 : ¬ F 0) {inp : Nat} (hinp : 0 < inp) :
  ∀ (m k:Nat) (h:aA) (r:DR) (kc:bP) (w:dI) (c:bY),k+m=8→(k=0→kc.skip=false)→DSt L h F d r told (.wait kc w c) inp []→(∀ i,h.length≤i→F i) →
  (∀ h' r',Upd F h h'→DSt L h' F d r' told (Infl.run L (Huff.loBits (ch.toNat / 2 ^ k) m) (8 * (inp - 1)+k) (.wait kc w c)).2 inp (match (Infl.run L (Huff.loBits (ch.toNat / 2 ^ k) m) (8 * (inp - 1)+k) (.wait kc w c)).2 with | .done _=>s.drop (i+1) | _=>[]) →
   Nxt (aH hb Q) d s i told h' (Infl.run L (Huff.loBits (ch.toNat / 2 ^ k) m) (8 * (inp - 1)+k) (.wait kc w c)).2) →
  Y1.p2 (aH hb Q) (dp d) s i k s.length i h:=by
 intro m
 induction m with
 | zero =>
  intro k h r kc w c hkm hk0 S hF hq
  obtain rfl:k=8:=by omega
  have hsi:=aM hc
  obtain ⟨s1,s2,s3,s4,s5,s6,s7,s8⟩:=S.st
  have P3:Y1.p3 (aH hb Q) (dp d) s i (8:Nat) s.length i false h:=by
   refine Y1.i3 ?_
   simp only [Y1.t3,bG,bE, ← Y1.p1.eq_1]
   refine aO rfl ?_
   refine aE S.dec.recd rfl rfl (aY ?_)
   rw [s4]
   refine aO rfl (inc (by omega) ?_)
   exact hq h r (Upd.refl _ _) S
  refine Y1.i2 ?_
  simp only [Y1.t2, ← Y1.p3.eq_1]
  exact aO (by decide) P3
 | succ m ih =>
  intro k h r kc w c hkm hk0 S hF hq
  have hsi:=aM hc
  obtain ⟨s1,s2,s3,s4,s5,s6,s7,s8⟩:=S.st
  have hch:=ch.toNat_lt
  refine Y1.i2 ?_
  simp only [Y1.t2,bG,bE, ← Y1.p3.eq_1]
  refine aV (by simp; omega) ?_
  refine aE S.dec.recd rfl rfl (aY ?_)
  cases hsk:kc.skip with
  | true =>
   rw [s3,hsk]
   refine aO rfl ?_
   have hk:k≠0:=fun e=>by rw [hk0 e] at hsk; cases hsk
   rw [sD hsk _ _ (by omega) (by rw [tS]; omega)] at hq
   refine Y1.i3 ?_
   simp only [Y1.t3,bG,bE, ← Y1.p1.eq_1]
   refine aO rfl ?_
   refine aE S.dec.recd rfl rfl (aY ?_)
   rw [s4]
   refine aO rfl (inc (by omega) ?_)
   exact hq h r (Upd.refl _ _) S
  | false =>
   rw [s3,hsk]
   refine aV rfl ?_
   refine aE S.dec.recd rfl rfl (aY ?_)
   rw [s4]
   refine Y1.i3 ?_
   simp only [Y1.t3,bG,bE, ← Y1.p2.eq_1]
   refine aV rfl ?_
   refine qG hc ?_
   rw [bA (by omega) (by omega)]
   refine m8 (a:=ch.toNat) (b:=k) (by show k≤64; omega) ?_
   rw [aDM ch (by omega)]
   have hb2:ch.toNat / 2 ^ k % 2<2:=Nat.mod_lt _ (by decide)
   have hcore:(⟨kc.out,r.last,r.skip⟩:bP)={ kc with skip:=false }:=by rw [s2,s3,hsk]
   have hpos:(8 * (inp - 1)+k) / 8+1=inp:=by omega
   have hlo:Huff.loBits (ch.toNat / 2 ^ k) (m+1)=ch.toNat / 2 ^ k % 2 :: Huff.loBits (ch.toNat / 2 ^ (k+1)) m:=by
    rw [Nat.pow_succ, ← Nat.div_div_eq_div_mul] <;> rfl
   rw [hlo,Infl.run_bit,if_neg (by rw [hsk]; simp),hpos] at hq
   refine aHI hb2 hF0 S.ord S.dec hF s4 s6 s7 (by cases w <;> exact s8) fun e h1 r1 O1 hset P=>aB ?_
   rw [s1] at P hset
   have hcore':(⟨(Out.wait kc w c).core.out,r.last,r.skip⟩:bP)={ kc with skip:=false }:=hcore
   rw [hcore'] at P hset
   generalize Infl.bitP L inp { kc with skip:=false } w c (ch.toNat / 2 ^ k % 2)=o at P hq hset
   have hF1:∀ i,h1.length≤i→F i:=fun i hi=>hF i (Nat.le_trans P.upd.1 hi)
   have hrest:=P.rest.trans S.rest
   have hbad:=P.bad.trans s5
   have hst:=P.st
   cases o with
   | err x kx =>
    obtain ⟨hx,hx2,hdn⟩:=hst
    rw [Infl.run_err] at hq
    refine aV (by rw [hx]; rcases hx2 with rfl | rfl <;> decide) ?_
    refine aQ P.dec.recd rfl (ltr rfl) (hk:=fun h2 l2 U2 R2=>?_)
    have D2:Dec L h2 F d { r1 with bad:=true } kx.out told:=P.dec.with U2 R2 rfl rfl rfl rfl
    refine aE R2 rfl rfl ?_
    refine D2.text (l:=kx.out) ?_
    have O2:cT h2:=O1.upd U2 fun e=>hF0 (e ▸ D2.f d (.inl rfl))
    have:=hq h2 { r1 with bad:=true } (P.upd.trans (U2.mono fun i _ e=>D2.f i (.inl e)) fun _ _ h=>h) ⟨D2,O2,hrest,hdn,rfl,hx2⟩
    rw [hx]
    exact this
   | done kx =>
    obtain ⟨hx,hdn⟩:=hst
    rw [Infl.run_done] at hq
    subst hx
    refine aO rfl (inc (by omega) ?_)
    refine Y1.i2 ?_
    simp only [Y1.t2,bG,bE, ← Y1.p3.eq_1]
    have P3:Y1.p3 (aH hb Q) (dp d) s i ((k+1:Nat):Int) s.length i false h1:=by
     refine Y1.i3 ?_
     simp only [Y1.t3,bG,bE, ← Y1.p4.eq_1]
     refine aO rfl ?_
     refine aE P.dec.recd rfl rfl (aY ?_)
     rw [hdn]
     refine aV rfl (inc (by omega) (y1 (by omega) ?_))
     refine aQ P.dec.recd rfl (ltr rfl) (hk:=fun h2 l2 U2 R2=>?_)
     have D2:Dec L h2 F d { r1 with rest:=s.drop (i+1) } kx.out told:=P.dec.with U2 R2 rfl rfl rfl rfl
     have O2:cT h2:=O1.upd U2 fun e=>hF0 (e ▸ D2.f d (.inl rfl))
     exact hq h2 { r1 with rest:=s.drop (i+1) } (P.upd.trans (U2.mono fun i _ e=>D2.f i (.inl e)) fun _ _ h=>h) ⟨D2,O2,rfl,hdn,hbad⟩
    refine aG ?_ ?_ <;> intro e8
    ·refine aE P.dec.recd rfl rfl (aY ?_)
     cases r1.skip with
     | true=>exact aO rfl P3
     | false =>
      refine aV rfl (aE P.dec.recd rfl rfl (aY ?_))
      rw [hdn]
      exact P3
    ·exact P3
   | wait kx wx cx =>
    obtain ⟨hx,w1,w2,w3,w4,w5⟩:=hst
    subst hx
    refine aO rfl (inc (by omega) ?_)
    refine ih (k+1) h1 r1 kx wx cx (by omega) (fun e=>by omega) ⟨P.dec,O1,hrest,P.inp.trans s1,w1,w2,w3,hbad,w4,w5,by cases wx <;> exact hset⟩ hF1 fun h2 r2 U2 S2=>?_
    exact hq h2 r2 (P.upd.trans U2 fun _ _ h=>h) S2
theorem rE {o:Out} (c:UInt8) (t:List UInt8) (i:Nat):Infl.run L (Infl.bitsOf (c :: t)) i o=Infl.run L (Infl.bitsOf t) (Infl.run L (Huff.loBits c.toNat 8) i o).1 (Infl.run L (Huff.loBits c.toNat 8) i o).2:=by
 show Infl.run L (Huff.loBits c.toNat 8++Infl.bitsOf t) i o=_
 exact Infl.run_append _ _ _ _
omit [XR] in
theorem qN:∀ (bs:List Nat) (i:Nat) (o:Out),i≤(Infl.run L bs i o).1∧(Infl.run L bs i o).1≤i+bs.length
 | bs,i,.done k=>by rw [Infl.run_done]; exact ⟨Nat.le_refl _,Nat.le_add_right _ _⟩
 | bs,i,.err e k=>by rw [Infl.run_err]; exact ⟨Nat.le_refl _,Nat.le_add_right _ _⟩
 | [],i,.wait k w c=>by rw [Infl.run_nil]; exact ⟨Nat.le_refl _,Nat.le_refl _⟩
 | b :: bs, i, .wait k w c => by
  rw [Infl.run_bit,List.length_cons]
  split
  ·have:=qN bs (i+1) (.wait k w c); omega
  ·have:=qN bs (i+1) (Infl.bitP L (i / 8+1) { k with skip:=false } w c b); omega
theorem aBB {b:Nat} {bs:List Nat} {i:Nat} {k:bP} {w:dI} {c:bY}:i+1≤(Infl.run L (b :: bs) i (.wait k w c)).1:=by
 rw [Infl.run_bit]
 split
 ·exact (qN bs (i+1) _).1
 ·exact (qN bs (i+1) _).1
def pX (s:List UInt8) (inp:Nat) (x:Nat × Out):List UInt8:=match x.2 with
 | .done _=>s.drop ((x.1+7) / 8 - inp)
 | _=>[]
theorem zU {hb : aA} {s : List UInt8} (hslen : s.length < 1099511627776) (hF0 : ¬ F 0) {inp0 : Nat} (hin : inp0 + s.length ≤ 1099511627776) :
  ∀ (t:List UInt8) (i:Nat) (h:aA) (r:DR) (kc:bP) (w:dI) (c:bY),s.drop i=t→i≤s.length→DSt L h F d r told (.wait kc w c) (inp0+i) []→(∀ i,h.length≤i→F i) →
  (∀ h' r',Upd F h h'→DSt L h' F d r' told (Infl.run L (Infl.bitsOf t) (8 * (inp0+i)) (.wait kc w c)).2 (inp0+s.length) (pX s inp0 (Infl.run L (Infl.bitsOf t) (8 * (inp0+i)) (.wait kc w c))) →
   Q (.tu [.s ((Infl.run L (Infl.bitsOf t) (8 * (inp0+i)) (.wait kc w c)).2.core.out.drop told),.i .i64 (aBZ (Infl.run L (Infl.bitsOf t) (8 * (inp0+i)) (.wait kc w c)).2)]) h') →
  Y1.p1 (aH hb Q) (dp d) s s.length i h:=by
 have tail:∀ (h:aA) (r:DR) (o:Out) (inp:Nat) (rest:List UInt8),DSt L h F d r told o inp rest→aBZ o=0→Q (.tu [.s (o.core.out.drop told),.i .i64 0]) h→Y1.p4 (aH hb Q) (dp d) h:=fun h r o inp rest S ho hq=>by
  refine Y1.i4 ?_
  simp only [Y1.t4,bG,bE]
  refine aE S.dec.recd rfl rfl (S.dec.text (l:=o.core.out) (.inl hq))
 intro t
 induction t with
 | nil =>
  intro i h r kc w c ht hi S hF hq
  have:i=s.length:=by have:=uT ht; omega
  subst this
  rw [show Infl.bitsOf []=[] from rfl,Infl.run_nil] at hq
  refine Y1.i1 ?_
  simp only [Y1.t1, ← Y1.p4.eq_1]
  refine aO (by simp) (tail h r _ _ _ S rfl (hq h r (Upd.refl _ _) S))
 | cons ch t ih =>
  intro i h r kc w c ht hi S hF hq
  have hsi:=aE6 ht
  have hat:=xU ht
  have htn:=aBQ ht
  obtain ⟨s1,s2,s3,s4,s5,s6,s7,s8⟩:=S.st
  refine Y1.i1 ?_
  simp only [Y1.t1,bG,bE, ← Y1.p2.eq_1]
  refine aV (by simp; omega) ?_
  refine aE S.dec.recd rfl rfl (aB ?_)
  rw [s1]
  refine inc (by omega) ?_
  refine aQ S.dec.recd rfl (ltr rfl) (hk:=fun h1 l1 U1 R1=>?_)
  refine aQ R1 rfl (ltr rfl) (hk:=fun h2 l2 U2 R2=>?_)
  have U:=U1.trans U2 fun _ _ h=>h
  have UF:Upd F h h2:=U.mono fun i _ e=>S.dec.f i (.inl e)
  have D2:Dec L h2 F d { r with input:=inp0+i+1,skip:=false } kc.out told:=by
   have D:=S.dec
   exact { recd:=R2,past:=D.past.upd U fun i hi e=>D.d1 (e ▸ hi),fresh:=D.fresh.upd U fun i hi e=>D.d2 (e ▸ hi),total:=D.total,told:=D.told,d1:=D.d1,d2:=D.d2,d3:=D.d3,lim:=D.lim,inp:=by show inp0+i+1≤_; omega,len:=D.len,f:=D.f }
  have O2:cT h2:=S.ord.upd U fun e=>hF0 (e ▸ D2.f d (.inl rfl))
  have W2:wG h2 F d { r with input:=inp0+i+1,skip:=false } w c:=by
   cases w with
   | num need hv acc =>
    obtain ⟨w1,w2,w3,w4,w5,w6⟩:=s6
    exact ⟨w1,w2,w3,w4,w5,w6.upd U (fun i hi e=>hi.2 (.inl e)) fun _ _ h=>h⟩
   | sym l n x =>
    obtain ⟨w1,ic,sym,w2,w3,w4⟩:=s6
    exact ⟨w1,ic,sym,w2,w3.upd U (fun i hi e=>hi.2 (.inl e)) fun _ _ h=>h,w4.upd U (fun i hi e=>hi.1.2 (.inl e)) fun _ _ h=>h⟩
  have S2:DSt L h2 F d { r with input:=inp0+i+1,skip:=false } told (.wait { kc with skip:=false } w c) (inp0+i+1) []:=⟨D2,O2,S.rest,rfl,s2,rfl,s4,s5,W2,s7,by cases w <;> exact s8⟩
  have hbits:Huff.loBits ch.toNat 8=ch.toNat % 2 :: Huff.loBits (ch.toNat / 2) 7:=rfl
  have hal:Infl.run L (Huff.loBits ch.toNat 8) (8 * (inp0+i)) (.wait kc w c)=Infl.run L (Huff.loBits ch.toNat 8) (8 * (inp0+i)) (.wait { kc with skip:=false } w c):=by
   rw [hbits]; exact Infl.run_aligned (by omega)
  have hrl:=qN (L:=L) (Huff.loBits ch.toNat 8) (8 * (inp0+i)) (.wait { kc with skip:=false } w c)
  have hrf:8 * (inp0+i)+1≤(Infl.run L (Huff.loBits ch.toNat 8) (8 * (inp0+i)) (.wait { kc with skip:=false } w c)).1:=by rw [hbits]; exact aBB
  rw [tS] at hrl
  rw [rE,hal] at hq
  refine aA2 (inp:=inp0+i+1) hat hslen hF0 (by omega) 8 0 h2 _ { kc with skip:=false } w c rfl (fun _=>rfl) S2 (fun i hi=>hF i (by omega)) fun h3 r3 U3 S3=>?_
  rw [Nat.pow_zero,Nat.div_one,show 8 * (inp0+i+1 - 1)+0=8 * (inp0+i) by omega] at S3 ⊢
  have hpos:=fun {k':bP} {w':dI} {c':bY} hh=>Infl.run_pos (L:=L) (Huff.loBits ch.toNat 8) (8 * (inp0+i)) (.wait { kc with skip:=false } w c) (k:=k') (w:=w') (c:=c') hh
  rw [tS] at hpos
  generalize hX:Infl.run L (Huff.loBits ch.toNat 8) (8 * (inp0+i)) (.wait { kc with skip:=false } w c)=X at S3 hq hrl hrf hpos ⊢
  obtain ⟨p,o⟩:=X
  simp only at S3 hq hrl hrf hpos ⊢
  have UF3:Upd F h h3:=UF.trans U3 fun _ _ h=>h
  cases o with
  | wait k' w' c' =>
   have hp:p=8 * (inp0+(i+1)):=by rw [hpos rfl]; omega
   subst hp
   refine ih (i+1) h3 r3 k' w' c' htn (by omega) S3 (fun i hi=>hF i (Nat.le_trans UF3.1 hi)) fun h4 r4 U4 S4=>?_
   exact hq h4 r4 (UF3.trans U4 fun _ _ h=>h) S4
  | done k' =>
   rw [Infl.run_done] at hq
   have hr:pX s inp0 (p,.done k')=s.drop (i+1):=by
    unfold pX
    simp only
    congr 1; omega
   rw [hr] at hq
   exact tail h3 r3 _ _ _ S3 rfl (hq h3 r3 UF3 ⟨S3.dec,S3.ord,S3.rest,S3.st⟩)
  | err e' k' =>
   rw [Infl.run_err] at hq
   exact .inl (hq h3 r3 UF3 ⟨S3.dec,S3.ord,S3.rest,S3.st⟩)
theorem aF3 {s:List UInt8} {kc:bP} {w:dI} {c:bY} {inp:Nat} (hF0:¬ F 0) (hs:inp+s.length<1099511627776) (S:DSt L h F d r told (.wait kc w c) inp []) (hF:∀ i,h.length≤i→F i)
  (hq:∀ h' r',Upd F h h'→DSt L h' F d r' kc.out.length (Infl.run L (Infl.bitsOf s) (8 * inp) (.wait kc w c)).2 (inp+s.length) (pX s inp (Infl.run L (Infl.bitsOf s) (8 * inp) (.wait kc w c))) →
   Q (.tu [.s ((Infl.run L (Infl.bitsOf s) (8 * inp) (.wait kc w c)).2.core.out.drop kc.out.length),.i .i64 (aBZ (Infl.run L (Infl.bitsOf s) (8 * inp) (.wait kc w c)).2)]) h') :
  C Y1.id [dp d,.s s] h Q:=by
 obtain ⟨s1,s2,s3,s4,s5,s6,s7,s8⟩:=S.st
 refine Y1.call ?_
 simp only [Y1.t, ← Y1.p0.eq_1]
 refine eP (by kernel_rfl) (aY (aO rfl ?_))
 simp only [bG,bE]
 refine aE S.dec.recd rfl rfl (aY ?_)
 rw [s5]
 refine aO rfl (aE S.dec.recd rfl rfl (aY ?_))
 rw [s4]
 refine Y1.i0 ?_
 simp only [Y1.t0,bG,bE, ← Y1.p1.eq_1]
 refine aO rfl ?_
 refine aQ S.dec.recd rfl (ltr rfl) (hk:=fun h1 l1 U1 R1=>?_)
 have UF:Upd F h h1:=U1.mono fun i _ e=>S.dec.f i (.inl e)
 have D1:Dec L h1 F d { r with fresh:=.sl none 0 none } kc.out kc.out.length:=by
  have D:=S.dec
  exact { recd:=R1,past:=D.past.upd U1 fun i hi e=>D.d1 (e ▸ hi),fresh:=.inl ⟨rfl,by simp⟩,total:=D.total,told:=Nat.le_refl _,d1:=D.d1,d2:=fun h=>h,d3:=fun _ _ h=>h,lim:=D.lim,inp:=D.inp,len:=D.len,f:=fun i hi=>hi.elim (fun e=>D.f i (.inl e)) fun hi=>hi.elim (fun e=>D.f i (.inr (.inl e))) fun e=>e.elim }
 have O1:cT h1:=S.ord.upd U1 fun e=>hF0 (e ▸ D1.f d (.inl rfl))
 have hg:∀ i,Gd F d r i→Gd F d { r with fresh:=.sl none 0 none } i:=fun i hi=>⟨hi.1,fun m=>hi.2 (m.elim .inl fun m=>m.elim (fun e=>.inr (.inl e)) fun e=>e.elim)⟩
 have W1:wG h1 F d { r with fresh:=.sl none 0 none } w c:=by
  cases w with
  | num need hv acc =>
   obtain ⟨w1,w2,w3,w4,w5,w6⟩:=s6
   exact ⟨w1,w2,w3,w4,w5,w6.upd U1 (fun i hi e=>hi.2 (.inl e)) fun i _ h=>hg i h⟩
  | sym l n x =>
   obtain ⟨w1,ic,sym,w2,w3,w4⟩:=s6
   exact ⟨w1,ic,sym,w2,w3.upd U1 (fun i hi e=>hi.2 (.inl e)) fun i _ h=>hg i h,w4.upd U1 (fun i hi e=>hi.1.2 (.inl e)) fun i _ h=>⟨hg i h.1,h.2⟩⟩
 refine zU (inp0:=inp) (by omega) hF0 (by omega) s 0 h1 { r with fresh:=.sl none 0 none } kc w c (List.drop_zero) (Nat.zero_le _) ⟨D1,O1,S.rest,s1,s2,s3,s4,s5,W1,s7,s8⟩ (fun i hi=>hF i (by omega)) fun h2 r2 U2 S2=>?_
 exact hq h2 r2 (UF.trans U2 fun _ _ h=>h) S2
def bnd (n:Int) (lo hi:Nat):Nat:=(min (max n lo) hi).toNat
theorem aGF (n:Int) {lo hi:Nat} (h:lo≤hi):mmI false (mmI true n (lo:Int)) (hi:Int)=(bnd n lo hi:Int):=by
 unfold mmI bnd
 simp only [cond_true,cond_false]
 split <;> split <;> omega
def dU (o ra:Int):Lim:=⟨bnd o 0 65536,bnd ra 1 1100⟩
theorem aG7 {o ra : Int} (O : cT h) (hq : ∀ h' d r, Upd (fun _ => False) h h' → h.length ≤ d → DSt (dU o ra) h' (fun i => h.length ≤ i) d r 0 Infl.start 0 [] → Q (dp d) h') : C Y77.id [.ag [.i .i64 o, .i .i64 ra]] h Q := by
  have bb:∀ {n:Int} {lo hi:Nat} {h:aA} {Q:AV→aA→Prop},lo≤hi→Q (iN (bnd n lo hi)) h→C Y57.id [.i .i64 n,iN lo,iN hi] h Q:=fun {n lo hi h Q} hl hq=>by
    refine Y57.call ?_
    simp only [Y57.t]
    exact aW (aGF n hl) (.inl hq)
  refine Y77.call ?_
  simp only [Y77.t]
  refine bQ (hk:=fun h1 l1 U1 R1=>?_)
  have R1:bD h1 h.length [.i .i64 o,.i .i64 ra]:=R1
  have e2:(AV.ag [.i .i64 o,.i .i64 ra]).parts.length=2:=rfl
  simp only [e2,bE]
  refine aE R1 rfl rfl (aB (aE R1 rfl rfl (aB ?_)))
  refine bb (lo:=0) (hi:=65536) (by decide) (aB ?_)
  refine aE R1 rfl rfl (aB ⟨rfl, ?_⟩)
  refine bb (lo:=1) (hi:=1100) (by decide) (aB ?_)
  refine aBY (cs:=DR.cells (dU o ra) ⟨.sl none 0 none,0,.sl none 0 none,0,false,false,false,false,[],0,0,0,.p none,.nf⟩) rfl ?_
  refine bQ (hk:=fun h2 l2 U2 R2=>?_)
  have U:=U1.then U2
  have D2:Dec (dU o ra) h2 (fun i=>h.length≤i) h1.length ⟨.sl none 0 none,0,.sl none 0 none,0,false,false,false,false,[],0,0,0,.p none,.nf⟩ [] 0:=
    { recd:=R2,past:=.inl ⟨rfl,rfl⟩,fresh:=.inl ⟨rfl,rfl⟩,total:=rfl,told:=Nat.le_refl _,d1:=fun h=>h,d2:=fun h=>h,d3:=fun _ h=>h.elim,lim:=⟨by show bnd o 0 65536≤_; unfold bnd; omega,by show bnd ra 1 1100≤_; unfold bnd; omega⟩,inp:=by decide,len:=by decide,f:=fun i hi=>by
        rcases hi with e | e | e
        · subst e; exact U1.1
        · exact e.elim
        · exact e.elim }
  refine tT D2 (fun i hi=>Nat.le_trans U.1 hi) rfl fun e h3 r3 P=>aB (.inl ?_)
  have hU3:Upd (fun _=>False) h h3:=U.own P.upd U1.1
  obtain ⟨w0,w1,w2,w3,w4,w5⟩:=P.st
  exact hq h3 h1.length r3 hU3 U1.1 ⟨P.dec,O.upd hU3 fun h=>h,P.rest,P.inp,w1,w2,w3,P.bad,w4,w5,by show 0<3; decide⟩
end
end Go.Proofs.YtpaphfeihpgamaaDoor
namespace Go.Proofs.YtpaphfeihpgamaaDoor
open Go.GAM
open Go.Infl (bP dI bY Out Lim)
def aFK (e:Nat):Int:=if e=3 then 1 else if e=0 then 0 else eno e
section
variable [XR] {h:aA} {Q:AV→aA→Prop} {L:Lim} {s:List UInt8} {d:Nat} {r:RS} {out:List UInt8} {F:Infl.Fin}
theorem vK {n:Int} {lo hi:Nat} (hl:lo≤hi) (hq:Q (iN (bnd n lo hi)) h):C Y59.id [.i .i64 n,iN lo,iN hi] h Q:=by
 refine Y59.call ?_
 simp only [Y59.t]
 unfold bnd at hq
 refine aG ?_ ?_ <;> intro e
 ·have e : n < lo := by simpa using e
  rw [show (min (max n lo) hi).toNat=lo by omega] at hq
  exact .inl hq
 ·have e : ¬ n < lo := by simpa using e
  refine aG ?_ ?_ <;> intro e2
  ·have e2 : (hi : Int) < n := by simpa using e2
   rw [show (min (max n lo) hi).toNat=hi by omega] at hq
   exact .inl hq
  ·have e2 : ¬ (hi : Int) < n := by simpa using e2
   have hq':Q (.i .i64 (((min (max n (lo:Int)) (hi:Int)).toNat:Nat):Int)) h:=hq
   rw [show (((min (max n (lo:Int)) (hi:Int)).toNat:Nat):Int)=n by omega] at hq'
   exact .inl hq'
theorem zP {h0' : aA} {b0 : Nat} {k : bP} (hb0 : b0 < 2) (hsk : k.skip = false) : ∀ (m j acc : Nat) (h : aA) (r : RS), j + m = 2 → acc < 2 ^ j → RSt L s h d r out → r.stop = false → k.out = out →
  F=(if j<2 then Infl.go L ((Infl.bitsOf s).drop r.at') r.at' (.wait k (.num 3 (j+1) (b0+2 * acc)) .block) else Infl.go L ((Infl.bitsOf s).drop r.at') r.at' (Infl.settle L ((r.at'+7) / 8) 3 (Infl.apply L ((r.at'+7) / 8) k (b0+2 * acc) .block))) →
  (∀ v h' r',v<4→RU d h r h' r'→RSt L s h' d r' out→r'.stop=true→jM r' out F→Q (iN v) h') →
  (∀ v h' r',v<4→RU d h r h' r'→RSt L s h' d r' out→r'.stop=false→r.at'≤r'.at'→F=Infl.go L ((Infl.bitsOf s).drop r'.at') r'.at' (Infl.settle L ((r'.at'+7) / 8) 3 (Infl.apply L ((r'.at'+7) / 8) k (b0+2 * v) .block))→Q (iN v) h') →
  Y12.p0 (aH h0' Q) (rp d) (2:Nat) acc j h:=by
 intro m
 induction m with
 | zero =>
  intro j acc h r hj ha S hl ho hF hq0 hq1
  obtain rfl:j=2:=by omega
  rw [if_neg (Nat.lt_irrefl _)] at hF
  refine Y12.i0 ?_
  simp only [Y12.t0]
  exact aO (by simp) (.inl (hq1 acc h r ha (RU.refl _ _ _) S hl (Nat.le_refl _) hF))
 | succ m ih =>
  intro j acc h r hj ha S hl ho hF hq0 hq1
  have hjn:2 ^ (j+1)≤2 ^ 2:=Nat.pow_le_pow_right (by decide) (by omega)
  have hj1:2 ^ (j+1)=2 * 2 ^ j:=by rw [Nat.pow_succ]; omega
  rw [if_pos (by omega)] at hF
  refine Y12.i0 ?_
  simp only [Y12.t0, ← Y12.p0.eq_1]
  refine aV (by simp; omega) ?_
  refine jZ S (fun e=>by rw [hl] at e; cases e) (fun _ hge h1 U1 S1=>?_) (fun _ hlt b h1 hb hb2 U1 S1=>?_)
  ·refine aB ?_
   rw [wrap_u64 (by omega) (by omega)]
   refine eK (a:=0) (b:=j) (by omega) (by omega) ?_
   refine bR (n:=(acc:Int)) (by omega) (by omega) (by omega) (inc (by omega) ?_)
   refine jT (by decide) (r:={ r with short:=true }) rfl m (j+1) acc h1 (by omega) (by omega) S1 fun h2 U2 S2=>?_
   refine hq0 acc h2 { r with short:=true } (by omega) (RU.own (U1.trans U2 fun _ _ h=>h) rfl) S2 rfl ?_
   rw [List.drop_eq_nil_of_le (by rw [Infl.bits_len]; omega),Infl.go_nil] at hF
   rw [hF]
   exact ⟨ho,.inl ⟨rfl,rfl⟩⟩
  ·refine aB ?_
   rw [wrap_u64 (by omega) (by omega)]
   have hm:b * 2 ^ j≤1 * 2 ^ j:=Nat.mul_le_mul_right _ (by omega)
   refine eK (a:=b) (b:=j) (by omega) (by omega) ?_
   have hmod:b0+2 * acc+b * 2 ^ (j+1)=b0+2 * (acc+b * 2 ^ j):=by
    have:b * 2 ^ (j+1)=2 * (b * 2 ^ j):=by rw [hj1,Nat.mul_left_comm]
    omega
   generalize hB:b * 2 ^ j=B at *
   refine bR (n:=((acc+B:Nat):Int)) (by omega) (by omega) (by omega) (inc (by omega) ?_)
   have hcore:({ k with skip:=false }:bP)=k:=by cases k; simp only at hsk; subst hsk; rfl
   rw [mT hb,Infl.go_bit,if_neg (by simp [hsk]),hcore,Infl.bit_num,hmod] at hF
   have hin:r.at' / 8+1=(r.at'+1+7) / 8:=by omega
   refine ih (j+1) (acc+B) h1 { r with at':=r.at'+1 } (by omega) (by omega) S1 hl ho ?_ (fun v h2 r2 hv U2 S2 hs hf=>hq0 v h2 r2 hv ((RU.own U1 rfl).trans U2) S2 hs hf) (fun v h2 r2 hv U2 S2 hs hle hf=>hq1 v h2 r2 hv ((RU.own U1 rfl).trans U2) S2 hs (by simp only at hle; omega) hf)
   rw [hF, ← hin]
   by_cases hjn2:j+1<2
   ·rw [if_pos (by omega),if_pos hjn2]
   ·rw [if_neg (by omega),if_neg hjn2]
theorem aF2 {h0':aA} (S:RSt L s h d r out) (hF:(r.stop=true∧jM r out F)∨(r.stop=false∧F.out=out∧F.e=0∧F.pos=r.at')) (hq:∀ n:Int,(F.e=0→n=(((F.pos+7) / 8:Nat):Int))→Q (.tu [.s F.out,.i .i64 (aFK F.e),.i .i64 n]) h):Y9.p2 (aH h0' Q) (rp d) h:=by
 have hle:=S.le
 have hsl:=S.sl
 have htx:∀ {K:List UInt8→Prop},K out→cJ r.outv h K:=fun {K} hk=>by
  refine Byt.str (l:=out) ?_ hk
  have:=S.ob.rd
  rw [List.length_map] at this
  exact this
 have rest:r.short=false→F.out=out→(∀ n:Int,(F.e=0→n=(((F.pos+7) / 8:Nat):Int))→Q (.tu [.s out,.i .i64 r.e,.i .i64 n]) h)→(F.e=0→F.pos=r.at')→Y9.p2 (aH h0' Q) (rp d) h:=fun hsh ho hq hp=>by
  refine Y9.i2 ?_
  simp only [Y9.t2,bG,bE]
  refine aE S.recd rfl rfl (aY ?_)
  rw [hsh]
  refine aO rfl ?_
  refine aE S.recd rfl rfl (htx ?_)
  refine aE S.recd rfl rfl (aB (aE S.recd rfl rfl (aB ?_)))
  refine bR (n:=((r.at'+7:Nat):Int)) (by omega) (by omega) (by omega) ?_
  refine kF (n:=(((r.at'+7) / 8:Nat):Int)) (by decide) (by rw [Int.tdiv_eq_ediv_of_nonneg (by omega),bA (by omega) (by omega)]; omega) ?_
  exact .inl (hq _ fun e=>by rw [hp e])
 rcases hF with ⟨hs,ho,h1 | ⟨h1,h2,h3⟩ | ⟨h1,h2,h3⟩⟩ | ⟨hs,ho,he,hp⟩
 ·refine Y9.i2 ?_
  simp only [Y9.t2,bG,bE]
  refine aE S.recd rfl rfl (aY ?_)
  rw [h1.1]
  refine aV rfl ?_
  refine aE S.recd rfl rfl (htx (.inl ?_))
  have:=hq 0 (fun e=>by rw [h1.2] at e; cases e)
  rw [ho,h1.2] at this
  exact this
 ·rw [ho, h3] at hq
  refine rest h1 ho (fun n hn=>?_) (fun e=>by rw [h3] at e; cases e)
  rw [h2]
  exact hq n (fun e=>by cases e)
 ·rw [ho, h3] at hq
  refine rest h1 ho (fun n hn=>?_) (fun e=>by rw [h3] at e; cases e)
  rw [h2]
  exact hq n (fun e=>by cases e)
 ·obtain ⟨hsh, he0⟩ := dL hs
  rw [ho] at hq
  refine rest hsh ho (fun n hn=>?_) (fun _=>hp)
  rw [he0]
  have:=hq n hn
  rw [he] at this
  exact this
theorem aDA {h0 h0' : aA} {d : Nat} (hd0 : h0.length ≤ d)
  (hq:∀ h' n,Upd (fun _=>False) h0 h'→(F.e=0→n=(((F.pos+7) / 8:Nat):Int))→Q (.tu [.s F.out,.i .i64 (aFK F.e),.i .i64 n]) h') :
  ∀ (m : Nat) (h : aA) (r : RS) (out : List UInt8) (kl : Bool), (r.stop = false → 8 * s.length - r.at' ≤ m) → Upd (fun _ => False) h0 h → (∀ i, aN r.outv i → h0.length ≤ i) → RSt L s h d r out → At L s F r out (Infl.block ⟨out, kl, false⟩) →
   Y9.p0 (aH h0' Q) (rp d) (if kl then 1 else 0) h:=by
 have mutd:∀ (r:RS),(∀ i,aN r.outv i→h0.length≤i)→∀ i,dJ d r i→h0.length≤i:=fun r hr i hm=>hm.elim (fun e=>e ▸ hd0) (hr i)
 have P2:∀ (h:aA) (r:RS) (out:List UInt8),Upd (fun _=>False) h0 h→RSt L s h d r out→((r.stop=true∧jM r out F)∨(r.stop=false∧F.out=out∧F.e=0∧F.pos=r.at'))→Y9.p2 (aH h0' Q) (rp d) h:=fun h r out U S hF=>aF2 S hF fun n hn=>hq h n U hn
 have leave:∀ (h:aA) (r:RS) (out:List UInt8),Upd (fun _=>False) h0 h→RSt L s h d r out→((r.stop=true∧jM r out F)∨(r.stop=false∧F.out=out∧F.e=0∧F.pos=r.at'))→Y9.p1 (aH h0' Q) (rp d) false h:=fun h r out U S hF=>by
  refine Y9.i1 ?_
  simp only [Y9.t1, ← Y9.p2.eq_1]
  exact aO rfl (P2 h r out U S hF)
 have stopped:∀ (h:aA) (r:RS) (out:List UInt8) (x:Int),Upd (fun _=>False) h0 h→RSt L s h d r out→r.stop=true→jM r out F→Y9.p0 (aH h0' Q) (rp d) x h:=fun h r out x U S hs hf=>by
  refine Y9.i0 ?_
  simp only [Y9.t0, ← Y9.p1.eq_1]
  refine aG ?_ ?_ <;> intro e
  ·refine bF S (aY ?_)
   rw [hs]
   exact leave h r out U S (.inl ⟨hs,hf⟩)
  ·exact leave h r out U S (.inl ⟨hs,hf⟩)
 intro m
 induction m with
 | zero =>
  intro h r out kl hm U N S hA
  rcases hA with hA | ⟨hl,hF⟩
  ·exact stopped h r out _ U S hA.1 hA.2
  ·have hm := hm hl
   have hle:=S.le
   refine Y9.i0 ?_
   simp only [Y9.t0, ← Y9.p1.eq_1]
   cases kl with
   | true =>
    have hb:Infl.block ⟨out,true,false⟩ = .done ⟨out,true,false⟩:=rfl
    rw [hb,Infl.go_done] at hF
    exact aO rfl (leave h r out U S (.inr ⟨hl,by rw [hF],by rw [hF],by rw [hF]⟩))
   | false =>
    have hb:Infl.block ⟨out,false,false⟩ = .wait ⟨out,false,false⟩ (.num 3 0 0) .block:=rfl
    rw [hb] at hF
    refine aV rfl (bF S (aY ?_))
    rw [hl]
    refine Y9.i1 ?_
    simp only [Y9.t1, ← Y9.p2.eq_1]
    refine aV rfl ?_
    refine jZ S (fun e=>by rw [hl] at e; cases e) (fun _ hge h1 U1 S1=>?_) (fun _ hlt=>by omega)
    have V1:Upd (fun _=>False) h0 h1:=U.own U1 hd0
    refine aB (fO (r:={ r with short:=true }) (by decide) rfl S1 fun h2 U2 S2=>aB (bF S2 (aY (aV rfl ?_))))
    refine P2 h2 { r with short:=true } out (V1.own U2 hd0) S2 (.inl ⟨rfl, ?_⟩)
    rw [List.drop_eq_nil_of_le (by rw [Infl.bits_len]; omega),Infl.go_nil] at hF
    rw [hF]
    exact ⟨rfl,.inl ⟨rfl,rfl⟩⟩
 | succ m ih =>
  intro h r out kl hm U N S hA
  rcases hA with hA | ⟨hl,hF⟩
  ·exact stopped h r out _ U S hA.1 hA.2
  have hm:=hm hl
  have hle:=S.le
  refine Y9.i0 ?_
  simp only [Y9.t0, ← Y9.p1.eq_1]
  cases kl with
  | true =>
   have hb:Infl.block ⟨out,true,false⟩ = .done ⟨out,true,false⟩:=rfl
   rw [hb,Infl.go_done] at hF
   exact aO rfl (leave h r out U S (.inr ⟨hl,by rw [hF],by rw [hF],by rw [hF]⟩))
  | false=>
  have hb:Infl.block ⟨out,false,false⟩ = .wait ⟨out,false,false⟩ (.num 3 0 0) .block:=rfl
  rw [hb] at hF
  refine aV rfl (bF S (aY ?_))
  rw [hl]
  refine Y9.i1 ?_
  simp only [Y9.t1, ← Y9.p2.eq_1, ← Y9.p0.eq_1]
  refine aV rfl ?_
  refine jZ S (fun e=>by rw [hl] at e; cases e) (fun _ hge h1 U1 S1=>?_) (fun _ hlt b0 h1 hb0 hb02 U1 S1=>?_)
  ·have V1 : Upd (fun _ => False) h0 h1 := U.own U1 hd0
   refine aB (fO (r:={ r with short:=true }) (by decide) rfl S1 fun h2 U2 S2=>aB (bF S2 (aY (aV rfl ?_))))
   refine P2 h2 { r with short:=true } out (V1.own U2 hd0) S2 (.inl ⟨rfl, ?_⟩)
   rw [List.drop_eq_nil_of_le (by rw [Infl.bits_len]; omega),Infl.go_nil] at hF
   rw [hF]
   exact ⟨rfl,.inl ⟨rfl,rfl⟩⟩
  rw [mT hb0,Infl.go_bit,if_neg (by simp),Infl.bit_num,if_pos (by decide)] at hF
  refine aB (Y12.call ?_)
  simp only [Y12.t, ← Y12.p0.eq_1]
  have Ua:RU d h r h1 { r with at':=r.at'+1 }:=RU.own U1 rfl
  have later:∀ (h2:aA) (r2:RS),RU d h r h2 r2→Upd (fun _=>False) h0 h2∧∀ i,aN r2.outv i→h0.length≤i:=fun h2 r2 U2=>by
   refine ⟨U.ownP U2.1 (mutd r N),fun i hi=>?_⟩
   rcases Nat.lt_or_ge i h.length with g | g
   ·exact mutd r N i (U2.2 i g (.inr hi))
   ·exact Nat.le_trans U.1 g
  refine zP (F:=F) (k:=⟨out,false,false⟩) hb02 rfl 2 0 0 h1 { r with at':=r.at'+1 } rfl (by decide) S1 hl rfl (by rw [if_pos (by decide),hF]; simp) (fun v h2 r2 hv U2 S2 hs2 hf2=>?_) (fun v h2 r2 hv U2 S2 hs2 hle2 hF2=>?_)
  ·refine aB (bF S2 (aY ?_))
   rw [hs2]
   exact aV rfl (P2 h2 r2 out (later h2 r2 (Ua.trans U2)).1 S2 (.inl ⟨hs2,hf2⟩))
  ·refine aB (bF S2 (aY ?_))
   rw [hs2]
   refine aO rfl ?_
   have Ub:=Ua.trans U2
   obtain ⟨V2,N2⟩:=later h2 r2 Ub
   have hle2':r.at'<r2.at':=by simp only at hle2; omega
   have hlast:(b0:Int)=if (decide (b0=1)) then 1 else 0:=by
    obtain rfl | rfl:b0=0∨b0=1:=by omega
    ·rfl
    ·rfl
   have hmod:(b0+2 * v) % 2=b0:=by omega
   have hdiv:(b0+2 * v) / 2=v:=by omega
   have hkl:((b0+2 * v) % 2 == 1)=decide (b0=1):=by rw [hmod,Bool.eq_iff_iff]; simp
   simp only [Infl.apply,hdiv,hkl] at hF2
   have go':∀ (h3:aA) (r3:RS) (o3:List UInt8),RU d h2 r2 h3 r3→RSt L s h3 d r3 o3→(r3.stop=false→r2.at'≤r3.at')→At L s F r3 o3 (Infl.block ⟨o3,decide (b0=1),false⟩)→Y9.p0 (aH h0' Q) (rp d) b0 h3:=fun h3 r3 o3 U3 S3 hle3 hA3=>by
    obtain ⟨V3,N3⟩:=later h3 r3 (Ub.trans U3)
    rw [hlast]
    exact ih h3 r3 o3 (decide (b0=1)) (fun e=>by have:=hle3 e; omega) V3 N3 S3 hA3
   refine aG ?_ ?_ <;> intro e0
   ·have e0 : v = 0 := by simp at e0; omega
    subst e0
    simp only at hF2
    rw [Infl.settle_set (iT (n:=16) (by decide))] at hF2
    exact aA3 (kl:=decide (b0=1)) S2 hs2 hF2 go'
   refine aG ?_ ?_ <;> intro e1
   ·have e1 : v = 1 := by simp at e1; omega
    subst e1
    simp only at hF2
    rw [Infl.settle_set (sK _ _ _)] at hF2
    refine aDD fun h3 va U3 E3 N3=>nM (n:=32) (y:=5) (by decide) fun h4 vb U4 E4 N4=>?_
    have U34:=U3.then U4
    have S4:RSt L s h4 d r2 out:=S2.upd U34 fun _ _ h=>h
    have E3':Exa h4 va Infl.fixedL:=E3.upd U4 fun _ _ h=>h
    have hU3:=U3.1
    refine rC (a:=Infl.fixedL) (b:=Infl.fixedD) (kl:=decide (b0=1)) (F:=F) S4 E3'.rd.i E4.rd.i (fun i hi=>⟨E3'.lt hi,fun hm=>by have:=N3 i hi; have:=S2.lt hm; omega⟩) (fun i hi=>⟨E4.lt hi,fun hm=>by have:=N4 i hi; have:=S2.lt hm; omega⟩) E3'.kind E4.kind (by decide +kernel) (by decide +kernel) nN oC Infl.fixed_ok.1 Infl.fixed_ok.2 (.inr ⟨hs2, ?_⟩) fun h5 r5 o5 U5 S5 hle5 hA5=>go' h5 r5 o5 ((RU.ext U34).trans U5) S5 hle5 hA5
    rw [hF2]
    unfold Infl.codes
    rw [if_pos Infl.fixed_ok] <;> rfl
   refine aG ?_ ?_ <;> intro e2
   ·have e2 : v = 2 := by simp at e2; omega
    subst e2
    simp only at hF2
    rw [Infl.settle_set (iT (n:=5) (by decide))] at hF2
    refine aGS (F:=F) (kl:=decide (b0=1)) S2 (.inr ⟨hs2,hF2⟩) ⟨fun h3 r3 o3 v3 w3 U3 S3 hs3 hf3=>?_,fun h3 r3 o3 a b va vb U3 S3 hs3 hle3 Ra Rb Na Nb Ka Kb la lb a15 b15 ca cb hF3=>?_⟩
    ·simp only [cY, cX]
     refine bF S3 (aY ?_)
     rw [hs3]
     exact aO rfl (go' h3 r3 o3 U3 S3 (fun e=>by rw [hs3] at e; cases e) (.inl ⟨hs3,hf3⟩))
    ·simp only [cY, cX]
     refine bF S3 (aY ?_)
     rw [hs3]
     refine aV rfl ?_
     exact rC (a:=a) (b:=b) (kl:=decide (b0=1)) (F:=F) S3 Ra Rb (fun i hi=>(Na i hi).2) (fun i hi=>(Nb i hi).2) Ka Kb la lb a15 b15 ca cb (.inr ⟨hs3,hF3⟩) fun h5 r5 o5 U5 S5 hle5 hA5=>go' h5 r5 o5 (U3.trans U5) S5 (fun e=>by have:=hle5 e; omega) hA5
   ·have e3 : v = 3 := by simp at e0 e1 e2; omega
    subst e3
    simp only at hF2
    rw [Infl.settle_set (by trivial)] at hF2
    exact gE (k:=⟨out,decide (b0=1),false⟩) (F:=F) rfl S2 (.inr ⟨hs2,hF2⟩) fun h3 r3 U3 S3 hs3 hf3=>go' h3 r3 out U3 S3 (fun e=>by rw [hs3] at e; cases e) (.inl ⟨hs3,hf3⟩)
theorem aGW {o ra:Int} (hsl:s.length≤1073741824) (hq:∀ h' n,Upd (fun _=>False) h h'→((Infl.go (dU o ra) (Infl.bitsOf s) 0 Infl.start).e=0→n=((((Infl.go (dU o ra) (Infl.bitsOf s) 0 Infl.start).pos+7) / 8:Nat):Int)) →
   Q (.tu [.s (Infl.go (dU o ra) (Infl.bitsOf s) 0 Infl.start).out,.i .i64 (aFK (Infl.go (dU o ra) (Infl.bitsOf s) 0 Infl.start).e),.i .i64 n]) h'):C Y9.id [.s s,.ag [.i .i64 o,.i .i64 ra]] h Q:=by
 refine Y9.call ?_
 simp only [Y9.t, ← Y9.p0.eq_1]
 refine bQ (hk:=fun h1 l1 U1 R1=>?_)
 have R1:bD h1 h.length [.i .i64 o,.i .i64 ra]:=R1
 have e2:(AV.ag [.i .i64 o,.i .i64 ra]).parts.length=2:=rfl
 simp only [e2,bE]
 refine aE R1 rfl rfl (aB (aE R1 rfl rfl (aB ?_)))
 refine vK (lo:=0) (hi:=65536) (by decide) (aB ?_)
 refine aE R1 rfl rfl (aB ⟨rfl, ?_⟩)
 refine vK (lo:=1) (hi:=1100) (by decide) (aB ?_)
 refine bQ (hk:=fun h2 l2 U2 R2=>?_)
 have U:=U1.then U2
 have S2:RSt (dU o ra) s h2 h1.length ⟨0,.sl none 0 none,false,0⟩ []:=
  { recd:=R2,ob:=.inl ⟨rfl,rfl⟩,d1:=fun h=>h,le:=Nat.zero_le _,len:=by decide,lim:=⟨by show bnd o 0 65536≤_; unfold bnd; omega,by show bnd ra 1 1100≤_; unfold bnd; omega⟩,sl:=hsl }
 exact aDA (F:=Infl.go (dU o ra) (Infl.bitsOf s) 0 Infl.start) U1.1 (fun h' n U' hn=>hq h' n U' hn) (8 * s.length) h2 ⟨0,.sl none 0 none,false,0⟩ [] false (fun _=>by simp) U (fun _ h=>h.elim) S2 (.inr ⟨rfl,rfl⟩)
end
end Go.Proofs.YtpaphfeihpgamaaDoor
namespace Go.Proofs.YtpaphfeihpgamaaDoor
open Go.GAM
open Go.Infl (bP dI bY Out Lim)
def vR (L:Lim) (s:List UInt8):List UInt8 × Int:=match Infl.run L (Infl.bitsOf s) 0 Infl.start with
 | (p,.done k)=>if s.drop ((p+7) / 8)=[] then (k.out,0) else ([],2)
 | (_,.err e _)=>([],eno e)
 | (_,.wait ..)=>([],1)
theorem yV {e:Nat} (h:e=1∨e=2):aFK e=eno e∧eno e≠0:=by rcases h with rfl | rfl <;> exact ⟨rfl,by decide⟩
section
variable [XR] {h:aA} {Q:AV→aA→Prop} {L:Lim} {s:List UInt8} {o ra:Int}
theorem cT.lt (O:cT h):0<h.length:=by obtain ⟨b,hb,_⟩:=O; exact aM hb
def aF1:Out→Prop
 | .err e _=>e=1∨e=2
 | _=>True
theorem aB9 (O:cT h) (hs:s.length<1073741824) (hq:∀ h',Upd (fun _=>False) h h'→aF1 (Infl.run (dU o ra) (Infl.bitsOf s) 0 Infl.start).2→Q (.tu [.s (vR (dU o ra) s).1,.i .i64 (vR (dU o ra) s).2]) h'):C Y48.id [.s s,.ag [.i .i64 o,.i .i64 ra]] h Q:=by
 refine Y48.call ?_
 simp only [Y48.t]
 refine bQ (hk:=fun h1 l1 U1 R1=>?_)
 have R1:bD h1 h.length [.i .i64 o,.i .i64 ra]:=R1
 have e2:(AV.ag [.i .i64 o,.i .i64 ra]).parts.length=2:=rfl
 rw [e2]
 refine e7 R1 rfl ?_
 have O1:cT h1:=O.upd U1 fun h=>h
 refine aG7 O1 fun h2 d r U2 hd S2=>?_
 have hlt:=O1.lt
 refine aF3 (F:=fun i=>h1.length≤i) (by omega) (by omega) S2 (fun i hi=>Nat.le_trans U2.1 hi) fun h3 r3 U3 S3=>?_
 have U:Upd (fun _=>False) h h3:=(U1.then U2).ownP U3 fun i hi=>Nat.le_trans U1.1 hi
 simp only [cY,cX]
 unfold vR at hq
 have e0:Infl.run (dU o ra) (Infl.bitsOf s) (8 * 0) (.wait ⟨[],false,false⟩ (.num 3 0 0) .block)=Infl.run (dU o ra) (Infl.bitsOf s) 0 Infl.start:=rfl
 rw [e0] at S3 ⊢
 generalize Infl.run (dU o ra) (Infl.bitsOf s) 0 Infl.start=X at S3 hq ⊢
 obtain ⟨p,x⟩:=X
 have D3:=S3.dec
 have hst:=S3.st
 have hrs:=S3.rest
 refine b9 (aB ?_)
 cases x with
 | err e k =>
  obtain ⟨h1',h2',h3'⟩:=hst
  have hne:=(yV h3').2
  refine aV (by show (!decide (eno e=0))=true; simp [hne]) (.inl (hq h3 U h3'))
 | wait k w c =>
  obtain ⟨_,_,_,hdn,_⟩:=hst
  refine aO rfl ?_
  simp only [bG,bE]
  refine aE D3.recd rfl rfl (aY ?_)
  rw [hdn]
  exact aV rfl (.inl (hq h3 U trivial))
 | done k =>
  obtain ⟨hdn,_⟩:=hst
  refine aO rfl ?_
  simp only [bG,bE]
  refine aE D3.recd rfl rfl (aY ?_)
  rw [hdn]
  refine aO rfl (aE D3.recd rfl rfl (b9 ?_))
  have hr:r3.rest=s.drop ((p+7) / 8):=by rw [hrs]; unfold pX; simp
  rw [hr]
  refine aG ?_ ?_ <;> intro e
  ·have e : ¬ s.drop ((p + 7) / 8) = [] := by simpa using e
   have:=hq h3 U trivial
   simp only [if_neg e] at this
   exact .inl this
  ·have e : s.drop ((p + 7) / 8) = [] := by simpa using e
   have:=hq h3 U trivial
   simp only [if_pos e] at this
   exact .inl this
theorem aF4 (hs : s.length < 1073741824) (hok : aF1 (Infl.run (dU o ra) (Infl.bitsOf s) 0 Infl.start).2) (hq : ∀ h', Upd (fun _ => False) h h' → Q (.tu [.s (vR (dU o ra) s).1, .i .i64 (vR (dU o ra) s).2]) h') : C Y65.id [.s s, .ag [.i .i64 o, .i .i64 ra]] h Q := by
 refine Y65.call ?_
 simp only [Y65.t]
 refine bQ (hk:=fun h1 l1 U1 R1=>?_)
 have R1:bD h1 h.length [.i .i64 o,.i .i64 ra]:=R1
 have e2:(AV.ag [.i .i64 o,.i .i64 ra]).parts.length=2:=rfl
 rw [e2]
 refine e7 R1 rfl ?_
 refine aGW (by omega) fun h2 n U2 hn=>?_
 simp only [cY,cX,xR]
 have U:=U1.then U2
 rw [Infl.go_run] at hn ⊢
 unfold vR at hq
 generalize Infl.run (dU o ra) (Infl.bitsOf s) 0 Infl.start=X at hok hn hq ⊢
 obtain ⟨p,x⟩:=X
 refine b9 (aB (aB ?_))
 cases x with
 | err e k =>
  obtain ⟨h1',h2'⟩:=yV hok
  have hc:(Out.err e k).code=e:=rfl
  simp only [hc,h1']
  exact aV (by simp [h2']) (.inl (hq h2 U))
 | wait k w c =>
  exact aV rfl (.inl (hq h2 U))
 | done k =>
  have hn:=hn rfl
  subst hn
  refine aO rfl ?_
  refine aG ?_ ?_ <;> intro e
  ·have e : ¬ s.drop ((p + 7) / 8) = [] := by
    have:(p+7) / 8<s.length:=by simp at e; omega
    intro hh
    have:=uT hh
    omega
   have:=hq h2 U
   simp only [if_neg e] at this
   exact .inl this
  ·have e : s.drop ((p + 7) / 8) = [] := by
    refine List.drop_eq_nil_of_le ?_
    simp at e; omega
   have:=hq h2 U
   simp only [if_pos e] at this
   exact .inl this
def aFQ [XR]:Prop:=∀ {h:aA} {Q:AV→aA→Prop},cT h→(∀ h',Upd (fun _=>False) h h'→Q (.b true) h')→C Y35.id [] h Q
end
end Go.Proofs.YtpaphfeihpgamaaDoor
namespace Go.Proofs.YtpaphfeihpgamaaDoor
open Go.GAM
open Go.Infl (bP dI bY Out Lim)
end Go.Proofs.YtpaphfeihpgamaaDoor
namespace Go.Proofs.YtpaphfeihpgamaaDoor
open Go.GAM
theorem aGZ:∀ c:Fin 256,bN .xor .u8 (IntKind.max .u8) ((c.1:Nat):Int)=((255 - c.1:Nat):Int):=by decide +kernel
theorem ofN {k:Nat} (hk:k<256):byteAV (UInt8.ofNat k) = .i .u8 (k:Int):=by
 unfold byteAV
 rw [UInt8.toNat_ofNat',Nat.mod_eq_of_lt hk]
theorem xY {n:Nat}:IntKind.wrap .u8 (n:Int)=((n % 256:Nat):Int):=by
 simp only [IntKind.wrap,IntKind.bits,IntKind.signed,Bool.false_and]
 have:(2:Int) ^ 8=256:=by decide
 rw [this]
 simp
def hdr (n:Nat):List UInt8:=[1,UInt8.ofNat (n % 256),UInt8.ofNat (n / 256),UInt8.ofNat (255 - n % 256),UInt8.ofNat (255 - n / 256)]
theorem aAF {n:Nat} (h:n<65536):(hdr n).map byteAV=[.i .u8 1,.i .u8 ((n % 256:Nat):Int),.i .u8 ((n / 256:Nat):Int),.i .u8 ((255 - n % 256:Nat):Int),.i .u8 ((255 - n / 256:Nat):Int)]:=by
 unfold hdr
 rw [List.map_cons,List.map_cons,List.map_cons,List.map_cons,List.map_cons,List.map_nil,ofN (by omega),ofN (by omega),ofN (by omega),ofN (by omega)]
 first | done | rfl
theorem aHE {n:Nat} {K:Int→Prop} (hk:K ((n / 256:Nat):Int)):kU .i64 (n:Int) 8 K:=by
 refine ⟨by decide, ?_⟩
 have e:(n:Int).fdiv (2 ^ (min (8:Int).toNat IntKind.i64.bits))=((n / 256:Nat):Int):=by
  show (n:Int).fdiv (2 ^ 8)=_
  rw [show (2:Int) ^ 8=((256:Nat):Int) by decide,Int.ofNat_fdiv]
 rw [e]; exact hk
section
variable [XR] {h:aA} {Q:AV→aA→Prop} {s:List UInt8}
theorem aAC (hG:s.length≤59∨wK) (hs:s.length≤65535) (hq:Q (.s (Infl.storedBytes s)) h):C Y28.id [.s s] h Q:=by
 refine Y28.call ?_
 simp only [Y28.t, ← Y28.p0.eq_1]
 refine cF fun h1 l1 U1 R1=>?_
 have R1:jE h1 h.length nilS:=R1
 refine Y28.i0 ?_
 simp only [Y28.t0, ← Y28.p1.eq_1]
 have e0:mmI false (s.length:Int) 65535=((s.length:Nat):Int):=by unfold mmI; simp only [cond_false]; split <;> omega
 refine aW e0 (aV (decide_eq_true rfl) ?_)
 refine Y28.i1 ?_
 simp only [Y28.t1, ← Y28.p0.eq_1]
 have n8:s.length / 256<256:=by omega
 refine aHE ?_
 rw [xY,xY,Nat.mod_eq_of_lt n8]
 refine aW (aGZ ⟨s.length % 256,Nat.mod_lt _ (by decide)⟩) (aHE ?_)
 rw [xY,Nat.mod_eq_of_lt n8]
 refine aW (aGZ ⟨s.length / 256,n8⟩) ?_
 refine dT (cs:=(hdr s.length).map byteAV) (by rw [aAF (by omega)] <;> rfl) rfl fun x h2 l2 U2 R2 F2=>?_
 have hx:¬ aN x h.length:=fun e=>by have:=F2 _ e; have:=U1.1; omega
 refine uJ (ns:=hdr s.length) (n0:=by show 0<5; decide) (R1.upd U2 fun h=>h) (by show 5≤64; decide) R2 hx fun h3 id U3 hid R3 B3=>?_
 have hl1:=R1.lt
 have hl2:=U2.1
 refine aDR (Nat.le_refl _) ?_
 rw [List.take_length]
 refine yG (bs:=hdr s.length) (ns:=s) (hG.imp (fun h=>by show 5+s.length≤64; omega) fun h=>h) R3 B3 (by omega) (by show 0<5; decide) (by omega) fun h4 id' N ex U4 hid' R4 B4=>?_
 refine y1 (Nat.le_refl _) (aV rfl ?_)
 have e1:(hdr s.length).length+s.length=(hdr s.length++s).length:=by simp
 rw [e1] at R4
 refine aG5 R4 B4 (b9 ?_)
 have hl3:=U3.1
 refine iM rfl (Upd.ext ?_) hq
 exact (((U1.then U2).own U3 (Nat.le_refl _)).trans U4 fun i hi e=>by omega)
end
def X1:aZ:=orR (aEB aEW) (aFX prog (@C xr0) (dV prog))
theorem aD2:jX prog X1:=fun w0 Fz μ f args h K hk=>
 hk.elim (qX w0 Fz μ f args h K) (aAG mixedOK sizeOK (vJ mixedOK sizeOK qX) (hZ _) (fun w0 Fz μb Y hY=>gX mixedOK sizeOK hY) w0 Fz μ f args h K)
noncomputable instance xr1:XR:=⟨X1⟩
theorem aGB {W:World}:b7 prog W (fun B=>B<W.heap.size) (fun _ _=>none) (@X xr1):=aD2 _ _ _
theorem yN {s:List UInt8} (hs:s.length<1073741824) : @pA xr1 s:=fun h Q i v hi S hq=>yJ (.inr (aEQ hs hi S hq))
theorem vN {h:aA} {Q:AV→aA→Prop} (hq:Q (.ag [.i .i64 65536,.i .i64 1100]) h):C Y54.id [] h Q:=by
 refine Y54.call ?_
 unfold Y54.t
 refine cF fun h1 l1 U1 R1=>hH R1 rfl rfl rfl fun h2 l2 U2 R2=>e7 R2 rfl ?_
 exact iM rfl (Upd.ext (U1.own U2 (Nat.le_refl _))) hq
theorem aE9 : @aFQ xr1:=by
 intro h Q O hq
 refine Y35.call ?_
 simp only [Y35.t, ← Y35.p0.eq_1]
 refine vN (aB9 O (by decide) fun h1 U1 _=>?_)
 have e1:vR (dU 65536 1100) [75,4,0]=([97],0):=by decide +kernel
 rw [e1]
 simp only [cY,cX]
 refine b9 (aB (vN (aB9 (O.upd U1 fun h=>h) (by decide) fun h2 U2 _=>?_)))
 have e2:(vR (dU 65536 1100) [75,4]).2=1:=by decide +kernel
 simp only [cY,cX]
 rw [e2]
 refine b9 (aB (aV (by decide) (aV (by decide) (aV (by decide) ?_))))
 refine aAC (.inl (by decide)) (by decide) (b9 (aV (by decide +kernel) ?_))
 refine uH (yN (by decide)) (by decide) (b9 (aV (by decide +kernel) ?_))
 refine uH (yN (by decide)) (by decide) (b9 ?_)
 refine Y35.i0 ?_
 simp only [Y35.t0]
 have e3:decide (Infl.fixedText [97,97,97,97,97,97]=[75,4,3,0])=true:=by decide +kernel
 rw [e3]
 exact iM rfl (Upd.ext (U1.then U2)) (hq _ (Upd.refl _ _))
end Go.Proofs.YtpaphfeihpgamaaDoor
namespace Go.Proofs.YtpaphfeihpgamaaDoor
open Go.GAM Go.RowKit Go.ChangeShapes
section
variable {H:Type} {enc:TypeId × Value→H} {w:World}
theorem aEZ {g:Nat} {cs:Array Value} {n:String} (hg:prog.globalNamed n=some g) (hv:w.var? prog n=some cs):tZ (g9 w fun _=>1) g (cs.toList.map (tW w fun _=>1)):=by
 obtain ⟨t,fr,h⟩:=aBW hg hv
 have hlt:g<w.heap.size:=(Array.getElem?_eq_some_iff.1 h).1
 refine ⟨rR w (fun _=>1) g, ?_, ?_, ?_, ?_⟩
 ·unfold g9
  rw [List.getElem?_append_left (by simpa using hlt),List.getElem?_map,List.getElem?_range hlt] <;> rfl
 ·simp only [rR,h]
 ·simp only [rR,h]; simp
 ·simp only [rR,h]
theorem aGL {l : List (String × DataW Unit)} (h1 : ("intrusion/inflate.order", Rows.laid_intrusion_inflate_order) ∈ l) (hL : laidMet prog l w) : cT (g9 w fun _ => 1) := by
 obtain ⟨g,t,cs,fuel,p,hg,ht,hv,hd⟩:=wV h1 hL
 obtain rfl:=Option.some.inj ((show prog.globalNamed "intrusion/inflate.order" = some 0 by kernel_rfl).symm.trans hg)
 obtain rfl:=Option.some.inj ((show (prog.globals[0]?).map (·.type)=some 90 by kernel_rfl).symm.trans ht)
 have hG:=aEZ hg hv
 obtain ⟨xs,m,rfl,hx,hlen,hl,hf⟩:=DataW.trod_array Tryd.underlying90 hd
 have c1:prog.cellsOf 3=1:=by kernel_rfl
 have c19:prog.cellsOf 90=19:=by kernel_rfl
 rw [c19] at hlen
 rw [c1] at hf
 have hxs:xs.map (·.1)=Infl.order.map fun n:Nat=>(.lit (.int .i64 (n:Int)):DataW Unit):=by
  have:=(congrArg Prod.fst hx).symm
  unfold Rows.laid_intrusion_inflate_order at this
  exact DataW.agg.inj this
 have e:cs.toList.map (tW w fun _=>1)=bB Infl.order:=by
  refine List.ext_getElem? fun i=>?_
  by_cases hi:i<19
  ·have h1 := hf i hi
   have h2:(xs.map (·.1))[i]? = (Infl.order.map fun n:Nat=>(.lit (.int .i64 (n:Int)):DataW Unit))[i]?:=by rw [hxs]
   obtain ⟨c,hc⟩:∃ c,cs.toList[i]? = some c:=⟨_,List.getElem?_eq_getElem (by omega)⟩
   have h3:(cs.toList.drop (i * 1)).take 1=[c]:=by
    rw [Nat.mul_one,List.drop_eq_getElem_cons (by omega)]
    simp only [List.take_succ_cons,List.take_zero]
    rw [List.getElem?_eq_getElem (by omega)] at hc
    rw [Option.some.inj hc]
   rw [h3] at h1
   obtain ⟨o,ho⟩:∃ o,Infl.order[i]? = some o:=⟨_,List.getElem?_eq_getElem (by show i<19; exact hi)⟩
   rw [List.getElem?_map,List.getElem?_map, ← h1,ho] at h2
   cases hy:DataW.trod (fun _=>()) prog w 0 (fun _=>true) false m 3 [c] with
   | none=>rw [hy] at h2; cases h2
   | some y =>
    rw [hy] at h2
    obtain ⟨n,e1,e2,_⟩:=DataW.trod_int (show prog.underlying 3=some (.int .i64) by kernel_rfl) hy
    have e1:=List.singleton_inj.1 e1
    subst e1 e2
    have e3:n=(o:Int):=by simpa using h2
    unfold bB
    rw [List.getElem?_map,List.getElem?_map,hc,ho]
    simp [tW,oH,e3]
  ·have h0 : Infl.order.length = 19 := rfl
   rw [List.getElem?_eq_none (by simp at hlen ⊢; omega),List.getElem?_eq_none (by unfold bB; rw [List.length_map,h0]; omega)]
 rw [e] at hG
 exact hG
theorem aBL {v a b:Value} (h:v.cells.toList=[a,b]):v = .agg #[a,b]:=by
 cases v <;> first | (simp [Value.cells] at h; done) | skip
 rename_i cs
 show Value.agg cs=_
 congr
 apply Array.ext'
 simpa [Value.cells] using h
theorem aEJ {v:Value} (k:InW enc prog w 23 v.cells.toList):∃ o ra:Int,aS (muC w fun _=>1) (.ag [.i .i64 o,.i .i64 ra]) v:=by
 obtain ⟨h1,h2⟩:=k.struct Tryd.underlying23
 have c2:prog.cellsOf 23=2:=by kernel_rfl
 have c1:prog.cellsOf 3=1:=by kernel_rfl
 rw [c2] at h1
 generalize hc:v.cells.toList=cs at h1 h2
 match cs,h1 with
 | [a, b], _ =>
  have k0:InW enc prog w 3 (([a,b].drop 0).take (prog.cellsOf 3)):=h2 0 _ rfl
  have k1:InW enc prog w 3 (([a,b].drop 1).take (prog.cellsOf 3)):=h2 1 _ rfl
  rw [c1] at k0 k1
  obtain ⟨o,f0,_⟩:=k0.int (show prog.underlying 3=some (.int .i64) by kernel_rfl)
  obtain ⟨ra,f1,_⟩:=k1.int (show prog.underlying 3=some (.int .i64) by kernel_rfl)
  have e0:a = .int .i64 o:=List.singleton_inj.1 (show [a]=[.int .i64 o] from f0)
  have e1:b = .int .i64 ra:=List.singleton_inj.1 (show [b]=[.int .i64 ra] from f1)
  subst e0
  subst e1
  rw [aBL hc]
  exact ⟨o,ra,.ag _ _ (.cons _ _ _ _ (.i _ _) (.cons _ _ _ _ (.i _ _) .nil))⟩
end
end Go.Proofs.YtpaphfeihpgamaaDoor
set_option maxRecDepth 100000
namespace Go.Proofs.YtpaphfeihpgamaaDoor
open Go.GAM
variable [XR]
noncomputable def Y40.body:Code:=(Tryd.f3.body).getD .skip
def Y40.ann:Ann:=(sl [0,3] (sq [0,3] (sl [0,3,11] (.br (sl [4] lf) lf)) (sl [0,3,5,6] (sl [5,6,7,8] (.seq 1 [4] lf lf)))))
theorem Y40.dist:aI (places Y40.ann Y40.body)=true:=by kernel_rfl
noncomputable def Y40.J (Q:AV→aA→Prop):JT:=bJ prog C Tryd.f3 Y40.ann Y40.body Q
def Y40.p0 (Q:AV→aA→Prop) (x4:Bool) (h:aA):Prop:=Y40.J Q 1 [(4,(AV.b x4))] h
def Y40.t0 (Q:AV→aA→Prop) (x4:Bool) (h:aA) (J:JT):Prop:=
Q (AV.b x4) h
theorem Y40.i0 {Q x4 h} (H:Y40.t0 Q x4 h (Y40.J Q)):Y40.p0 Q x4 h:=gR Y40.J Tryd.f3 Y40.dist [1,1,1,1,1] H
def Y40.t (Q:AV→aA→Prop) (x0:List UInt8) (x1:AV) (h:aA) (J:JT):Prop:=
cZ (some 23) x1 h fun v0 h1=>
(bif (decide ((400:Int)<(x0.length:Int))) then
(C Y35.id [] h1 fun v4 h5=>
asB v4 fun c6=>
Q (AV.b c6) h5)
else
(dG 2 v0 h1 fun v9=>
C Y48.id [(AV.s x0),v9] h1 fun v10 h11=>
aL 0 v10 fun v12=>
asS v12 fun l13=>
aL 1 v10 fun v14=>
asI .i64 v14 fun n15=>
dG 2 v0 h11 fun v17=>
C Y65.id [(AV.s x0),v17] h11 fun v18 h19=>
aL 0 v18 fun v20=>
asS v20 fun l21=>
aL 1 v18 fun v22=>
asI .i64 v22 fun n23=>
(bif (decide ((l13:List UInt8)=l21)) then
((bif (decide ((n15:Int)=n23)) then
(C Y35.id [] h19 fun v25 h26=>
asB v25 fun c27=>
J 1 [(4,(AV.b c27))] h26)
else
(J 1 [(4,(AV.b false))] h19)))
else
(J 1 [(4,(AV.b false))] h19))))
theorem Y40.call {K x0 x1 h} (H:Y40.t (aH h K) x0 x1 h (Y40.J (aH h K))):C Y40.id [(AV.s x0),x1] h K:=
 gC Y40.J Tryd.func3 Y40.dist H
end Go.Proofs.YtpaphfeihpgamaaDoor
namespace Go.Proofs.YtpaphfeihpgamaaDoor
open Go.GAM Go.RowKit Go.ChangeShapes
open Go.Infl (bP dI bY Out Lim)
section
variable [XR] {h:aA} {Q:AV→aA→Prop} {L:Lim} {s:List UInt8} {o ra:Int}
theorem aCC (aw:aFQ) (O:cT h) (hq:∀ h',Q (.b true) h'):C Y40.id [.s s,.ag [.i .i64 o,.i .i64 ra]] h Q:=by
 refine Y40.call ?_
 simp only [Y40.t, ← Y40.p0.eq_1]
 refine bQ (hk:=fun h1 l1 U1 R1=>?_)
 have R1:bD h1 h.length [.i .i64 o,.i .i64 ra]:=R1
 have e2:(AV.ag [.i .i64 o,.i .i64 ra]).parts.length=2:=rfl
 rw [e2]
 have O1:cT h1:=O.upd U1 fun h=>h
 refine aG ?_ ?_ <;> intro e
 ·exact aw O1 fun h2 U2=>aY (.inl (hq h2))
 ·have e : s.length ≤ 400 := by simp at e; omega
  refine e7 R1 rfl (aB9 O1 (by omega) fun h2 U2 hok=>?_)
  simp only [cY,cX]
  refine b9 (aB (e7 (R1.upd U2 fun h=>h) rfl (aF4 (by omega) hok fun h3 U3=>?_)))
  simp only [cY,cX]
  refine b9 (aB (aV (by simp) (aV (by simp) ?_)))
  refine aw ((O1.upd U2 fun h=>h).upd U3 fun h=>h) fun h4 U4=>aY (Y40.i0 ?_)
  simp only [Y40.t0]
  exact .inl (hq h4)
end
theorem walk_InflateAll {H:Type} {enc:TypeId × Value→H} {s:ByteArray} {v1:Value} (W:World) (hL:laidMet Tryd.prog Rows.inflateAllRow.laid W) (k0:InW enc Tryd.prog W 9 (Value.string s).cells.toList) (k1:InW enc Tryd.prog W 23 v1.cells.toList) :
  Calls Tryd.prog Y40.id #[.string s,v1] W fun e w'=>e = .returned (.bool true)∧Below W.heap.size W w':=by
 obtain ⟨o,ra,hv⟩:=aEJ k1
 exact uK mixedOK sizeOK aGB (by kernel_rfl) (szOf:=fun _=>1) (.cons _ _ _ _ (.s _ _ rfl) (.cons _ _ _ _ hv .nil)) (aCC aE9 (aGL (l:=Rows.inflateAllRow.laid) (List.mem_of_getElem? (i:=1) rfl) hL) fun _=>rfl)
end Go.Proofs.YtpaphfeihpgamaaDoor
