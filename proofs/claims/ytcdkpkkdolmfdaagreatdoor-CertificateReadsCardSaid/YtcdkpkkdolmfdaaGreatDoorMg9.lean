/- Lemmas (several texts in one). -/
import Derived.Test.YtcdkpkkdolmfdaaGreatDoorRows
import Derived.DataElems
import Derived.Test.YtcdkpkkdolmfdaaGreatDoorMg8
set_option linter.unusedVariables false
set_option linter.unusedSimpArgs false
set_option linter.unusedSectionVars false
set_option maxRecDepth 20000
namespace Go.Proofs.YtcdkpkkdolmfdaaGreatDoor
open Go.GAM Go.RowKit
def certZ:List AV:=[.s [],.s [],.s [],.i .i64 0,.i .i64 0,.sl none 0 none,.b false,.s []]
def aCC (h:aA) (Q:AV→aA→Prop):Except Int eH→Prop
 | .error e=>∀ h',Upd (fun _=>False) h h'→Q (.tu [.ag certZ,.i .i64 e]) h'
 | .ok c=>∀ cs h',Upd (fun _=>False) h h'→CV h' c cs→Q (.tu [.ag cs,.i .i64 0]) h'
section
variable {h h0:aA} {id:Nat} {Q:AV→aA→Prop} {s:List UInt8}
theorem gP {e:Int} {cs:List AV} (hq:aCC h0 Q (.error e)) (U:Upd (fun _=>False) h0 h) (hid:h0.length≤id) (R:bC h id cs) (hl:cs.length=8) {K:AV→aA→Prop} (hK:∀ h',Q (.tu [.ag certZ,.i .i64 e]) h'→K (.ag certZ) h') :
  aP 8 (.p (some ⟨id,8,0⟩)) (.ag certZ) h fun h4=>aD 8 (.p (some ⟨id,8,0⟩)) h4 fun v=>K v h4:=by
 refine aW R hl.symm rfl rfl fun h1 hl1 U1 R1=>aT R1 rfl (hK h1 (hq h1 (U.own U1 hid)))
theorem aGD {v:AV} {cs:List AV} (hq:aCC h0 Q (.error 2)) (U:Upd (fun _=>False) h0 h) (hid:h0.length≤id) (R:bC h id cs) (hl:cs.length=8):Y46.p0 (aL h0 Q) (.p (some ⟨id,8,0⟩)) v true h:=by
 refine Y46.i0 ?_
 simp only [Y46.t0]
 exact aO rfl (gP hq U hid R hl fun h' hx=>.inl hx)
theorem aNI {l:List Der} (h1:7≤l.length):∃ a b c d e f g xs,l=a :: b :: c :: d :: e :: f :: g :: xs:=by
 match l,h1 with
 | a :: b :: c :: d :: e :: f :: g :: xs,_=>exact ⟨a,b,c,d,e,f,g,xs,rfl⟩
def aAM (o:Option eH):Except Int eH:=match o with
 | some c=>.ok c
 | none=>.error 2
theorem aGG {F:Nat→Prop} {v:AV} {x:Der} {rx cs:List AV} (G:CG2 h) (A:KAt h F v 0 x rx) (hF:∀ i,F i→i<h.length) (fx:Fit x) (h7:7≤x.kids.length) (h8:x.kids.length≤8) (hq:aCC h0 Q (aAM (bX x.kids))) (U:Upd (fun _=>False) h0 h) (hid:h0.length≤id) (R:bC h id cs) (hl:cs.length=8) :
  Y46.p0 (aL h0 Q) (.p (some ⟨id,8,0⟩)) v false h:=by
 have hidl:=R.lt
 obtain ⟨w,rs,g,K,ld⟩:=A.f4
 have a0:∀ (h':aA),Upd (fun _=>False) h h'→∀ K:AV→Prop,aB 5 v (.i .i64 0) h' K=K (ptr v 5 0 0):=A.idx
 obtain ⟨a,b,c,d,e,f,g',xs,hks⟩:=aNI h7
 rw [hks] at K hq h8
 refine Y46.i0 ?_
 simp only [Y46.t0]
 refine aN rfl (dP rfl fun h1 hl1 U1 R1=>?_)
 rw [a0 h1 U1,A.fa,ld h1 U1]
 refine aGL (hb:=h) (id:=h.length) hF (Nat.le_refl _) G K (fun k hk=>fx.kid (by rw [hks]; exact hk)) (by simp at h8; omega) (fun h2 ser iss sub frm til nv au key bad U2 R2 hb' hc=>?_) U1 R1
 have hU2:Upd (fun _=>False) h0 h2:=U.trans U2 fun _ _ h=>h
 have Rr:bC h2 id cs:=R.upd U2 fun h=>h
 refine bI (aK (aM R2 rfl rfl (aS ?_)))
 cases hs:bX (a :: b :: c :: d :: e :: f :: g' :: xs) with
 | none =>
  rw [hs] at hb' hq
  subst hb'
  exact aO rfl (gP hq hU2 hid Rr hl fun h' hx=>.inl hx)
 | some y =>
  rw [hs] at hb' hq
  subst hb'
  obtain ⟨e1,e2,e3,e4,e5,e6,e7,e8,e9⟩:=hc y hs
  subst e1 e2 e3 e4 e5 e6 e7
  refine aN rfl (bI (aK ?_))
  obtain ⟨bl,g1,g2,g3,g4⟩:=R2
  refine ⟨bl,g1,⟨g3,by rw [g2]; exact Nat.le_refl _,by show 0+0+8≤9; omega⟩, ?_⟩
  rw [g2]
  show aP 8 _ (.ag (jU y nv)) h2 _
  have V:CV h2 y (jU y nv):=⟨nv,rfl,e8⟩
  refine aW Rr hl.symm V.len V.ok fun h3 hl3 U3 R3=>aT R3 V.len.symm (.inl (hq _ h3 (hU2.own U3 hid) ?_))
  refine ⟨nv,rfl,e8.upd U3 fun i hi e=>?_⟩
  have:=e9 i hi
  omega
end
end Go.Proofs.YtcdkpkkdolmfdaaGreatDoor
namespace Go.Proofs.YtcdkpkkdolmfdaaGreatDoor
open Go.GAM Go.RowKit
def fT (d:Der):Except Int eH:=if cL d=true then (match d.kids with
 | [a,b,c]=>if (cL a&&(cL b&&kE c))=true then aAM (bX a.kids) else .error 2
 | _=>.error 2) else .error 2
theorem rW (s:List UInt8):mJ s=if 65535<s.length then .error 3 else match j5 s with
 | .error e=>.error e
 | .ok d=>fT d:=by
 unfold mJ fT aAM
 rfl
theorem sZ {l:List Der} (h:l.length<7):bX l=none:=by
 unfold bX
 split
 ·simp at h; omega
 ·rfl
theorem qR {l:List Der} (h:8<l.length):bX l=none:=by
 unfold bX
 split
 ·rename_i a b c d e f g x
  have hx:o4 x=none:=by
   match x,h with
   | [],h=>simp at h
   | [_],h=>simp at h
   | _ :: _ :: _,_=>rfl
  rw [hx]
  split
  ·split
   ·rename_i h5; cases h5
   ·rfl
  ·rfl
 ·rfl
theorem aFV {s : List UInt8} {h : aA} {Q : AV → aA → Prop} (G : CG2 h) (hq : aCC h Q (mJ s)) : C Y46.id [.s s] h Q := by
 refine Y46.call ?_
 simp only [Y46.t, ← Y46.p0.eq_1]
 refine bR fun h1 hl1 U1 R1=>?_
 rw [rW] at hq
 refine aG (fun e=>?_) fun e=>?_
 ·have e := of_decide_eq_true e
  rw [if_pos (by omega)] at hq
  exact gP hq U1 (Nat.le_refl _) R1 rfl fun h' hx=>.inl hx
 ·have e := of_decide_eq_false e
  rw [if_neg (by omega)] at hq
  refine aCR ?_
  cases hd:j5 s with
  | error e =>
   rw [hd] at hq
   intro h2 U2
   refine aY (aZ (aQ (bR fun h3 hl3 U3 R3=>aW R3 rfl rfl rfl fun h4 hl4 U4 R4=>?_)))
   have V4:Upd (fun _=>False) h1 h4:=(U2.then U3).own U4 (by have:=U2.1; omega)
   refine aO (by simp [nS hd]) ?_
   exact gP hq (U1.then V4) (Nat.le_refl _) (R1.upd V4 fun h=>h) rfl fun h' hx=>.inl hx
  | ok d =>
   rw [hd] at hq
   intro cs h2 U2 D2
   have fd:=Fit.of hd
   refine aY (aZ (aQ (bR fun h3 hl3 U3 R3=>aW R3 rfl D2.len D2.cells' fun h4 hl4 U4 R4=>?_)))
   have U24:Upd (fun _=>False) h2 h4:=U3.own U4 (Nat.le_refl _)
   have V4:Upd (fun _=>False) h1 h4:=(U2.then U3).own U4 (by have:=U2.1; omega)
   have D4:=D2.ext U24
   have G4:CG2 h4:=G.up (U1.then V4)
   have R14:=R1.upd V4 fun h=>h
   refine aN rfl ?_
   simp only [aX G4.g.seq]
   refine aT R4 D2.len.symm ?_
   obtain ⟨w,rs,g1,g2,g3,g4,g5⟩:=D4.kidsLen
   refine nY D4 g1 fun h5 U5=>?_
   have U05:Upd (fun _=>False) h h5:=(U1.then V4).then U5
   have V5:Upd (fun _=>False) h1 h5:=V4.then U5
   have K:KL h5 (fun i=>h1.length≤i∧i<h4.length) w d.kids rs:=⟨(D4.upd U5 (F':=fun i=>h1.length≤i∧i<h4.length) fun i hi hl=>⟨fun h=>h,hi,hl⟩) |> fun D5=>by
    exact (g2.upd U5 fun i hi hl=>⟨fun h=>h,hi,hl⟩),g3.upd U5 fun _ _ _ h=>h,fun i hi=>⟨(g5 i hi).1,(g5 i hi).2⟩⟩
   have R15:=R14.upd U5 fun h=>h
   have G5:=G4.up U5
   refine aY (aZ (aS ?_))
   have hq:aCC h Q (fT d):=hq
   have hF:∀ i,(h1.length≤i∧i<h4.length)→i<h5.length:=fun i hi=>Nat.lt_of_lt_of_le hi.2 U5.1
   have fail:fT d = .error 2→Y46.p0 (aL h Q) (.p (some ⟨h.length,8,0⟩)) w true h5:=by
    intro hp
    rw [hp] at hq
    exact aGD hq U05 (Nat.le_refl _) R15 rfl
   cases hs:(isS 0 16 true d&&(decide ((3:Int)<0)||decide ((d.kids.length:Int)=3))) with
   | false =>
    refine aO rfl (fail ?_)
    unfold fT
    split
    ·rename_i h1
     rw [show isS 0 16 true d=true from h1] at hs
     split
     ·rename_i hk; rw [hk] at hs; simp at hs
     ·rfl
    ·rfl
   | true =>
    rw [Bool.and_eq_true,Bool.or_eq_true,decide_eq_true_eq,decide_eq_true_eq] at hs
    obtain ⟨hs1,hs2⟩:=hs
    obtain ⟨a,b,c,hk⟩:∃ a b c,d.kids=[a,b,c]:=by
     match d.kids,(show d.kids.length=3 by omega) with
     | [a,b,c],_=>exact ⟨a,b,c,rfl⟩
    have hp:fT d=if (cL a&&(cL b&&kE c))=true then aAM (bX a.kids) else .error 2:=by
     unfold fT
     rw [if_pos (show cL d=true from hs1),hk]
    obtain ⟨ra,A0⟩:=K.at (i:=0) (k:=a) (by rw [hk] <;> rfl)
    obtain ⟨rb,A1⟩:=K.at (i:=1) (k:=b) (by rw [hk] <;> rfl)
    obtain ⟨rc,A2⟩:=K.at (i:=2) (k:=c) (by rw [hk] <;> rfl)
    have u:=Upd.refl (fun _=>False) h5
    have a0:∀ K:AV→Prop,aB 5 w (.i .i64 0) h5 K=K (ptr w 5 0 0):=A0.idx h5 u
    have a1:∀ K:AV→Prop,aB 5 w (.i .i64 1) h5 K=K (ptr w 5 1 0):=A1.idx h5 u
    have a2:∀ K:AV→Prop,aB 5 w (.i .i64 2) h5 K=K (ptr w 5 2 0):=A2.idx h5 u
    obtain ⟨w',rs',e1,K',ld⟩:=A0.f4
    have fa:Fit a:=fd.kid (by rw [hk]; simp)
    refine aN rfl ?_
    simp only [aX G5.g.seq,aX G5.bits,a0,a1,a2,A0.ld h5 u,A1.ld h5 u,A2.ld h5 u,A0.fa,ld h5 u,K'.rd.plen,bL,true_and]
    refine dL A0.dv (aS ?_)
    simp only [aX G5.g.seq,aX G5.bits,a0,a1,a2,A0.ld h5 u,A1.ld h5 u,A2.ld h5 u,A0.fa,ld h5 u,K'.rd.plen,bL,true_and]
    refine aG (fun e=>?_) fun e=>?_
    ·have e : isS 0 16 true a = false := by simpa using e
     exact fail (by rw [hp,show cL a=false from e] <;> rfl)
    have ea:cL a=true:=show isS 0 16 true a=true by simpa using e
    refine dL A1.dv (aS ?_)
    simp only [aX G5.g.seq,aX G5.bits,a0,a1,a2,A0.ld h5 u,A1.ld h5 u,A2.ld h5 u,A0.fa,ld h5 u,K'.rd.plen,bL,true_and]
    refine aG (fun e=>?_) fun e=>?_
    ·have e : isS 0 16 true b = false := by simpa using e
     exact fail (by rw [hp,show cL b=false from e,ea] <;> rfl)
    have eb:cL b=true:=show isS 0 16 true b=true by simpa using e
    refine dL A2.dv (aS ?_)
    simp only [aX G5.g.seq,aX G5.bits,a0,a1,a2,A0.ld h5 u,A1.ld h5 u,A2.ld h5 u,A0.fa,ld h5 u,K'.rd.plen,bL,true_and]
    refine aG (fun e=>?_) fun e=>?_
    ·have e : isS 0 3 false c = false := by simpa using e
     exact fail (by rw [hp,show kE c=false from e,ea,eb] <;> rfl)
    have ec:kE c=true:=show isS 0 3 false c=true by simpa using e
    have hp:fT d=aAM (bX a.kids):=by rw [hp,ea,eb,ec] <;> rfl
    rw [hp] at hq fail
    refine aG (fun e=>?_) fun e=>?_
    ·have e := of_decide_eq_true e
     exact fail (by rw [sZ (by omega)] <;> rfl)
    have e:=of_decide_eq_false e
    by_cases e8:8<a.kids.length
    ·rw [decide_eq_true (by omega)]
     exact fail (by rw [qR e8] <;> rfl)
    rw [decide_eq_false (by omega)]
    exact aGG G5 A0 hF fa (by omega) (by omega) hq U05 (Nat.le_refl _) R15 rfl
end Go.Proofs.YtcdkpkkdolmfdaaGreatDoor
namespace Go.GAM
theorem b5 {ty:Option TypeId} {n:Nat} {cells:List AV} {h:aA} {K:AV→aA→Prop} (hn:cells.length=n) (hk:∀ h',h'.length=h.length+1→Upd (fun _=>False) h h'→bC h' h.length cells→K (.p (some ⟨h.length,n,0⟩)) h'):bS ty cells h K:=by
 subst hn; exact bR hk
theorem tR {ty:Option TypeId} {n:Nat} {x:AV} {h:aA} {K:AV→aA→Prop} (hn:x.parts.length=n) (hs:x.sizeOK=true:=by rfl) (hk:∀ h',h'.length=h.length+1→Upd (fun _=>False) h h'→bC h' h.length x.parts→K (.p (some ⟨h.length,n,0⟩)) h'):dQ ty x h K:=by
 subst hn; exact dP hs hk
end Go.GAM
namespace Go.Proofs.YtcdkpkkdolmfdaaGreatDoor
open Go.GAM Go.RowKit
section
variable {h:aA} {Q:AV→aA→Prop}
theorem fK {c t:Int} {m:Bool} {d:Der} {cs:List AV} {F:Nat→Prop} (D:DV h F d cs) (hq:Q (.b (isS c t m d)) h):C Y33.id [.ag cs,.i .i64 c,.i .i64 t,.b m] h Q:=by
 cases D with
 | @mk c' t' m' s ks v rows Dk sv fv ov=>
 refine Y33.call ?_
 simp only [Y33.t, ← Y33.p0.eq_1]
 refine dP rfl fun h1 hl1 U1 R1=>?_
 have E:=U1.ext
 have fin:∀ b,b=isS c t m (.mk c' t' m' s ks)→Y33.p0 (aL h Q) b h1:=by
  intro b hb; subst hb
  refine Y33.i0 ?_
  simp only [Y33.t0]
  exact aU rfl E hq
 refine aK (aM R1 rfl rfl (aQ (aG (fun e=>?_) fun e=>fin _ (by show false=(decide (c'=c)&&_); rw [e] <;> rfl))))
 refine aK (aM R1 rfl rfl (aQ (aG (fun e2=>?_) fun e2=>fin _ (by show false=(decide (c'=c)&&(decide (t'=t)&&_)); rw [e,e2] <;> rfl))))
 exact aK (aM R1 rfl rfl (aS (fin _ (by show _=(decide (c'=c)&&(decide (t'=t)&&_)); rw [e,e2] <;> rfl))))
theorem aFF {d:Der} {cs:List AV} {F:Nat→Prop} (D:DV h F d cs) (hq:Q (.b (kE d)) h):C Y79.id [.ag cs] h Q:=by
 refine Y79.call ?_
 simp only [Y79.t]
 exact D.box fun h1 hl1 U1 R1 D1=>aT R1 D1.len.symm (fK D1 (aS (aU rfl U1.ext hq)))
theorem aA3 {d:Der} {cs:List AV} {F:Nat→Prop} (D:DV h F d cs) (hq:Q (.b (eA d)) h):C Y60.id [.ag cs] h Q:=by
 refine Y60.call ?_
 simp only [Y60.t, ← Y60.p0.eq_1]
 refine D.box fun h1 hl1 U1 R1 D1=>aT R1 D1.len.symm (fK D1 (aS ?_))
 have fin:∀ b,b=eA d→Y60.p0 (aL h Q) b h1:=by
  intro b hb; subst hb
  refine Y60.i0 ?_
  simp only [Y60.t0]
  exact aU rfl U1.ext hq
 refine aG (fun e=>aK (aM R1 D1.len.symm D1.dat (bA (fin _ ?_)))) fun e=>fin _ ?_
 ·unfold eA; rw [e,Bool.true_and,decide_eq_decide]; omega
 ·unfold eA; rw [e] <;> rfl
theorem aOM {s:List UInt8} (hs:s.length≤100000000) (hq:Q (.s (hZ s)) h):C Y48.id [.s s] h Q:=by
 refine Y48.call ?_
 simp only [Y48.t, ← Y48.p0.eq_1]
 have loop:∀ (k i:Nat),i+k=s.length→Y48.p0 (aL h Q) s vW (hZ (s.take i)) i h:=by
  intro k
  induction k with
  | zero =>
   intro i hi
   obtain rfl:i=s.length:=by omega
   refine Y48.i0 ?_
   simp only [Y48.t0, ← Y48.p0.eq_1]
   rw [List.take_length]
   exact aN (by simp) (.inl hq)
  | succ k ih =>
   intro i hi
   have hlt:i<s.length:=by omega
   have hhl:=uI (s.take i)
   rw [List.length_take,Nat.min_eq_left (by omega)] at hhl
   have hc:=(s[i]).toNat_lt
   refine Y48.i0 ?_
   simp only [Y48.t0, ← Y48.p0.eq_1]
   refine aO (by simp; omega) ?_
   refine cS (i:=i) (List.drop_eq_getElem_cons hlt) ?_
   rw [aJ (by omega) (by omega)]
   refine j3 (b:=16) (by omega) (by omega) ?_
   refine cS (i:=i) (List.drop_eq_getElem_cons hlt) ?_
   rw [aJ (by omega) (by omega)]
   refine iW (b:=16) (by omega) ?_
   refine aI (n:=(((s[i]).toNat / 16+1:Nat):Int)) (by rw [aJ (by omega) (by omega)]; omega) ?_
   refine pZ (by omega) (by show _≤16; omega) (oE _ (by omega)) ?_
   refine ⟨by rw [hhl]; simp; omega, ?_⟩
   refine aI (n:=(((s[i]).toNat % 16+1:Nat):Int)) (by rw [aJ (by omega) (by omega)]; omega) ?_
   refine pZ (by omega) (by show _≤16; omega) (oE _ (by omega)) ?_
   refine ⟨by simp [hhl]; omega, ?_⟩
   refine inc (by omega) ?_
   rw [List.append_assoc, ← zA, ← List.take_succ_eq_append_getElem hlt]
   exact ih (i+1) (by omega)
 exact loop s.length 0 (by omega)
theorem zV (o:List UInt8):gU o=if o=[50,46,53,46,52,46,51] then [67,78] else if o=[50,46,53,46,52,46,49,48] then [79] else if o=[50,46,53,46,52,46,49,49] then [79,85] else if o=[50,46,53,46,52,46,54] then [67] else []:=by
 by_cases h1:o=[50,46,53,46,52,46,51]
 ·subst h1; decide
 by_cases h2:o=[50,46,53,46,52,46,49,48]
 ·subst h2; decide
 by_cases h3:o=[50,46,53,46,52,46,49,49]
 ·subst h3; decide
 by_cases h4:o=[50,46,53,46,52,46,54]
 ·subst h4; decide
 rw [if_neg h1,if_neg h2,if_neg h3,if_neg h4]
 unfold gU cK
 simp only [List.foldl]
 rw [if_neg (fun h=>h4 h.symm),if_neg (fun h=>h3 h.symm),if_neg (fun h=>h2 h.symm),if_neg (fun h=>h1 h.symm)]
def iO (d:Der):List UInt8 × Bool:=if (eB d).2=true∧gU (eB d).1≠[] then (gU (eB d).1,true) else ([],false)
theorem aLI {d:Der} {cs:List AV} {F:Nat→Prop} (D:DV h F d cs) (hd:d.data.length≤100000) (hq:Q (.tu [.s (iO d).1,.b (iO d).2]) h):C Y96.id [.ag cs] h Q:=by
 refine Y96.call ?_
 simp only [Y96.t]
 refine D.box fun h1 hl1 U1 R1 D1=>aT R1 D1.len.symm (aKA D1 hd (aY (bA (aZ (aS ?_)))))
 unfold iO at hq
 rw [zV] at hq
 cases hb:(eB d).2 with
 | false =>
  rw [hb] at hq
  exact aO rfl (aU rfl U1.ext (by simpa using hq))
 | true =>
  rw [hb] at hq
  refine aN rfl ?_
  generalize (eB d).1=o at hq
  by_cases h1:o=[50,46,53,46,52,46,51]
  ·exact aO (decide_eq_true h1) (aU rfl U1.ext (by simpa [h1] using hq))
  refine aN (decide_eq_false h1) ?_
  by_cases h2:o=[50,46,53,46,52,46,49,48]
  ·exact dX (decide_eq_true h2) (aO rfl (aU rfl U1.ext (by simpa [h2] using hq)))
  refine dX (decide_eq_false h2) (aN rfl ?_)
  by_cases h3:o=[50,46,53,46,52,46,49,49]
  ·exact dX (decide_eq_true h3) (aO rfl (aU rfl U1.ext (by simpa [h3] using hq)))
  refine dX (decide_eq_false h3) (aN rfl ?_)
  by_cases h4:o=[50,46,53,46,52,46,54]
  ·exact aO (decide_eq_true h4) (aU rfl U1.ext (by simpa [h4] using hq))
  exact aN (decide_eq_false h4) (aU rfl U1.ext (by simpa [h1,h2,h3,h4] using hq))
end
end Go.Proofs.YtcdkpkkdolmfdaaGreatDoor
namespace Go.Proofs.YtcdkpkkdolmfdaaGreatDoor
open Go.GAM Go.RowKit
theorem aHQ (x:List UInt8) (sep:List UInt8):∀ l:List (List UInt8),l≠[]→Lib.join (l++[x]) sep=Lib.join l sep++sep++x
 | [],h=>absurd rfl h
 | a :: r, _ => by
  rw [List.cons_append,Lib.join_cons,Lib.join_cons]
  unfold Lib.joinTail
  simp [List.append_assoc]
theorem aAJ {c:UInt8} {n:Nat} (h:c≠UInt8.ofNat n):decide ((c.toNat:Int)=(n:Int))=false:=by
 refine decide_eq_false fun e=>h ?_
 have:c.toNat=n:=by omega
 rw [← this]; simp
section
variable {h0 hb:aA} {Q:AV→aA→Prop} {x1:AV} {v:List UInt8} {i:Nat}
theorem aI5 {h : aA} (hv : v.length ≤ 100000) (hi : i ≤ 4000) : ∀ (r : List UInt8) (k : Nat) (out : List UInt8), v.drop k = r → out.length + 2 * r.length ≤ 2000000000 → Y3.p0 Q x1 (out ++ bW sps r) (i + 1 : Nat) h → Y3.p4 Q x1 out i v k h := by
 intro r
 induction r with
 | nil =>
  intro k out hr hl hq
  have:=cA hr
  refine Y3.i4 ?_
  simp only [Y3.t4, ← Y3.p0.eq_1, ← Y3.p5.eq_1]
  rw [rC,List.append_nil] at hq
  exact aN (by simp; omega) (inc (by omega) hq)
 | cons c r ih =>
  intro k out hr hl hq
  have hlt:=cG hr
  have hn:=b3 hr
  simp only [List.length_cons] at hl
  rw [iG, ← List.append_assoc] at hq
  have p6:∀ o:List UInt8,o.length≤out.length+1→Y3.p0 Q x1 (o++[c]++bW sps r) (i+1:Nat) h→Y3.p6 Q x1 o i v k h:=by
   intro o ho hk
   refine Y3.i6 ?_
   simp only [Y3.t6, ← Y3.p4.eq_1]
   refine inc (by omega) (wT (lo:=k) (hi:=k+1) (by omega) (by omega) ?_)
   have e:(v.take (k+1)).drop k=[c]:=by
    rw [dH (b4 hr),List.drop_left' (by rw [List.length_take]; omega)]
   rw [e]
   exact ⟨by simp; omega,inc (by omega) (ih (k+1) (o++[c]) hn (by simp; omega) hk)⟩
  have p5:∀ b,b=decide (c∈sps)→Y3.p5 Q x1 out i v k b h:=by
   intro b hb
   subst hb
   refine Y3.i5 ?_
   simp only [Y3.t5, ← Y3.p6.eq_1]
   by_cases hc:c∈sps
   ·rw [if_pos hc] at hq
    refine aO (decide_eq_true hc) ⟨by simp; omega,p6 _ (by simp) ?_⟩
    simpa using hq
   ·rw [if_neg hc] at hq
    exact aN (decide_eq_false hc) (p6 _ (by simp) hq)
  refine Y3.i4 ?_
  simp only [Y3.t4, ← Y3.p0.eq_1, ← Y3.p5.eq_1]
  refine aO (by simp; omega) (cS hr ?_)
  by_cases h1:c=44
  ·subst h1; exact aO rfl (p5 _ (by decide))
  refine aN (aAJ (n:=44) h1) (cS hr ?_)
  by_cases h2:c=61
  ·subst h2; exact aO rfl (p5 _ (by decide))
  refine aN (aAJ (n:=61) h2) (cS hr ?_)
  by_cases h3:c=92
  ·subst h3; exact p5 _ (by decide)
  rw [show (decide ((c.toNat:Int)=92))=false from aAJ (n:=92) h3]
  exact p5 _ (by simp [sps,h1,h2,h3])
theorem aD9 {a b:Der} (h1:(iO a).2=true) (h2:(eY b).2=true):gK a b=some ((iO a).1++[61]++bW sps (eY b).1)∧(iO a).1.length≤2:=by
 unfold iO at *
 split at h1
 ·rename_i h
  rw [if_pos h]
  unfold gK
  rw [if_pos ⟨h.1,h2,h.2⟩]
  exact ⟨rfl,pD _⟩
 ·cases h1
theorem aBT {a b:Der} (h1:(iO a).2=false):gK a b=none:=by
 unfold iO at h1
 split at h1
 ·cases h1
 ·rename_i h
  unfold gK
  rw [if_neg fun h'=>h ⟨h'.1,h'.2.2⟩]
theorem aBX {a b:Der} (h1:(eY b).2=false):gK a b=none:=by
 unfold gK
 rw [if_neg fun h'=>by rw [h1] at h'; cases h'.2.1]
theorem aC3 {h : aA} {a b : Der} {done : List (List UInt8)} (hb : b.data.length ≤ 100000) (hi : i ≤ 4000) (hd : done.length = i) (hl : ∀ x ∈ done, x.length ≤ 200010) {bad : Bool} (hbad : bad = !((iO a).2 && (eY b).2))
  (hq:∀ x,gK a b=some x→Y3.p0 Q x1 (Lib.join (done++[x]) [44]) (i+1:Nat) h) (hf:gK a b=none→Q (.tu [.s [],.i .i64 2]) h) :
  Y3.p2 Q x1 (Lib.join done [44]) i (iO a).1 (eY b).1 bad h:=by
 refine Y3.i2 ?_
 simp only [Y3.t2, ← Y3.p3.eq_1]
 subst hbad
 have hdl:=wU b
 have hjl:(Lib.join done [44]).length≤done.length * 200011:=aBQ 44 200010 done hl
 have hjl:(Lib.join done [44]).length≤4000 * 200011:=Nat.le_trans hjl (Nat.mul_le_mul_right _ (by omega))
 cases h1:(iO a).2 with
 | false=>exact aO rfl (hf (aBT h1))
 | true =>
  cases h2:(eY b).2 with
  | false=>exact aO rfl (hf (aBX h2))
  | true =>
   obtain ⟨e1,e2⟩:=aD9 h1 h2
   have hq:=hq _ e1
   have p3:∀ o:List UInt8,o.length≤4000 * 200011+1→(o++((iO a).1++[61]++bW sps (eY b).1)=Lib.join (done++[(iO a).1++[61]++bW sps (eY b).1]) [44])→Y3.p3 Q x1 o i (iO a).1 (eY b).1 h:=by
    intro o ho he
    refine Y3.i3 ?_
    simp only [Y3.t3, ← Y3.p4.eq_1]
    refine ⟨by omega,⟨by simp; omega, ?_⟩⟩
    refine aI5 (by omega) hi _ 0 _ rfl (by simp; omega) ?_
    rw [← he] at hq
    simpa using hq
   refine aN rfl (aG (fun e=>?_) fun e=>?_)
   ·have e := of_decide_eq_true e
    refine ⟨by simp; omega,p3 _ (by simp; omega) ?_⟩
    rw [aHQ _ _ _ (by intro hn; rw [hn] at hd; simp at hd; omega)]
   ·have e := of_decide_eq_false e
    have:done=[]:=List.eq_nil_of_length_eq_zero (by omega)
    subst this
    refine p3 _ (by omega) ?_
    simp [Lib.join_nil,Lib.join_cons,Lib.joinTail]
theorem aKZ {h:aA} {id id2:Nat} {a b:Der} {F:Nat→Prop} {w2:AV} {s k:Der} {rs':List (List AV)} {rk cs2:List AV} (R2:bC h id2 cs2) (hl2:cs2.length=5) (hw2:cs2[4]? = some w2) (K2:KL h F w2 [k] rs') (hk:k.kids=[a,b]) {done:List (List UInt8)}
  (ha:a.data.length≤100000) (hb:b.data.length≤100000) (hi:i≤4000) (hd:done.length=i) (hl:∀ x∈done,x.length≤200010)
  (hq:∀ x,gK a b=some x→Y3.p0 Q x1 (Lib.join (done++[x]) [44]) (i+1:Nat) h) (hf:gK a b=none→Q (.tu [.s [],.i .i64 2]) h) :
  Y3.p1 Q x1 (Lib.join done [44]) i (.p (some ⟨id2,5,0⟩)) false h:=by
 obtain ⟨rk,A⟩:=K2.at (i:=0) (k:=k) rfl
 obtain ⟨wk,rsk,g,K,ld⟩:=A.f4
 obtain ⟨ra,Aa⟩:=K.at (i:=0) (k:=a) (by rw [hk] <;> rfl)
 obtain ⟨rb,Ab⟩:=K.at (i:=1) (k:=b) (by rw [hk] <;> rfl)
 have u:=Upd.refl (fun _=>False) h
 have a0:∀ K:AV→Prop,aB 5 w2 (.i .i64 0) h K=K (ptr w2 5 0 0):=A.idx h u
 have k0:∀ K:AV→Prop,aB 5 wk (.i .i64 0) h K=K (ptr wk 5 0 0):=Aa.idx h u
 have k1:∀ K:AV→Prop,aB 5 wk (.i .i64 1) h K=K (ptr wk 5 1 0):=Ab.idx h u
 refine Y3.i1 ?_
 simp only [Y3.t1, ← Y3.p2.eq_1]
 refine aN rfl ?_
 simp only [dC,fL R2 hl2.symm hw2,a0,k0,k1,A.fa,ld h u,Aa.ld h u,Ab.ld h u,Nat.zero_add]
 refine aLI Aa.dv ha (aY (bA (aZ (aS ?_))))
 simp only [dC,fL R2 hl2.symm hw2,a0,k0,k1,A.fa,ld h u,Aa.ld h u,Ab.ld h u,Nat.zero_add]
 refine aMD Ab.dv hb (aY (bA (aZ (aS ?_))))
 refine aG (fun e=>?_) fun e=>?_
 ·exact aC3 hb hi hd hl (by
   have:(iO a).2=false:=by simpa using e
   rw [this] <;> rfl) hq hf
 ·exact aC3 hb hi hd hl (by
   have:(iO a).2=true:=by simpa using e
   rw [this] <;> rfl) hq hf
end
section
variable {h0 hb:aA} {Q:AV→aA→Prop}
theorem aJ9 {d : Der} {cs : List AV} {id : Nat} {F : Nat → Prop} {w : AV} {rows : List (List AV)} (E0 : Ext h0 hb) (hs : o0 d) (R : bC hb id cs) (hcl : cs.length = 5) (hw : cs[4]? = some w) (L : KL hb F w d.kids rows) :
  ∀ (r : List Der) (i : Nat) (done : List (List UInt8)) (h : aA), d.kids.drop i = r → done.length = i → (∀ x ∈ done, x.length ≤ 200010) → Upd (fun _ => False) hb h → Q (pT (lL true done r)) h0 →
   Y3.p0 (aL h0 Q) (.p (some ⟨id,5,0⟩)) (Lib.join done [44]) i h:=by
 intro r
 induction r with
 | nil =>
  intro i done h hr hd hl U hq
  have hi:=cA hr
  refine Y3.i0 ?_
  simp only [Y3.t0, ← Y3.p1.eq_1]
  simp only [dC,fL (R.upd U fun h=>h) hcl.symm hw,(L.up U).rd.plen,Nat.zero_add]
  refine aN (by simp; omega) (aU rfl (E0.trans U.ext) ?_)
  unfold lL fO at hq
  simpa [pT] using hq
 | cons s r ih =>
  intro i done h hr hd hl U hq
  have hlt:=cG hr
  have hn:=b3 hr
  have hsi:=b4 hr
  have hmem:s∈d.kids:=List.mem_of_getElem? hsi
  have hi4:i≤4000:=by have:=hs.1; omega
  obtain ⟨rs,A⟩:=L.at hsi
  obtain ⟨w2,rs2,g2,K2,_⟩:=A.f4
  refine Y3.i0 ?_
  simp only [Y3.t0, ← Y3.p1.eq_1]
  simp only [dC,fL (R.upd U fun h=>h) hcl.symm hw,(L.up U).rd.plen,Nat.zero_add,A.idx h U,A.ld h U]
  refine aO (by simp; omega) ?_
  refine b5 (n:=5) rfl fun h1 hl1 U1 R1=>aW R1 rfl A.row A.dv.cells' fun h2 hl2 U2 R2=>?_
  have U12:Upd (fun _=>False) h h2:=U1.own U2 (Nat.le_refl _)
  have V2:=U.then U12
  have fail:∀ {x},k6 s=none→Y3.p1 (aL h0 Q) (.p (some ⟨id,5,0⟩)) (Lib.join done [44]) i x true h2:=by
   intro x hset
   refine Y3.i1 ?_
   simp only [Y3.t1, ← Y3.p2.eq_1]
   refine aO rfl (aU rfl (E0.trans V2.ext) ?_)
   unfold lL fO at hq
   rw [hset] at hq
   exact hq
  refine aT R2 A.row.symm (fK (A.dv.ext V2) (aS ?_))
  refine aG (fun e=>fail ?_) fun e=>?_
  ·have e : isS 0 17 true s = false := by simpa using e
   unfold k6; rw [if_neg (by rw [e]; decide)]
  have es:isS 0 17 true s=true:=by simpa using e
  have K2':=K2.up V2
  simp only [dC,fL R2 A.row.symm g2,K2'.rd.plen,Nat.zero_add]
  refine aG (fun e=>fail ?_) fun e=>?_
  ·have e : ¬ (s.kids.length : Int) = 1 := by simpa using e
   unfold k6; rw [if_pos es]
   split
   ·rename_i hk; rw [hk] at e; exact absurd rfl e
   ·rfl
  obtain ⟨k,hk⟩:∃ k,s.kids=[k]:=by
   have e:(s.kids.length:Int)=1:=by simpa using e
   match s.kids,(show s.kids.length=1 by omega) with
   | [k],_=>exact ⟨k,rfl⟩
  rw [hk] at K2'
  obtain ⟨rk,Ak⟩:=K2'.at (i:=0) (k:=k) rfl
  obtain ⟨wk,rsk,gk,Kk,ldk⟩:=Ak.f4
  have u:=Upd.refl (fun _=>False) h2
  have a0:∀ K:AV→Prop,aB 5 w2 (.i .i64 0) h2 K=K (ptr w2 5 0 0):=Ak.idx h2 u
  simp only [a0,Ak.ld h2 u]
  refine fK Ak.dv (aS ?_)
  refine aG (fun e=>fail ?_) fun e=>?_
  ·have e : isS 0 16 true k = false := by simpa using e
   unfold k6; rw [if_pos es,hk]
   simp only
   rw [if_neg (by rw [e]; decide)]
  have ek:isS 0 16 true k=true:=by simpa using e
  simp only [dC,fL R2 A.row.symm g2,Nat.zero_add,a0,Ak.fa,ldk h2 u,Kk.rd.plen]
  have hset:k6 s=match k.kids with
    | [a,b]=>gK a b
    | _=>none:=by
   unfold k6; rw [if_pos es,hk]
   simp only
   rw [if_pos ek]
   first | done | rfl
  by_cases e2:k.kids.length=2
  ·rw [show (decide ((k.kids.length : Int) = 2)) = true from decide_eq_true (by omega)]
   obtain ⟨a,b,hab⟩:∃ a b,k.kids=[a,b]:=by
    match k.kids,e2 with
    | [a,b],_=>exact ⟨a,b,rfl⟩
   rw [hab] at hset
   simp only at hset
   have hkk:k∈s.kids:=by rw [hk]; simp
   have hxa:=hs.2 s hmem k hkk a (by rw [hab]; simp)
   have hxb:=hs.2 s hmem k hkk b (by rw [hab]; simp)
   refine aKZ (s:=s) (rk:=rk) (id:=id) R2 A.row g2 K2' hab hxa hxb hi4 hd hl (fun x hx=>?_) fun hx=>?_
   ·refine ih (i + 1) (done ++ [x]) h2 hn (by simp [hd]) ?_ V2 ?_
    ·intro y hy
     rcases List.mem_append.1 hy with hy | hy
     ·exact hl y hy
     ·rw [List.mem_singleton.1 hy]; exact zD hx hxb
    ·unfold lL fO at hq
     rw [hset,hx] at hq
     simp only at hq
     unfold lL
     cases hr':fO r with
     | none=>rw [hr'] at hq; exact hq
     | some l=>rw [hr'] at hq; simpa using hq
   ·refine aU rfl (E0.trans V2.ext) ?_
    unfold lL fO at hq
    rw [hset,hx] at hq
    exact hq
  ·rw [show (decide ((k.kids.length : Int) = 2)) = false from decide_eq_false (by omega)]
   refine fail ?_
   rw [hset]
   split
   ·rename_i hab; rw [hab] at e2; exact absurd rfl e2
   ·rfl
theorem aGA {F:Nat→Prop} {d:Der} {cs:List AV} {h:aA} (D:DV h F d cs) (hs:o0 d) (hq:Q (pT (cF d)) h):C Y3.id [.ag cs] h Q:=by
 refine Y3.call ?_
 simp only [Y3.t, ← Y3.p0.eq_1]
 refine D.box fun h1 hl1 U1 R1 D1=>aT R1 D1.len.symm (fK D1 (aS ?_))
 unfold cF at hq
 refine aG (fun e=>?_) fun e=>?_
 ·have e : isS 0 16 true d = false := by simpa using e
  rw [if_neg (by rw [e]; decide)] at hq
  exact aU rfl U1.ext hq
 ·have e : isS 0 16 true d = true := by simpa using e
  rw [if_pos e] at hq
  obtain ⟨w,rs,g1,g2,g3,g4,g5⟩:=D1.kidsLen
  refine aJ9 (F:=F) U1.ext hs R1 D1.len g1 ⟨g2,g3,fun i hi=>(g5 i hi).1⟩ d.kids 0 [] h1 rfl rfl (by simp) (Upd.refl _ _) ?_
  unfold lL
  cases hk:fO d.kids with
  | none=>rw [hk] at hq; exact hq
  | some l=>rw [hk] at hq; simpa using hq
end
end Go.Proofs.YtcdkpkkdolmfdaaGreatDoor
namespace Go.Proofs.YtcdkpkkdolmfdaaGreatDoor
open Go.GAM Go.RowKit
section
variable {s:List UInt8} {h0:aA} {Q:AV→aA→Prop}
theorem yE (hs:s.length≤140737488351232) {c d:UInt8} {r l:List UInt8} {i:Nat} {v:AV} {h:aA} (hi:i<s.length) (hl:l.length≤i) (T:Tx h0 h v l) (hd:d=vR c)
  (hk:∀ v' h',Tx h0 h' v' (l++[vR c])→Y25.p0 (aL h0 Q) s v' (i+1:Nat) h'):Y25.p2 (aL h0 Q) s v i (d.toNat:Int) h:=by
 refine Y25.i2 ?_
 simp only [Y25.t2, ← Y25.p0.eq_1]
 subst hd
 exact T.push (by omega) fun v' h' T'=>inc (by omega) (hk v' h' T')
theorem aGJ (hs : s.length ≤ 140737488351232) : ∀ (r : List UInt8) (i : Nat) (v : AV) (l : List UInt8) (h : aA), s.drop i = r → l.length ≤ i → Tx h0 h v l → Q (.s (l ++ iE r)) h0 → Y25.p0 (aL h0 Q) s v i h := by
 intro r
 induction r with
 | nil =>
  intro i v l h hr hl T hq
  have:=cA hr
  refine Y25.i0 ?_
  simp only [Y25.t0, ← Y25.p1.eq_1]
  exact aN (by simp; omega) (T.ret (by simpa [iE] using hq))
 | cons c r ih =>
  intro i v l h hr hl T hq
  have hlt:=cG hr
  have hn:=b3 hr
  have hc:=c.toNat_lt
  have hnext:∀ v' h',Tx h0 h' v' (l++[vR c])→Y25.p0 (aL h0 Q) s v' (i+1:Nat) h':=fun v' h' T'=>ih (i+1) v' _ h' hn (by simp; omega) T' (by simpa [iE] using hq)
  have key:∀ b,b=decide (65≤c.toNat∧c.toNat≤90)→Y25.p1 (aL h0 Q) s v i (c.toNat:Int) b h:=by
   intro b hb
   refine Y25.i1 ?_
   simp only [Y25.t1, ← Y25.p2.eq_1]
   refine aG (fun e=>?_) fun e=>?_
   ·subst e
    have hu:65≤c.toNat∧c.toNat≤90:=by simpa using hb.symm
    refine aI (n:=((vR c).toNat:Int)) (by rw [aFQ hu,iJ (by omega) (by omega)]) ?_
    exact yE hs (r:=r) hlt hl T rfl hnext
   ·subst e
    have hu:¬ (65≤c.toNat∧c.toNat≤90):=by simpa using hb.symm
    exact yE hs (r:=r) hlt hl T (aE8 hu).symm hnext
  refine Y25.i0 ?_
  simp only [Y25.t0, ← Y25.p1.eq_1]
  refine aO (by simp; omega) (cS hr ?_)
  refine aG (fun e=>key _ ?_) fun e=>key _ ?_
  ·simp only [decide_eq_true_eq] at e
   rw [decide_eq_decide]; omega
  ·simp only [decide_eq_false_iff_not] at e
   symm; simp; omega
theorem aJF {h:aA} (hs:s.length≤140737488351232) (hk:Q (.s (iE s)) h):C Y25.id [.s s] h Q:=by
 refine Y25.call ?_
 simp only [Y25.t, ← Y25.p0.eq_1]
 exact aGJ hs s 0 _ [] h rfl (by simp) (Tx.start h) hk
end
section
variable {h:aA} {Q:AV→aA→Prop}
theorem aFT {d a b:Der} {id:Nat} {cs:List AV} {F:Nat→Prop} {w:AV} {rs:List (List AV)} {h1:aA} {n:Nat} (E:Ext h h1) (R:bC h1 id cs) (hcl:cs.length=5) (hw:cs[4]? = some w) (K:KL h1 F w d.kids rs) (h0:d.kids[0]? = some a) (hn:d.kids[n]? = some b) (hb:n≤100)
  (ha:a.data.length≤100000) (hq:Q (.tu [.s (eB a).1,.s b.data,.b (eB a).2]) h):Y52.p0 (aL h Q) (.p (some ⟨id,5,0⟩)) ((n+1:Nat):Int) false h1:=by
 obtain ⟨ra,Aa⟩:=K.at h0
 obtain ⟨rb,Ab⟩:=K.at hn
 have u:=Upd.refl (fun _=>False) h1
 have a0:∀ K:AV→Prop,aB 5 w (.i .i64 0) h1 K=K (ptr w 5 0 0):=Aa.idx h1 u
 refine Y52.i0 ?_
 simp only [Y52.t0]
 refine aN rfl ?_
 simp only [dC,fL R hcl.symm hw,a0,Aa.ld h1 u,Nat.zero_add]
 refine aKA Aa.dv ha (aY (bA (aZ (aS ?_))))
 simp only [dC,fL R hcl.symm hw,Nat.zero_add]
 refine aI (n:=(n:Int)) (by rw [aJ (by omega) (by omega)]; omega) ?_
 simp only [Ab.idx h1 u,Ab.fa,Ab.f3 h1 u,cI]
 exact aU rfl E hq
theorem aNU {d:Der} {cs:List AV} {F:Nat→Prop} (D:DV h F d cs) (fd:Fit d) (h1:∀ t s,dB d=some (t,s)→Q (.tu [.s t,.s s,.b true]) h) (h2:∀ t s,dB d=none→Q (.tu [.s t,.s s,.b false]) h):C Y52.id [.ag cs] h Q:=by
 refine Y52.call ?_
 simp only [Y52.t, ← Y52.p0.eq_1]
 refine D.box fun h1' hl1 U1 R1 D1=>?_
 have E:=U1.ext
 obtain ⟨w,rs,g1,g2,g3,g4,g5⟩:=D1.kidsLen
 have K:KL h1' F w d.kids rs:=⟨g2,g3,fun i hi=>(g5 i hi).1⟩
 have hkl:=fd.few
 simp only [dC,fL R1 D1.len.symm g1,K.rd.plen,Nat.zero_add]
 have fail:∀ {n:Int},dB d=none→Y52.p0 (aL h Q) (.p (some ⟨h.length,5,0⟩)) n true h1':=by
  intro n hx
  refine Y52.i0 ?_
  simp only [Y52.t0]
  exact aO rfl (aU rfl E (h2 _ _ hx))
 have u:=Upd.refl (fun _=>False) h1'
 refine aT R1 D1.len.symm (fK D1 (aS ?_))
 refine aG (fun e=>fail ?_) fun e=>?_
 ·have e : isS 0 16 true d = false := by simpa using e
  unfold dB; rw [show cL d=false from e]
  split <;> rfl
 have es:cL d=true:=show isS 0 16 true d=true by simpa using e
 refine aG (fun e=>fail ?_) fun e2=>?_
 ·have e := of_decide_eq_true e
  unfold dB
  split
  ·rename_i hk; rw [hk] at e; simp at e
  ·rename_i hk; rw [hk] at e; simp at e
  ·rfl
 refine aG (fun e=>fail ?_) fun e3=>?_
 ·have e := of_decide_eq_true e
  unfold dB
  split
  ·rename_i hk; rw [hk] at e; simp at e
  ·rename_i hk; rw [hk] at e; simp at e
  ·rfl
 have e2:=of_decide_eq_false e2
 have e3:=of_decide_eq_false e3
 by_cases hn:d.kids.length=3
 ·refine aO (decide_eq_true (by omega)) ?_
  obtain ⟨a,t,b,hk⟩:∃ a t b,d.kids=[a,t,b]:=by
   match d.kids,hn with
   | [a,t,b],_=>exact ⟨a,t,b,rfl⟩
  have hx:dB d=if (eA t&&(isS 0 4 false b&&(eB a).2))=true then some ((eB a).1,b.data) else none:=by
   unfold dB; rw [hk]; simp only; rw [es,Bool.true_and]
  obtain ⟨rt,At⟩:=K.at (i:=1) (k:=t) (by rw [hk] <;> rfl)
  obtain ⟨rb,Ab⟩:=K.at (i:=2) (k:=b) (by rw [hk] <;> rfl)
  have a1:∀ K:AV→Prop,aB 5 w (.i .i64 1) h1' K=K (ptr w 5 1 0):=At.idx h1' u
  have a2:∀ K:AV→Prop,aB 5 w (.i .i64 2) h1' K=K (ptr w 5 2 0):=Ab.idx h1' u
  have hki:((d.kids.length:Int))=3:=by omega
  rw [hki]
  simp only [dC,fL R1 D1.len.symm g1,Nat.zero_add,a1,At.ld h1' u]
  refine aA3 At.dv (aS ?_)
  refine aG (fun e=>fail ?_) fun e=>?_
  ·have e : eA t = false := by simpa using e
   rw [hx,e] <;> rfl
  have et:eA t=true:=by simpa using e
  rw [et,Bool.true_and] at hx
  simp only [dC,fL R1 D1.len.symm g1,Nat.zero_add]
  refine aI (n:=2) (by decide) ?_
  simp only [a2,Ab.ld h1' u]
  refine fK Ab.dv (aS ?_)
  cases hb:isS 0 4 false b with
  | false=>exact fail (by rw [hx,hb] <;> rfl)
  | true =>
   rw [hb,Bool.true_and] at hx
   refine aFT (d:=d) (a:=a) (b:=b) (n:=2) E R1 D1.len g1 K (by rw [hk] <;> rfl) (by rw [hk] <;> rfl) (by omega) (by have:=(fd.kid (show a∈d.kids by rw [hk]; simp)).data; omega) ?_
   cases ho:(eB a).2 with
   | true=>exact h1 _ _ (by rw [hx,ho] <;> rfl)
   | false=>exact h2 _ _ (by rw [hx,ho] <;> rfl)
 ·refine aN (decide_eq_false (by omega)) ?_
  obtain ⟨a,b,hk⟩:∃ a b,d.kids=[a,b]:=by
   match d.kids,(show d.kids.length=2 by omega) with
   | [a,b],_=>exact ⟨a,b,rfl⟩
  have hx:dB d=if (isS 0 4 false b&&(eB a).2)=true then some ((eB a).1,b.data) else none:=by
   unfold dB; rw [hk]; simp only; rw [es,Bool.true_and]
  obtain ⟨rb,Ab⟩:=K.at (i:=1) (k:=b) (by rw [hk] <;> rfl)
  have a1:∀ K:AV→Prop,aB 5 w (.i .i64 1) h1' K=K (ptr w 5 1 0):=Ab.idx h1' u
  have hki:((d.kids.length:Int))=2:=by omega
  rw [hki]
  simp only [fL R1 D1.len.symm g1]
  refine aI (n:=1) (by decide) ?_
  simp only [a1,Ab.ld h1' u]
  refine fK Ab.dv (aS ?_)
  cases hb:isS 0 4 false b with
  | false=>exact fail (by rw [hx,hb] <;> rfl)
  | true =>
   rw [hb,Bool.true_and] at hx
   refine aFT (d:=d) (a:=a) (b:=b) (n:=1) E R1 D1.len g1 K (by rw [hk] <;> rfl) (by rw [hk] <;> rfl) (by omega) (by have:=(fd.kid (show a∈d.kids by rw [hk]; simp)).data; omega) ?_
   cases ho:(eB a).2 with
   | true=>exact h1 _ _ (by rw [hx,ho] <;> rfl)
   | false=>exact h2 _ _ (by rw [hx,ho] <;> rfl)
end
end Go.Proofs.YtcdkpkkdolmfdaaGreatDoor
namespace Go.Proofs.YtcdkpkkdolmfdaaGreatDoor
open Go.GAM Go.RowKit
def cc (ser iss sub:List UInt8) (frm til:Int) (nv:AV) (au:Bool) (key:List UInt8):List AV:=[.s ser,.s iss,.s sub,.i .i64 frm,.i .i64 til,nv,.b au,.s key]
def uE (hb:aA) (ser iss sub key:List UInt8) (frm til:Int) (Q:AV→aA→Prop):Option (List (List UInt8) × Bool)→Prop
 | none=>∀ nv au h',Upd (fun _=>False) hb h'→(∃ a n c,nv = .sl a n c)→Q (.tu [.ag (cc ser iss sub frm til nv au key),.b false]) h'
 | some x=>∀ nv h',Upd (fun _=>False) hb h'→RdI 1 h' nv (x.1.map .s) x.1.length→(∀ i,bU nv i→hb.length≤i)→Q (.tu [.ag (cc ser iss sub frm til nv x.2 key),.b true]) h'
structure RSt (hb:aA) (id idr:Nat) (ser iss sub key:List UInt8) (frm til:Int) (h:aA) (ns:List (List UInt8)) (au:Bool) (nv:AV):Prop where
 r:bC h id (cc ser iss sub frm til nv au key)
 q:∃ cs,bC h idr cs∧cs.length=8
 s:gB hb h nv (ns.map .s)
 ni:∀ i,bU nv i→i≠id∧i≠idr
 il:hb.length≤id
 ml:hb.length≤idr
 ne:idr≠id
section
variable {hb:aA} {id idr:Nat} {ser iss sub key:List UInt8} {frm til:Int} {h:aA} {ns:List (List UInt8)} {au nm bs:Bool} {nv:AV} {Q:AV→aA→Prop}
theorem RSt.u (S:RSt hb id idr ser iss sub key frm til h ns au nv):Upd (fun _=>False) hb h:=S.s.upd
theorem RSt.up {h':aA} (S:RSt hb id idr ser iss sub key frm til h ns au nv) (U:Upd (fun _=>False) h h'):RSt hb id idr ser iss sub key frm til h' ns au nv:=by
 obtain ⟨cs,q1,q2⟩:=S.q
 exact ⟨S.r.upd U fun h=>h,⟨cs,q1.upd U fun h=>h,q2⟩,⟨S.s.upd.trans U fun _ _ h=>h,S.s.stk.upd U fun _ _ h=>h,S.s.new⟩,S.ni,S.il,S.ml,S.ne⟩
theorem RSt.isSl (S:RSt hb id idr ser iss sub key frm til h ns au nv):∃ a n c,nv = .sl a n c:=by
 have:=S.s.stk.rd.i.isSl
 exact this
theorem aFI (hn:∃ a n c,nv = .sl a n c):(cc ser iss sub frm til nv au key).all AV.cellOK=true:=by
 obtain ⟨a,n,c,rfl⟩:=hn; rfl
theorem RSt.ret (S:RSt hb id idr ser iss sub key frm til h ns au nv) {K:AV→aA→Prop} (hk:∀ h',Upd (fun _=>False) hb h'→RdI 1 h' nv (ns.map .s) ns.length→K (.ag (cc ser iss sub frm til nv au key)) h') :
  aD 8 (.p (some ⟨id,8,0⟩)) h fun v=>aP 8 (.p (some ⟨idr,8,0⟩)) v h fun h'=>aD 8 (.p (some ⟨idr,8,0⟩)) h' fun w=>K w h':=by
 obtain ⟨cs,q1,q2⟩:=S.q
 refine aT S.r rfl (aW q1 q2.symm rfl (aFI S.isSl) fun h1 hl1 U1 R1=>aT R1 rfl (hk h1 (S.u.own U1 S.ml) ?_))
 have:=(S.s.stk.upd U1 fun a ha e=>(S.ni a ha).2 e).rd.i
 rw [List.length_map] at this
 exact this
theorem RSt.auth (S:RSt hb id idr ser iss sub key frm til h ns au nv) {b:Bool} {K:aA→Prop} (hk:∀ h',RSt hb id idr ser iss sub key frm til h' ns b nv→K h'):aP 1 (.p (some ⟨id,8,6⟩)) (.b b) h K:=by
 obtain ⟨cs,q1,q2⟩:=S.q
 refine b7 S.r rfl (by show 6<8; omega) rfl rfl rfl fun h1 hl1 U1 R1=>hk h1 ?_
 exact ⟨R1,⟨cs,q1.upd U1 S.ne,q2⟩,⟨S.u.own U1 S.il,S.s.stk.upd U1 fun a ha e=>(S.ni a ha).1 e,S.s.new⟩,S.ni,S.il,S.ml,S.ne⟩
def RNx (hb:aA) (id idr:Nat) (ser iss sub key:List UInt8) (frm til:Int) (Q:AV→aA→Prop) (v:AV) (i:Nat) (r:List Der):Prop:=
 ∀ h nm bs ns au nv,RSt hb id idr ser iss sub key frm til h ns au nv→ns.length≤16→uE hb ser iss sub key frm til Q (cW r nm bs (ns,au))→Y1.p0 Q v (.p (some ⟨id,8,0⟩)) (.p (some ⟨idr,8,0⟩)) nm bs (i+1:Nat) h
variable {v:AV} {i:Nat} {r:List Der} (nx:RNx hb id idr ser iss sub key frm til Q v i r) (hi:i≤300)
include nx hi
theorem qP (S:RSt hb id idr ser iss sub key frm til h ns au nv) (h16:ns.length≤16) (hq:uE hb ser iss sub key frm til Q (cW r nm bs (ns,au))):Y1.p9 Q v (.p (some ⟨id,8,0⟩)) (.p (some ⟨idr,8,0⟩)) nm bs i h:=by
 refine Y1.i9 ?_
 simp only [Y1.t9, ← Y1.p0.eq_1]
 exact inc (by omega) (nx h nm bs ns au nv S h16 hq)
theorem aIQ {id15 : Nat} {cs15 : List AV} {F : Nat → Prop} {w : AV} {ks : List Der} {rs : List (List AV)} (S : RSt hb id idr ser iss sub key frm til h ns au nv) (h16 : ns.length ≤ 16) (R : bC h id15 cs15) (hcl : cs15.length = 5) (hw : cs15[4]? = some w) (K : KL h F w ks rs)
  (hq:uE hb ser iss sub key frm til Q (cW r nm true (ns,oA ks))):Y1.p8 Q v (.p (some ⟨id,8,0⟩)) (.p (some ⟨idr,8,0⟩)) nm true i (.p (some ⟨id15,5,0⟩)) false h:=by
 refine Y1.i8 ?_
 simp only [Y1.t8, ← Y1.p9.eq_1]
 refine aN rfl ?_
 simp only [dC,fL R hcl.symm hw,K.rd.plen,Nat.zero_add]
 match ks,K,hq with
 | [],K,hq=>exact aN rfl (S.auth fun h' S'=>qP nx hi S' h16 hq)
 | k :: ks', K, hq =>
  refine aO (by simp) ?_
  obtain ⟨rk,A⟩:=K.at (i:=0) (k:=k) rfl
  have u:=Upd.refl (fun _=>False) h
  have a0:∀ K:AV→Prop,aB 5 w (.i .i64 0) h K=K (ptr w 5 0 0):=A.idx h u
  simp only [a0,A.ld h u]
  refine aA3 A.dv (aS ?_)
  refine aG (fun e=>?_) fun e=>?_
  ·simp only [dC, fL R hcl.symm hw, Nat.zero_add, a0, A.fa, A.f3 h u, cI]
   have he:=e
   unfold eA at he
   rw [Bool.and_eq_true,decide_eq_true_eq] at he
   obtain ⟨c,hc⟩:∃ c,k.data=[c]:=by
    match k.data,he.2 with
    | [c],_=>exact ⟨c,rfl⟩
   rw [hc]
   refine cS (i:=0) (c:=c) (r:=[]) rfl ?_
   refine S.auth fun h' S'=>qP nx hi S' h16 ?_
   have:oA (k :: ks') = !decide ((c.toNat:Int)=0):=by
    show (eA k && !decide (k.data=[0]))=_
    rw [e,hc,Bool.true_and]
    congr 1
    rw [decide_eq_decide]
    constructor
    ·intro h; cases h; rfl
    ·intro h
     have:c=0:=UInt8.toNat.inj (by show c.toNat=0; omega)
     rw [this]
   rw [this] at hq
   exact hq
  ·refine S.auth fun h' S' => qP nx hi S' h16 ?_
   have:oA (k :: ks')=false:=by
    show (eA k&&_)=_
    rw [e] <;> rfl
   rw [this] at hq
   exact hq
theorem yP {s:List UInt8} (S:RSt hb id idr ser iss sub key frm til h ns au nv) (h16:ns.length≤16) (hq:uE hb ser iss sub key frm til Q (cW r nm bs (ns,au))):Y1.p7 Q v (.p (some ⟨id,8,0⟩)) (.p (some ⟨idr,8,0⟩)) nm bs i s false h:=by
 refine Y1.i7 ?_
 simp only [Y1.t7, ← Y1.p8.eq_1, ← Y1.p9.eq_1]
 exact aN rfl (qP nx hi S h16 hq)
theorem aHA {s:List UInt8} (S:RSt hb id idr ser iss sub key frm til h ns au nv) (h16:ns.length≤16) (hq:uE hb ser iss sub key frm til Q (match cY s with
  | some ks=>cW r nm true (ns,oA ks)
  | none=>none)):Y1.p7 Q v (.p (some ⟨id,8,0⟩)) (.p (some ⟨idr,8,0⟩)) nm false i s true h:=by
 refine Y1.i7 ?_
 simp only [Y1.t7, ← Y1.p8.eq_1, ← Y1.p9.eq_1]
 have fail:cY s=none→∀ {h' x},Upd (fun _=>False) h h'→Y1.p8 Q v (.p (some ⟨id,8,0⟩)) (.p (some ⟨idr,8,0⟩)) nm true i x true h':=by
  intro hn h' x U
  rw [hn] at hq
  refine Y1.i8 ?_
  simp only [Y1.t8, ← Y1.p9.eq_1]
  exact aO rfl ((S.up U).ret fun h'' U' _=>hq _ _ h'' U' S.isSl)
 refine aO rfl (rL ?_)
 cases hd:j5 s with
 | error e =>
  intro h2 U2
  have hin:cY s=none:=by unfold cY; rw [hd]
  refine aY (aZ (aQ (bR fun h3 hl3 U3 R3=>aW R3 rfl rfl rfl fun h4 hl4 U4 R4=>?_)))
  have U24:Upd (fun _=>False) h2 h4:=U3.own U4 (Nat.le_refl _)
  exact aO (by simp [nS hd]) (fail hin (U2.then U24))
 | ok d2 =>
  intro cs2 h2 U2 D2
  refine aY (aZ (aQ (bR fun h3 hl3 U3 R3=>aW R3 rfl D2.len D2.cells' fun h4 hl4 U4 R4=>?_)))
  have U24:Upd (fun _=>False) h2 h4:=U3.own U4 (Nat.le_refl _)
  have D4:=D2.ext U24
  refine aN rfl (aT R4 D2.len.symm (fK D4 (aS ?_)))
  cases e:isS 0 16 true d2 with
  | false =>
   exact fail (by unfold cY; rw [hd]; simp only; rw [if_neg (by rw [show cL d2=false from e]; decide)]) (U2.then U24)
  | true =>
   have hin:cY s=some d2.kids:=by unfold cY; rw [hd]; simp only; rw [if_pos (show cL d2=true from e)]
   rw [hin] at hq
   obtain ⟨w,rs,g1,g2,g3,g4,g5⟩:=D4.kidsLen
   exact aIQ nx hi (S.up (U2.then U24)) h16 R4 D2.len g1 ⟨g2,g3,fun i hi=>(g5 i hi).1⟩ hq
theorem aBS {t s:List UInt8} (S:RSt hb id idr ser iss sub key frm til h ns au nv) (h16:ns.length≤16) (hq:uE hb ser iss sub key frm til Q (if t=basOid∧bs=false then (match cY s with
  | some ks=>cW r nm true (ns,oA ks)
  | none=>none) else cW r nm bs (ns,au))):Y1.p6 Q v (.p (some ⟨id,8,0⟩)) (.p (some ⟨idr,8,0⟩)) nm bs i t s h:=by
 refine Y1.i6 ?_
 simp only [Y1.t6, ← Y1.p7.eq_1]
 by_cases ht:t=basOid
 ·refine dX (n := true) (decide_eq_true ht) (aO rfl ?_)
  cases bs with
  | true =>
   rw [if_neg (by simp)] at hq
   exact yP nx hi S h16 hq
  | false =>
   rw [if_pos ⟨ht,rfl⟩] at hq
   exact aHA nx hi S h16 hq
 ·rw [if_neg (fun h => ht h.1)] at hq
  exact dX (n:=false) (decide_eq_false ht) (aN rfl (yP nx hi S h16 hq))
end
section
variable {hb:aA} {id idr:Nat} {ser iss sub key:List UInt8} {frm til:Int} {au:Bool} {Q:AV→aA→Prop} {v:AV}
theorem aJQ {w : AV} {ks : List Der} {rs : List (List AV)} {hc : aA} {lo id12 : Nat} {cs12 : List AV} {F2 : Nat → Prop} {nm bs : Bool} {t s : List UInt8} (K2 : KL hc F2 w ks rs) (hF2 : ∀ i, F2 i → lo ≤ i ∧ i < hc.length) (R12 : bC hc id12 cs12) (hcl : cs12.length = 5) (hw : cs12[4]? = some w) (h12 : lo ≤ id12)
  (hid:id<lo) (hmid:idr<lo) (hlo:lo≤hc.length) (hfk:∀ k∈ks,Fit k) (hkl:ks.length≤256) {i:Nat} :
  ∀ (r : List Der) (j : Nat) (h : aA) (nv : AV) (ns : List (List UInt8)), ks.drop j = r → ns.length + r.length ≤ 10000 → Upd (fun a => a < lo) hc h → RSt hb id idr ser iss sub key frm til h ns au nv → (∀ i, bU nv i → i < lo ∨ hc.length ≤ i) →
   (∀ h' nv',RSt hb id idr ser iss sub key frm til h' (cN ns r) au nv'→Y1.p6 Q v (.p (some ⟨id,8,0⟩)) (.p (some ⟨idr,8,0⟩)) nm bs i t s h') →
   Y1.p3 Q v (.p (some ⟨id,8,0⟩)) (.p (some ⟨idr,8,0⟩)) nm bs i t s (.p (some ⟨id12,5,0⟩)) (j:Nat) h:=by
 intro r
 induction r with
 | nil =>
  intro j h nv ns hr hn U S hnv hq
  have:=cA hr
  have K2':KL h F2 w ks rs:=⟨K2.dv.upd U fun a ha _=>⟨fun e=>by have:=hF2 a ha; omega,ha⟩,K2.sl.upd U fun a ha _ e=>by have:=hF2 a (K2.sf a ha); omega,K2.sf⟩
  have R:=R12.upd U (by omega)
  refine Y1.i3 ?_
  simp only [Y1.t3, ← Y1.p4.eq_1, ← Y1.p6.eq_1]
  simp only [dC,fL R hcl.symm hw,K2'.rd.plen,Nat.zero_add]
  exact aN (by simp; omega) (hq h nv S)
 | cons d r ih =>
  intro j h nv ns hr hn U S hnv hq
  have hlt:=cG hr
  have hj:=b4 hr
  have hfd:=hfk d (List.mem_of_getElem? hj)
  have K2':KL h F2 w ks rs:=⟨K2.dv.upd U fun a ha _=>⟨fun e=>by have:=hF2 a ha; omega,ha⟩,K2.sl.upd U fun a ha _ e=>by have:=hF2 a (K2.sf a ha); omega,K2.sf⟩
  have R:=R12.upd U (by omega)
  obtain ⟨rr,A⟩:=K2'.at hj
  have u:=Upd.refl (fun _=>False) h
  have nxt:∀ h' nv' ns',cN ns' r=cN ns (d :: r)→ns'.length≤ns.length+1→Upd (fun a=>a<lo) hc h'→RSt hb id idr ser iss sub key frm til h' ns' au nv'→(∀ i,bU nv' i→i<lo∨hc.length≤i)→Y1.p5 Q v (.p (some ⟨id,8,0⟩)) (.p (some ⟨idr,8,0⟩)) nm bs i t s (.p (some ⟨id12,5,0⟩)) (j:Nat) h':=by
   intro h' nv' ns' he hl U' S' hnv'
   refine Y1.i5 ?_
   simp only [Y1.t5, ← Y1.p3.eq_1]
   refine inc (by omega) (ih (j+1) h' nv' ns' (b3 hr) (by simp at hn; omega) U' S' hnv' ?_)
   rw [he]; exact hq
  have off:(isS 2 2 false d&&decide (ns.length<16))=false→Y1.p4 Q v (.p (some ⟨id,8,0⟩)) (.p (some ⟨idr,8,0⟩)) nm bs i t s (.p (some ⟨id12,5,0⟩)) (j:Nat) false h:=by
   intro e
   refine Y1.i4 ?_
   simp only [Y1.t4, ← Y1.p5.eq_1]
   refine aN rfl (nxt h nv ns ?_ (by omega) U S hnv)
   conv=>rhs; unfold cN
   rw [e] <;> rfl
  have hnl:(ns.map AV.s).length=ns.length:=List.length_map ..
  have l5:∀ K:AV→Prop,aE (.p (some ⟨id,8,5⟩)) h K=K nv:=fun K=>fL S.r rfl rfl
  refine Y1.i3 ?_
  simp only [Y1.t3, ← Y1.p4.eq_1, ← Y1.p6.eq_1]
  simp only [dC,fL R hcl.symm hw,K2'.rd.plen,Nat.zero_add]
  refine aO (by simp; omega) ?_
  simp only [A.idx h u,A.ld h u]
  refine fK A.dv (aS ?_)
  refine aG (fun e=>?_) fun e=>off (by rw [e] <;> rfl)
  simp only [l5]
  refine S.s.stk.rd.len ?_
  rw [hnl]
  by_cases h16:ns.length<16
  ·rw [decide_eq_true (show (ns.length : Int) < 16 by omega)]
   refine Y1.i4 ?_
   simp only [Y1.t4, ← Y1.p5.eq_1]
   refine aO rfl ?_
   simp only [dC,Nat.zero_add,l5,fL R hcl.symm hw,A.idx h u,A.fa,A.f3 h u,cI]
   refine aJF (by have:=hfd.data; omega) (bA ?_)
   simp only [dC,Nat.zero_add,l5,fL R hcl.symm hw,A.idx h u,A.fa,A.f3 h u,cI,bL,true_and]
   refine eQ (cs:=[.s (iE d.data)]) (len:=1) rfl rfl fun y h3 hl3 U3 R3 F3=>?_
   have S3:=S.up U3
   have l53:∀ K:AV→Prop,aE (.p (some ⟨id,8,5⟩)) h3 K=K nv:=fun K=>fL S3.r rfl rfl
   have Rr3:=R.upd U3 fun h=>h
   simp only [l53,fL Rr3 hcl.symm hw,A.idx h3 U3,A.f3 h3 U3,cI,bL,true_and]
   have Uc3:Upd (fun a=>a<lo) hc h3:=U.trans (U3.mono fun _ _ h=>h.elim) fun _ _ h=>h
   refine S3.s.app1 R3 rfl (by rw [hnl]; omega) (by rw [hnl]; omega) fun nv' h4 N4 U4 F4=>?_
   have Uc4:Upd (fun a=>a<lo) hc h4:=Uc3.trans U4 fun a ha e=>by have:=hnv a e; omega
   have K4:KL h4 F2 w ks rs:=⟨K2.dv.upd Uc4 fun a ha _=>⟨fun e=>by have:=hF2 a ha; omega,ha⟩,K2.sl.upd Uc4 fun a ha _ e=>by have:=hF2 a (K2.sf a ha); omega,K2.sf⟩
   have Rr4:=R12.upd Uc4 (by omega)
   obtain ⟨rr4,A4⟩:=K4.at hj
   have u4:=Upd.refl (fun _=>False) h4
   simp only [fL Rr4 hcl.symm hw,A4.idx h4 u4,A4.f3 h4 u4,cI,bL,true_and]
   have np:=aF4 N4.stk
   have hidnv:¬ bU nv id:=fun e=>(S.ni id e).1 rfl
   have hidrnv:¬ bU nv idr:=fun e=>(S.ni idr e).2 rfl
   obtain ⟨csq,q1,q2⟩:=S3.q
   refine b7 (S3.r.upd U4 hidnv) rfl (by show 5<8; omega) np.1 np.2.1 np.2.2 fun h5 hl5 U5 R5=>?_
   have hni:∀ a,bU nv' a→a≠id∧a≠idr:=fun a e=>by
    rcases F4 a e with h | h
    ·exact S.ni a h
    ·have:=Uc3.1; omega
   refine nxt h5 nv' (ns++[iE d.data]) ?_ (by simp) (Uc4.trans U5 fun a ha e=>by omega) ⟨R5,⟨csq,(q1.upd U4 hidrnv).upd U5 S.ne,q2⟩,⟨N4.upd.own U5 S.il, ?_,N4.new⟩,hni,S.il,S.ml,S.ne⟩ fun a e=>?_
   ·conv => rhs; unfold cN
    rw [e,decide_eq_true h16] <;> rfl
   ·rw [List.map_append]
    exact N4.stk.upd U5 fun a ha e=>(hni a ha).1 e
   ·rcases F4 a e with h | h
    ·exact hnv a h
    ·have:=Uc3.1; omega
  ·rw [decide_eq_false (show ¬ (ns.length : Int) < 16 by omega)]
   exact off (by rw [e,decide_eq_false h16] <;> rfl)
variable {h:aA} {ns:List (List UInt8)} {nm bs:Bool} {nv:AV} {i:Nat} {r:List Der} (nx:RNx hb id idr ser iss sub key frm til Q v i r) (hi:i≤300)
include nx hi
theorem aH4 {s:List UInt8} (S:RSt hb id idr ser iss sub key frm til h ns au nv) (h16:ns.length≤16) (hq:uE hb ser iss sub key frm til Q (match cY s with
  | some ks=>cW r true bs (cN ns ks,au)
  | none=>none)):Y1.p1 Q v (.p (some ⟨id,8,0⟩)) (.p (some ⟨idr,8,0⟩)) false bs i altOid s true h:=by
 have hne:altOid≠basOid:=by decide
 refine Y1.i1 ?_
 simp only [Y1.t1, ← Y1.p2.eq_1, ← Y1.p6.eq_1]
 have fail:cY s=none→∀ {h' x},Upd (fun _=>False) h h'→Y1.p2 Q v (.p (some ⟨id,8,0⟩)) (.p (some ⟨idr,8,0⟩)) true bs i altOid s x true h':=by
  intro hn h' x U
  rw [hn] at hq
  refine Y1.i2 ?_
  simp only [Y1.t2, ← Y1.p3.eq_1]
  exact aO rfl ((S.up U).ret fun h'' U' _=>hq _ _ h'' U' S.isSl)
 refine aO rfl (rL ?_)
 cases hd:j5 s with
 | error e =>
  intro h2 U2
  have hin:cY s=none:=by unfold cY; rw [hd]
  refine aY (aZ (aQ (bR fun h3 hl3 U3 R3=>aW R3 rfl rfl rfl fun h4 hl4 U4 R4=>?_)))
  have U24:Upd (fun _=>False) h2 h4:=U3.own U4 (Nat.le_refl _)
  exact aO (by simp [nS hd]) (fail hin (U2.then U24))
 | ok d2 =>
  intro cs2 h2 U2 D2
  have fd2:=Fit.of hd
  refine aY (aZ (aQ (bR fun h3 hl3 U3 R3=>aW R3 rfl D2.len D2.cells' fun h4 hl4 U4 R4=>?_)))
  have U24:Upd (fun _=>False) h2 h4:=U3.own U4 (Nat.le_refl _)
  have D4:=D2.ext U24
  refine aN rfl (aT R4 D2.len.symm (fK D4 (aS ?_)))
  cases e:isS 0 16 true d2 with
  | false =>
   exact fail (by unfold cY; rw [hd]; simp only; rw [if_neg (by rw [show cL d2=false from e]; decide)]) (U2.then U24)
  | true =>
   have hin:cY s=some d2.kids:=by unfold cY; rw [hd]; simp only; rw [if_pos (show cL d2=true from e)]
   rw [hin] at hq
   obtain ⟨w,rs,g1,g2,g3,g4,g5⟩:=D4.kidsLen
   refine Y1.i2 ?_
   simp only [Y1.t2, ← Y1.p3.eq_1]
   have S4:=S.up (U2.then U24)
   have hidl:=S.r.lt
   obtain ⟨csq,q1,q2⟩:=S.q
   have hidrl:=q1.lt
   have hll:=U2.1
   refine aN rfl (aJQ (lo:=h.length) (F2:=fun i=>h.length≤i∧i<h4.length) (hc:=h4) ⟨g2.upd (Upd.refl (fun _=>False) h4) fun a ha hl=>⟨fun h=>h,ha,hl⟩,g3,fun i hi=>⟨(g5 i hi).1,(g5 i hi).2⟩⟩ (fun i hi=>hi) R4 D2.len g1 (by omega) hidl hidrl (by have:=U24.1; omega) (fun k hk=>fd2.kid hk) fd2.few d2.kids 0 h4 nv ns rfl (by have:=fd2.few; omega) (Upd.refl _ _) S4 (fun a ha=>.inl (Rd.lt S.s.stk.rd ha)) fun h' nv' S'=>?_)
   refine aBS nx hi S' (gZ _ _ h16) ?_
   rw [if_neg (fun h=>hne h.1)]
   exact hq
theorem yA {t s:List UInt8} (S:RSt hb id idr ser iss sub key frm til h ns au nv) (h16:ns.length≤16) (hq:uE hb ser iss sub key frm til Q (if t=basOid∧bs=false then (match cY s with
  | some ks=>cW r nm true (ns,oA ks)
  | none=>none) else cW r nm bs (ns,au))):Y1.p1 Q v (.p (some ⟨id,8,0⟩)) (.p (some ⟨idr,8,0⟩)) nm bs i t s false h:=by
 refine Y1.i1 ?_
 simp only [Y1.t1, ← Y1.p2.eq_1, ← Y1.p6.eq_1]
 exact aN rfl (aBS nx hi S h16 hq)
end
section
variable {hb:aA} {id idr:Nat} {ser iss sub key:List UInt8} {frm til:Int} {Q:AV→aA→Prop} {v:AV} {l:List Der} {rows:List (List AV)} {F:Nat→Prop}
theorem aKI (L : KL hb F v l rows) (hfit : ∀ k ∈ l, Fit k) (hl : l.length ≤ 256) : ∀ (r : List Der) (i : Nat) (h : aA) (nm bs : Bool) (ns : List (List UInt8)) (au : Bool) (nv : AV), l.drop i = r → RSt hb id idr ser iss sub key frm til h ns au nv → ns.length ≤ 16 →
  uE hb ser iss sub key frm til Q (cW r nm bs (ns,au))→Y1.p0 Q v (.p (some ⟨id,8,0⟩)) (.p (some ⟨idr,8,0⟩)) nm bs (i:Nat) h:=by
 intro r
 induction r with
 | nil =>
  intro i h nm bs ns au nv hr S h16 hq
  have:=cA hr
  refine Y1.i0 ?_
  simp only [Y1.t0, ← Y1.p1.eq_1]
  simp only [(L.up S.u).rd.plen]
  unfold cW at hq
  exact aN (by simp; omega) (S.ret fun h' U R=>hq nv h' U R S.s.new)
 | cons d r ih =>
  intro i h nm bs ns au nv hr S h16 hq
  have hlt:=cG hr
  have hj:=b4 hr
  have hfd:=hfit d (List.mem_of_getElem? hj)
  have nx:RNx hb id idr ser iss sub key frm til Q v i r:=fun h' nm' bs' ns' au' nv' S' h16' hq'=>ih (i+1) h' nm' bs' ns' au' nv' (b3 hr) S' h16' hq'
  obtain ⟨r',A⟩:=L.at hj
  refine Y1.i0 ?_
  simp only [Y1.t0, ← Y1.p1.eq_1]
  simp only [(L.up S.u).rd.plen]
  refine aO (by simp; omega) ?_
  simp only [A.idx h S.u,A.ld h S.u]
  unfold cW at hq
  refine aNU (A.dv.ext S.u) hfd (fun t s hx=>?_) fun t s hx=>?_
  ·rw [hx] at hq
   simp only at hq
   refine aY (bA (aZ (bA (gW (aS (aN rfl ?_))))))
   by_cases ht:t=altOid
   ·subst ht
    refine dX (n:=true) (decide_eq_true rfl) (aO rfl ?_)
    cases nm with
    | false =>
     rw [if_pos ⟨rfl,rfl⟩] at hq
     exact aH4 nx (by omega) S h16 hq
    | true =>
     rw [if_neg (by simp)] at hq
     exact yA nx (by omega) S h16 hq
   ·rw [if_neg (fun h => ht h.1)] at hq
    exact dX (n:=false) (decide_eq_false ht) (aN rfl (yA nx (by omega) S h16 hq))
  ·rw [hx] at hq
   refine aY (bA (aZ (bA (gW (aS (aO rfl ?_))))))
   exact S.ret fun h' U _=>hq _ _ h' U S.isSl
theorem aMS {h:aA} (L:KL h F v l rows) (hfit:∀ k∈l,Fit k) (hl:l.length≤256) (hq:uE h ser iss sub key frm til Q (cW l false false ([],false))) :
  C Y1.id [.ag (cc ser iss sub frm til (.sl none 0 none) false key),v] h Q:=by
 refine Y1.call ?_
 simp only [Y1.t, ← Y1.p0.eq_1]
 refine dP rfl fun h1 hl1 U1 R1=>?_
 refine bR fun h2 hl2 U2 R2=>?_
 have hq':uE h ser iss sub key frm til (aL h Q) (cW l false false ([],false)):=by
  cases hx:cW l false false ([],false) with
  | none=>rw [hx] at hq; exact fun nv au h' a b=>.inl (hq nv au h' a b)
  | some x=>rw [hx] at hq; exact fun nv h' a b c=>.inl (hq nv h' a b c)
 exact aKI L hfit hl l 0 h2 false false [] false _ rfl ⟨R1.upd U2 fun h=>h,⟨_,R2,rfl⟩,⟨U1.then U2,.inl ⟨rfl,rfl⟩,fun i hi=>hi.elim⟩,fun i hi=>hi.elim,Nat.le_refl _,by omega,by omega⟩ (by simp) hq'
end
end Go.Proofs.YtcdkpkkdolmfdaaGreatDoor
namespace Go.Proofs.YtcdkpkkdolmfdaaGreatDoor
open Go.GAM Go.RowKit
theorem aBF (x:Option (List UInt8)):pT x = .tu [.s (txt x),.i .i64 (if x.isNone=true then 2 else 0)]:=by cases x <;> rfl
def yS (hb:aA) (Q:AV→aA→Prop):Option eH→Prop
 | none=>∀ cs h',Upd (fun _=>False) hb h'→cs.length=8→cs.all AV.cellOK=true→Q (.tu [.ag cs,.b false]) h'
 | some c=>∀ nv h',Upd (fun _=>False) hb h'→RdI 1 h' nv (c.names.map .s) c.names.length→(∀ i,bU nv i→hb.length≤i)→Q (.tu [.ag (jU c nv),.b true]) h'
structure CSt (hb:aA) (id2 id4:Nat) (h:aA) (cs:List AV):Prop where
 u:Upd (fun _=>False) hb h
 r4:bC h id4 cs
 l4:cs.length=8
 k4:cs.all AV.cellOK=true
 r2:∃ c2,bC h id2 c2∧c2.length=8
 i2:hb.length≤id2
 i4:hb.length≤id4
 ne:id2≠id4
section
variable {hb h:aA} {id2 id4:Nat} {cs:List AV} {Q:AV→aA→Prop}
theorem CSt.up {h':aA} (S:CSt hb id2 id4 h cs) (U:Upd (fun _=>False) h h'):CSt hb id2 id4 h' cs:=by
 obtain ⟨c2,q1,q2⟩:=S.r2
 exact ⟨S.u.then U,S.r4.upd U fun h=>h,S.l4,S.k4,⟨c2,q1.upd U fun h=>h,q2⟩,S.i2,S.i4,S.ne⟩
theorem aLK {cs:List AV} {o:Nat} {v:AV} (h:cs.all AV.cellOK=true) (hv:v.cellOK=true):(cs.set o v).all AV.cellOK=true:=by
 rw [List.all_eq_true] at h ⊢
 intro x hx
 rcases List.mem_or_eq_of_mem_set hx with h1 | h1
 ·exact h x h1
 ·rw [h1]; exact hv
theorem CSt.set {o:Nat} {v:AV} {K:aA→Prop} (S:CSt hb id2 id4 h cs) (ho:o<8) (hp:v.parts=[v]:=by rfl) (hs:v.sizeOK=true:=by rfl) (hc:v.cellOK=true:=by rfl) (hk:∀ h',CSt hb id2 id4 h' (cs.set o v)→K h'):aP 1 (.p (some ⟨id4,8,o⟩)) v h K:=by
 obtain ⟨c2,q1,q2⟩:=S.r2
 refine b7 S.r4 S.l4.symm (by rw [S.l4]; exact ho) hp hs hc fun h' hl U R=>hk h' ?_
 exact ⟨S.u.own U S.i4,R,by rw [List.length_set]; exact S.l4,aLK S.k4 hc,⟨c2,q1.upd U S.ne,q2⟩,S.i2,S.i4,S.ne⟩
theorem CSt.ret {K:AV→aA→Prop} (S:CSt hb id2 id4 h cs) (hk:∀ h',Upd (fun _=>False) hb h'→K (.ag cs) h') :
  aD 8 (.p (some ⟨id4,8,0⟩)) h fun v=>aP 8 (.p (some ⟨id2,8,0⟩)) v h fun h'=>aD 8 (.p (some ⟨id2,8,0⟩)) h' fun w=>K w h':=by
 obtain ⟨c2,q1,q2⟩:=S.r2
 exact aT S.r4 S.l4.symm (aW q1 q2.symm S.l4 S.k4 fun h1 hl1 U1 R1=>aT R1 S.l4.symm (hk h1 (S.u.own U1 S.i2)))
theorem CSt.put {ws:List AV} {K:AV→aA→Prop} (S:CSt hb id2 id4 h cs) (hw:ws.length=8) (hok:ws.all AV.cellOK=true) (hk:∀ h',Upd (fun _=>False) hb h'→Upd (· = id2) h h'→K (.ag ws) h') :
  aP 8 (.p (some ⟨id2,8,0⟩)) (.ag ws) h fun h'=>aD 8 (.p (some ⟨id2,8,0⟩)) h' fun w=>K w h':=by
 obtain ⟨c2,q1,q2⟩:=S.r2
 exact aW q1 q2.symm hw hok fun h1 hl1 U1 R1=>aT R1 hw.symm (hk h1 (S.u.own U1 S.i2) U1)
theorem CSt.fail (S:CSt hb id2 id4 h cs) (hq:yS hb Q none) :
  aD 8 (.p (some ⟨id4,8,0⟩)) h fun v=>aP 8 (.p (some ⟨id2,8,0⟩)) v h fun h'=>aD 8 (.p (some ⟨id2,8,0⟩)) h' fun w=>Q (.tu [w,.b false]) h':=
 S.ret fun h' U=>hq cs h' U S.l4 S.k4
end
section
variable {hb h:aA} {id2 id4:Nat} {Q:AV→aA→Prop} {F:Nat→Prop} {w:AV} {rows:List (List AV)} {a b c d e f g:Der} {xs:List Der}
 (L:KL hb F w (a :: b :: c :: d :: e :: f :: g :: xs) rows) (hfit:∀ k∈a :: b :: c :: d :: e :: f :: g :: xs,Fit k) (hxs:xs.length≤1)
 (hq:yS hb Q (bX (a :: b :: c :: d :: e :: f :: g :: xs)))
theorem qK (x:Der):o4 [x]=if isS 2 3 true x=true then (match x.kids with
  | [k]=>if cL k=true then cW k.kids false false ([],false) else none
  | _=>none) else none:=rfl
include L hfit in
theorem aPP {x k:Der} {ser iss sub key:List UInt8} {frm til:Int} (hx:xs=[x]) (hk:x.kids=[k]) (S:CSt hb id2 id4 h (cc ser iss sub frm til (.sl none 0 none) false key))
  (hq:yS hb Q ((cW k.kids false false ([],false)).map fun n=>⟨ser,iss,sub,frm,til,n.1,n.2,key⟩)):Y2.p6 Q (.p (some ⟨id2,8,0⟩)) (.p (some ⟨id4,8,0⟩)) w false h:=by
 obtain ⟨rx,Ax⟩:=L.at (i:=7) (k:=x) (by rw [hx] <;> rfl)
 obtain ⟨wx,rsx,gx,Kx,ldx⟩:=Ax.f4
 have fx:Fit x:=hfit x (by rw [hx]; simp)
 obtain ⟨rk,Ak⟩:=Kx.at (i:=0) (k:=k) (by rw [hk] <;> rfl)
 obtain ⟨wk,rsk,gk,Kk,ldk⟩:=Ak.f4
 have fk:Fit k:=fx.kid (by rw [hk]; simp)
 have a7:∀ (h':aA),Upd (fun _=>False) hb h'→∀ K:AV→Prop,aB 5 w (.i .i64 7) h' K=K (ptr w 5 7 0):=Ax.idx
 have a0:∀ (h':aA),Upd (fun _=>False) hb h'→∀ K:AV→Prop,aB 5 wx (.i .i64 0) h' K=K (ptr wx 5 0 0):=Ak.idx
 refine Y2.i6 ?_
 simp only [Y2.t6]
 refine aN rfl (aT S.r4 rfl ?_)
 simp only [a7 h S.u,a0 h S.u,Ax.fa,Ak.fa,ldx h S.u,ldk h S.u]
 refine aMS (Kk.up S.u) (fun y hy=>fk.kid hy) fk.few ?_
 cases he:cW k.kids false false ([],false) with
 | none =>
  rw [he] at hq
  intro nv au h1 U1 hn
  have V1:=S.u.then U1
  simp only [a7 h1 V1,a0 h1 V1,Ax.fa,Ak.fa,ldx h1 V1,ldk h1 V1,bL,true_and]
  refine aY (aZ (aS ((S.up U1).put rfl (aFI hn) fun h2 U2 _=>hq _ h2 U2 rfl (aFI hn))))
 | some n =>
  rw [he] at hq
  intro nv h1 U1 R1 N1
  have V1:=S.u.then U1
  simp only [a7 h1 V1,a0 h1 V1,Ax.fa,Ak.fa,ldx h1 V1,ldk h1 V1,bL,true_and]
  refine aY (aZ (aS ((S.up U1).put rfl (aFI R1.isSl) fun h2 U2 U3=>hq nv h2 U2 (R1.upd U3 fun i hi e=>?_) fun i hi=>?_)))
  ·obtain ⟨c2, q1, q2⟩ := S.r2
   have:=q1.lt
   have:=N1 i hi
   omega
  ·exact Nat.le_trans S.u.1 (N1 i hi)
include L hfit hxs hq in
theorem aO7 {i s : List UInt8} {t : Int × Int} (h1 : eN a b c = true) (h2 : cF d = some i) (h3 : cF f = some s) (h4 : eV e = some t) {k0 : UInt8} {kr : List UInt8} (h5 : nT g = some kr)
  (S:CSt hb id2 id4 h (cc (hZ b.data) i s t.1 t.2 (.sl none 0 none) false [])):Y2.p5 Q (.p (some ⟨id2,8,0⟩)) (.p (some ⟨id4,8,0⟩)) w ((xs.length+7:Nat):Int) (k0 :: kr) false h:=by
 rw [aM8 h1 h2 h3 h4 h5] at hq
 refine Y2.i5 ?_
 simp only [Y2.t5, ← Y2.p6.eq_1]
 refine aN rfl (gY (lo:=1) (by simp) (aK (S.set (o:=7) (by omega) rfl rfl rfl fun h1' S1=>?_)))
 have S1:CSt hb id2 id4 h1' (cc (hZ b.data) i s t.1 t.2 (.sl none 0 none) false kr):=S1
 have hp6:∀ (h':aA),o4 xs=none→CSt hb id2 id4 h' (cc (hZ b.data) i s t.1 t.2 (.sl none 0 none) false kr)→Y2.p6 Q (.p (some ⟨id2,8,0⟩)) (.p (some ⟨id4,8,0⟩)) w true h':=by
  intro h' hx S'
  rw [hx] at hq
  refine Y2.i6 ?_
  simp only [Y2.t6]
  exact aO rfl (S'.fail hq)
 match xs,L,hfit,hxs,hq,hp6 with
 | [], L, hfit, hxs, hq, hp6 =>
  refine aO rfl ?_
  refine S1.ret fun h2 U2=>hq _ h2 U2 (.inl ⟨rfl,rfl,rfl⟩) fun i hi=>hi.elim
 | [x], L, hfit, hxs, hq, hp6 =>
  refine aN rfl ?_
  obtain ⟨rx,Ax⟩:=L.at (i:=7) (k:=x) rfl
  obtain ⟨wx,rsx,gx,Kx,ldx⟩:=Ax.f4
  have fx:Fit x:=hfit x (by simp)
  have a7:∀ (h':aA),Upd (fun _=>False) hb h'→∀ K:AV→Prop,aB 5 w (.i .i64 7) h' K=K (ptr w 5 7 0):=Ax.idx
  simp only [a7 h1' S1.u,Ax.ld h1' S1.u]
  refine fK (Ax.dv.ext S1.u) (aS ?_)
  refine aG (fun e=>hp6 _ ?_ S1) fun e=>?_
  ·have e : isS 2 3 true x = false := by simpa using e
   rw [qK,if_neg (by rw [e]; decide)]
  have ex:isS 2 3 true x=true:=by simpa using e
  simp only [a7 h1' S1.u,Ax.fa,ldx h1' S1.u,(Kx.up S1.u).rd.plen]
  refine aG (fun e=>hp6 _ ?_ S1) fun e=>?_
  ·have e : ¬ (x.kids.length : Int) = 1 := by simpa using e
   rw [qK,if_pos ex]
   split
   ·rename_i hk; rw [hk] at e; exact absurd rfl e
   ·rfl
  obtain ⟨k,hk⟩:∃ k,x.kids=[k]:=by
   have e:(x.kids.length:Int)=1:=by simpa using e
   match x.kids,(show x.kids.length=1 by omega) with
   | [k],_=>exact ⟨k,rfl⟩
  obtain ⟨rk,Ak⟩:=Kx.at (i:=0) (k:=k) (by rw [hk] <;> rfl)
  have a0:∀ (h':aA),Upd (fun _=>False) hb h'→∀ K:AV→Prop,aB 5 wx (.i .i64 0) h' K=K (ptr wx 5 0 0):=Ak.idx
  simp only [a7 h1' S1.u,Ax.fa,ldx h1' S1.u,a0 h1' S1.u,Ak.ld h1' S1.u]
  refine fK (Ak.dv.ext S1.u) (aS ?_)
  cases ek:isS 0 16 true k with
  | false =>
   refine hp6 _ ?_ S1
   rw [qK,if_pos ex,hk]
   simp only
   rw [if_neg (by rw [show cL k=false from ek]; decide)]
  | true =>
   refine aPP L hfit rfl hk S1 ?_
   have:o4 [x]=cW k.kids false false ([],false):=by
    rw [qK,if_pos ex,hk]
    simp only
    rw [if_pos (show cL k=true from ek)]
   rw [this] at hq
   exact hq
include L hfit hxs hq in
theorem aO4 {i s : List UInt8} {t : Int × Int} (h1 : eN a b c = true) (h2 : cF d = some i) (h3 : cF f = some s) (h4 : eV e = some t) {p q : Der} (hg : cL g = true) (hk : g.kids = [p, q]) (hp : cL p = true) (hbq : kE q = true)
  (S:CSt hb id2 id4 h (cc (hZ b.data) i s t.1 t.2 (.sl none 0 none) false [])):Y2.p4 Q (.p (some ⟨id2,8,0⟩)) (.p (some ⟨id4,8,0⟩)) w ((xs.length+7:Nat):Int) false h:=by
 obtain ⟨rg,Ag⟩:=L.at (i:=6) (k:=g) rfl
 obtain ⟨wg,rsg,gg,Kg,ldg⟩:=Ag.f4
 obtain ⟨rq,Aq⟩:=Kg.at (i:=1) (k:=q) (by rw [hk] <;> rfl)
 have a6:∀ (h':aA),Upd (fun _=>False) hb h'→∀ K:AV→Prop,aB 5 w (.i .i64 6) h' K=K (ptr w 5 6 0):=Ag.idx
 have a1:∀ (h':aA),Upd (fun _=>False) hb h'→∀ K:AV→Prop,aB 5 wg (.i .i64 1) h' K=K (ptr wg 5 1 0):=Aq.idx
 have hks:nT g=match q.data with
   | c :: r=>if c=0 then some r else none
   | []=>none:=by
  unfold nT; rw [if_pos hg,hk]
  simp only
  rw [hp,hbq] <;> rfl
 refine Y2.i4 ?_
 simp only [Y2.t4, ← Y2.p5.eq_1]
 refine aN rfl ?_
 simp only [a6 h S.u,Ag.fa,ldg h S.u,a1 h S.u,Aq.fa,Aq.f3 h S.u,cI]
 have fail:∀ x,nT g=none→Y2.p5 Q (.p (some ⟨id2,8,0⟩)) (.p (some ⟨id4,8,0⟩)) w ((xs.length+7:Nat):Int) x true h:=by
  intro x hx
  rw [aGI hx] at hq
  refine Y2.i5 ?_
  simp only [Y2.t5, ← Y2.p6.eq_1]
  exact aO rfl (S.fail hq)
 cases hd:q.data with
 | nil=>rw [hd] at hks; exact aO rfl (fail _ hks)
 | cons c0 r =>
  rw [hd] at hks
  simp only at hks
  refine aN rfl (cS (i:=0) (c:=c0) (r:=r) rfl ?_)
  by_cases hc:c0=0
  ·rw [if_pos hc] at hks
   subst hc
   exact aO7 L hfit hxs hq h1 h2 h3 h4 hks S
  ·rw [if_neg hc] at hks
   have:(!decide (((c0.toNat:Nat):Int)=0))=true:=by
    have:=aAJ (c:=c0) (n:=0) hc
    simpa using this
   rw [this]
   exact fail _ hks
include L hfit hxs hq in
theorem aPU {i s:List UInt8} {t:Int × Int} (h1:eN a b c=true) (h2:cF d=some i) (h3:cF f=some s) (h4:eV e=some t)
  (S:CSt hb id2 id4 h (cc (hZ b.data) i s 0 0 (.sl none 0 none) false [])):Y2.p3 Q (.p (some ⟨id2,8,0⟩)) (.p (some ⟨id4,8,0⟩)) w ((xs.length+7:Nat):Int) t.1 t.2 false h:=by
 obtain ⟨rg,Ag⟩:=L.at (i:=6) (k:=g) rfl
 obtain ⟨wg,rsg,gg,Kg,ldg⟩:=Ag.f4
 have a6:∀ (h':aA),Upd (fun _=>False) hb h'→∀ K:AV→Prop,aB 5 w (.i .i64 6) h' K=K (ptr w 5 6 0):=Ag.idx
 refine Y2.i3 ?_
 simp only [Y2.t3, ← Y2.p4.eq_1]
 refine aN rfl (aK (S.set (o:=3) (by omega) rfl rfl rfl fun hx1 S1=>aK (S1.set (o:=4) (by omega) rfl rfl rfl fun hx S2=>?_)))
 have S2:CSt hb id2 id4 hx (cc (hZ b.data) i s t.1 t.2 (.sl none 0 none) false []):=S2
 have fail:nT g=none→Y2.p4 Q (.p (some ⟨id2,8,0⟩)) (.p (some ⟨id4,8,0⟩)) w ((xs.length+7:Nat):Int) true hx:=by
  intro hk
  rw [aGI hk] at hq
  refine Y2.i4 ?_
  simp only [Y2.t4, ← Y2.p5.eq_1]
  exact aO rfl (S2.fail hq)
 simp only [a6 hx S2.u,Ag.ld hx S2.u]
 refine fK (Ag.dv.ext S2.u) (aS ?_)
 refine aG (fun e=>fail ?_) fun e=>?_
 ·have e : isS 0 16 true g = false := by simpa using e
  unfold nT; rw [if_neg (by rw [show cL g=false from e]; decide)]
 have eg:cL g=true:=show isS 0 16 true g=true by simpa using e
 simp only [a6 hx S2.u,Ag.fa,ldg hx S2.u,(Kg.up S2.u).rd.plen]
 refine aG (fun e=>fail ?_) fun e=>?_
 ·have e : ¬ (g.kids.length : Int) = 2 := by simpa using e
  unfold nT; rw [if_pos eg]
  split
  ·rename_i hk; rw [hk] at e; exact absurd rfl e
  ·rfl
 have e2:(g.kids.length:Int)=2:=by simpa using e
 obtain ⟨p,q,hk⟩:=aFC (show g.kids.length=2 by omega)
 obtain ⟨rp,Ap⟩:=Kg.at (i:=0) (k:=p) (by rw [hk] <;> rfl)
 obtain ⟨rq,Aq⟩:=Kg.at (i:=1) (k:=q) (by rw [hk] <;> rfl)
 have a0:∀ (h':aA),Upd (fun _=>False) hb h'→∀ K:AV→Prop,aB 5 wg (.i .i64 0) h' K=K (ptr wg 5 0 0):=Ap.idx
 have a1:∀ (h':aA),Upd (fun _=>False) hb h'→∀ K:AV→Prop,aB 5 wg (.i .i64 1) h' K=K (ptr wg 5 1 0):=Aq.idx
 simp only [a6 hx S2.u,Ag.fa,ldg hx S2.u,a0 hx S2.u,Ap.ld hx S2.u]
 refine fK (Ap.dv.ext S2.u) (aS ?_)
 refine aG (fun e=>fail ?_) fun e=>?_
 ·have e : isS 0 16 true p = false := by simpa using e
  unfold nT; rw [if_pos eg,hk]
  simp only
  rw [show cL p=false from e] <;> rfl
 have ep:cL p=true:=show isS 0 16 true p=true by simpa using e
 simp only [a6 hx S2.u,Ag.fa,ldg hx S2.u,a1 hx S2.u,Aq.ld hx S2.u]
 refine aFF (Aq.dv.ext S2.u) (aS ?_)
 cases eq:kE q with
 | false =>
  refine fail ?_
  unfold nT; rw [if_pos eg,hk]
  simp only
  rw [ep,eq] <;> rfl
 | true=>exact aO4 L hfit hxs hq h1 h2 h3 h4 eg hk ep eq S2
include L hfit hxs hq in
theorem aPD {p q : Der} (h1 : eN a b c = true) (he : cL e = true) (hk : e.kids = [p, q]) (S : CSt hb id2 id4 h (cc [] [] [] 0 0 (.sl none 0 none) false [])) : Y2.p2 Q (.p (some ⟨id2, 8, 0⟩)) (.p (some ⟨id4, 8, 0⟩)) w ((xs.length + 7 : Nat) : Int) false h := by
 obtain ⟨rb,Ab⟩:=L.at (i:=1) (k:=b) rfl
 obtain ⟨rd,Ad⟩:=L.at (i:=3) (k:=d) rfl
 obtain ⟨re,Ae⟩:=L.at (i:=4) (k:=e) rfl
 obtain ⟨rf,Af⟩:=L.at (i:=5) (k:=f) rfl
 obtain ⟨we,rse,ge,Ke,lde⟩:=Ae.f4
 obtain ⟨rp,Ap⟩:=Ke.at (i:=0) (k:=p) (by rw [hk] <;> rfl)
 obtain ⟨rq,Aq⟩:=Ke.at (i:=1) (k:=q) (by rw [hk] <;> rfl)
 have fb:Fit b:=hfit b (by simp)
 have fe:Fit e:=hfit e (by simp)
 have fp:Fit p:=fe.kid (by rw [hk]; simp)
 have fq:Fit q:=fe.kid (by rw [hk]; simp)
 have a1:∀ (h':aA),Upd (fun _=>False) hb h'→∀ K:AV→Prop,aB 5 w (.i .i64 1) h' K=K (ptr w 5 1 0):=Ab.idx
 have a3:∀ (h':aA),Upd (fun _=>False) hb h'→∀ K:AV→Prop,aB 5 w (.i .i64 3) h' K=K (ptr w 5 3 0):=Ad.idx
 have a4:∀ (h':aA),Upd (fun _=>False) hb h'→∀ K:AV→Prop,aB 5 w (.i .i64 4) h' K=K (ptr w 5 4 0):=Ae.idx
 have a5:∀ (h':aA),Upd (fun _=>False) hb h'→∀ K:AV→Prop,aB 5 w (.i .i64 5) h' K=K (ptr w 5 5 0):=Af.idx
 have p0:∀ (h':aA),Upd (fun _=>False) hb h'→∀ K:AV→Prop,aB 5 we (.i .i64 0) h' K=K (ptr we 5 0 0):=Ap.idx
 have p1:∀ (h':aA),Upd (fun _=>False) hb h'→∀ K:AV→Prop,aB 5 we (.i .i64 1) h' K=K (ptr we 5 1 0):=Aq.idx
 have ht:eV e=if ((cT p).2&&(cT q).2)=true then some ((cT p).1,(cT q).1) else none:=by
  unfold eV; rw [if_pos he,hk]
 refine Y2.i2 ?_
 simp only [Y2.t2, ← Y2.p3.eq_1]
 refine aN rfl ?_
 simp only [a1 h S.u,Ab.fa,Ab.f3 h S.u,cI]
 refine aOM (by have:=fb.data; omega) (bA (aK (S.set (o:=0) (by omega) rfl rfl rfl fun h1' S1=>?_)))
 simp only [a3 h1' S1.u,Ad.ld h1' S1.u]
 refine aGA (Ad.dv.ext S1.u) (hfit d (by simp)).names ?_
 rw [aBF (cF d)]
 refine aY (bA (aZ (aQ (aK (S1.set (o:=1) (by omega) rfl rfl rfl fun h2 S2=>?_)))))
 simp only [a5 h2 S2.u,Af.ld h2 S2.u]
 refine aGA (Af.dv.ext S2.u) (hfit f (by simp)).names ?_
 rw [aBF (cF f)]
 refine aY (bA (aZ (aQ (aK (S2.set (o:=2) (by omega) rfl rfl rfl fun h3 S3=>?_)))))
 have S3:CSt hb id2 id4 h3 (cc (hZ b.data) (txt (cF d)) (txt (cF f)) 0 0 (.sl none 0 none) false []):=S3
 simp only [a4 h3 S3.u,Ae.fa,lde h3 S3.u,p0 h3 S3.u,Ap.ld h3 S3.u]
 refine aF9 (Ap.dv.ext S3.u) (by have:=fp.data; omega) (aY (aQ (aZ (aS ?_))))
 simp only [a4 h3 S3.u,Ae.fa,lde h3 S3.u,p1 h3 S3.u,Aq.ld h3 S3.u]
 refine aF9 (Aq.dv.ext S3.u) (by have:=fq.data; omega) (aY (aQ (aZ (aS ?_))))
 have fail:∀ x y,bX (a :: b :: c :: d :: e :: f :: g :: xs)=none→Y2.p3 Q (.p (some ⟨id2,8,0⟩)) (.p (some ⟨id4,8,0⟩)) w ((xs.length+7:Nat):Int) x y true h3:=by
  intro x y hn
  rw [hn] at hq
  refine Y2.i3 ?_
  simp only [Y2.t3, ← Y2.p4.eq_1]
  exact aO rfl (S3.fail hq)
 cases hd:cF d with
 | none=>exact aO rfl (fail _ _ (aO6 hd))
 | some i =>
  refine aN rfl ?_
  cases hf:cF f with
  | none=>exact aO rfl (fail _ _ (aP3 hf))
  | some s =>
   refine aN rfl ?_
   rw [hd,hf] at S3
   cases e1:(cT p).2 with
   | false=>exact aO rfl (fail _ _ (aH3 (by rw [ht,e1] <;> rfl)))
   | true =>
    refine aN rfl ?_
    cases e2:(cT q).2 with
    | false=>exact fail _ _ (aH3 (by rw [ht,e1,e2] <;> rfl))
    | true=>exact aPU (t:=((cT p).1,(cT q).1)) L hfit hxs hq h1 hd hf (by rw [ht,e1,e2] <;> rfl) S3
end
end Go.Proofs.YtcdkpkkdolmfdaaGreatDoor
namespace Go.Proofs.YtcdkpkkdolmfdaaGreatDoor
open Go.GAM Go.RowKit
section
variable {hb h:aA} {id2 id4:Nat} {Q:AV→aA→Prop} {F:Nat→Prop} {w:AV} {rows:List (List AV)} {a b c d e f g:Der} {xs:List Der}
 (L:KL hb F w (a :: b :: c :: d :: e :: f :: g :: xs) rows) (hfit:∀ k∈a :: b :: c :: d :: e :: f :: g :: xs,Fit k) (hxs:xs.length≤1)
 (hq:yS hb Q (bX (a :: b :: c :: d :: e :: f :: g :: xs)))
include L hfit hxs hq in
theorem aPB (hv:tQ a=true) (S:CSt hb id2 id4 h (cc [] [] [] 0 0 (.sl none 0 none) false [])):Y2.p1 Q (.p (some ⟨id2,8,0⟩)) (.p (some ⟨id4,8,0⟩)) w ((xs.length+7:Nat):Int) false h:=by
 obtain ⟨rb,Ab⟩:=L.at (i:=1) (k:=b) rfl
 obtain ⟨rc,Ac⟩:=L.at (i:=2) (k:=c) rfl
 obtain ⟨re,Ae⟩:=L.at (i:=4) (k:=e) rfl
 obtain ⟨we,rse,ge,Ke,lde⟩:=Ae.f4
 have a1:∀ (h':aA),Upd (fun _=>False) hb h'→∀ K:AV→Prop,aB 5 w (.i .i64 1) h' K=K (ptr w 5 1 0):=Ab.idx
 have a2:∀ (h':aA),Upd (fun _=>False) hb h'→∀ K:AV→Prop,aB 5 w (.i .i64 2) h' K=K (ptr w 5 2 0):=Ac.idx
 have a4:∀ (h':aA),Upd (fun _=>False) hb h'→∀ K:AV→Prop,aB 5 w (.i .i64 4) h' K=K (ptr w 5 4 0):=Ae.idx
 have fail:bX (a :: b :: c :: d :: e :: f :: g :: xs)=none→Y2.p2 Q (.p (some ⟨id2,8,0⟩)) (.p (some ⟨id4,8,0⟩)) w ((xs.length+7:Nat):Int) true h:=by
  intro hn
  rw [hn] at hq
  refine Y2.i2 ?_
  simp only [Y2.t2, ← Y2.p3.eq_1]
  exact aO rfl (S.fail hq)
 refine Y2.i1 ?_
 simp only [Y2.t1, ← Y2.p2.eq_1]
 refine aN rfl ?_
 simp only [a1 h S.u,Ab.ld h S.u]
 refine fK (Ab.dv.ext S.u) (aS ?_)
 refine aG (fun e=>fail (aGM ?_)) fun e1=>?_
 ·have e : isS 0 2 false b = false := by simpa using e
  unfold eN; rw [e]; simp
 have e1:isS 0 2 false b=true:=by simpa using e1
 simp only [a1 h S.u,Ab.fa,Ab.f3 h S.u,cI]
 refine aG (fun e=>fail (aGM ?_)) fun e2=>?_
 ·unfold eN; rw [e]; simp
 simp only [a2 h S.u,Ac.ld h S.u]
 refine fK (Ac.dv.ext S.u) (aS ?_)
 refine aG (fun e=>fail (aGM ?_)) fun e3=>?_
 ·have e : isS 0 16 true c = false := by simpa using e
  unfold eN; rw [show cL c=false from e]; simp
 have e3:cL c=true:=show isS 0 16 true c=true by simpa using e3
 simp only [a4 h S.u,Ae.ld h S.u]
 refine fK (Ae.dv.ext S.u) (aS ?_)
 refine aG (fun e'=>fail (aH3 ?_)) fun e4=>?_
 ·have e' : isS 0 16 true e = false := by simpa using e'
  unfold eV; rw [if_neg (by rw [show cL e=false from e']; decide)]
 have e4:cL e=true:=show isS 0 16 true e=true by simpa using e4
 simp only [a4 h S.u,Ae.fa,lde h S.u,(Ke.up S.u).rd.plen]
 by_cases e5:e.kids.length=2
 ·rw [decide_eq_true (show (e.kids.length : Int) = 2 by omega)]
  obtain ⟨p,q,hk⟩:=aFC e5
  exact aPD L hfit hxs hq (by unfold eN; rw [hv,e1,e2,e3] <;> rfl) e4 hk S
 ·rw [decide_eq_false (show ¬ (e.kids.length : Int) = 2 by omega)]
  refine fail (aH3 ?_)
  unfold eV; rw [if_pos e4]
  split
  ·rename_i hk; rw [hk] at e5; exact absurd rfl e5
  ·rfl
include L hfit hxs hq in
theorem aPS (S:CSt hb id2 id4 h (cc [] [] [] 0 0 (.sl none 0 none) false [])):Y2.p0 Q (.p (some ⟨id2,8,0⟩)) (.p (some ⟨id4,8,0⟩)) w ((xs.length+7:Nat):Int) false h:=by
 obtain ⟨ra,Aa⟩:=L.at (i:=0) (k:=a) rfl
 obtain ⟨wa,rsa,ga,Ka,lda⟩:=Aa.f4
 have a0:∀ (h':aA),Upd (fun _=>False) hb h'→∀ K:AV→Prop,aB 5 w (.i .i64 0) h' K=K (ptr w 5 0 0):=Aa.idx
 have fa:Fit a:=hfit a (by simp)
 have fail:tQ a=false→Y2.p1 Q (.p (some ⟨id2,8,0⟩)) (.p (some ⟨id4,8,0⟩)) w ((xs.length+7:Nat):Int) true h:=by
  intro hn
  rw [aGM (by unfold eN; rw [hn] <;> rfl)] at hq
  refine Y2.i1 ?_
  simp only [Y2.t1, ← Y2.p2.eq_1]
  exact aO rfl (S.fail hq)
 refine Y2.i0 ?_
 simp only [Y2.t0, ← Y2.p1.eq_1]
 refine aN rfl ?_
 simp only [a0 h S.u,Aa.ld h S.u]
 refine fK (Aa.dv.ext S.u) (aS ?_)
 refine aG (fun e=>fail ?_) fun e1=>?_
 ·have e : isS 2 0 true a = false := by simpa using e
  unfold tQ; rw [e] <;> rfl
 have e1:isS 2 0 true a=true:=by simpa using e1
 simp only [a0 h S.u,Aa.fa,lda h S.u,(Ka.up S.u).rd.plen]
 refine aG (fun e=>fail ?_) fun e2=>?_
 ·have e : ¬ (a.kids.length : Int) = 1 := by simpa using e
  unfold tQ; rw [e1,Bool.true_and]
  split
  ·rename_i hk; rw [hk] at e; exact absurd rfl e
  ·rfl
 have e2:(a.kids.length:Int)=1:=by simpa using e2
 obtain ⟨v,hk⟩:∃ v,a.kids=[v]:=by
  match a.kids,(show a.kids.length=1 by omega) with
  | [v],_=>exact ⟨v,rfl⟩
 have fv:Fit v:=fa.kid (by rw [hk]; simp)
 have hv:tQ a=(isS 0 2 false v&&decide (v.data=[2])):=by
  unfold tQ; rw [e1,hk,Bool.true_and]; exact aL8 fv
 obtain ⟨rv,Av⟩:=Ka.at (i:=0) (k:=v) (by rw [hk] <;> rfl)
 have v0:∀ (h':aA),Upd (fun _=>False) hb h'→∀ K:AV→Prop,aB 5 wa (.i .i64 0) h' K=K (ptr wa 5 0 0):=Av.idx
 simp only [a0 h S.u,Aa.fa,lda h S.u,v0 h S.u,Av.ld h S.u]
 refine fK (Av.dv.ext S.u) (aS ?_)
 refine aG (fun e=>fail ?_) fun e3=>?_
 ·have e : isS 0 2 false v = false := by simpa using e
  rw [hv,e] <;> rfl
 have e3:isS 0 2 false v=true:=by simpa using e3
 rw [e3,Bool.true_and] at hv
 simp only [a0 h S.u,Aa.fa,lda h S.u,v0 h S.u,Av.fa,Av.f3 h S.u,cI]
 cases e4:decide (v.data=[2]) with
 | false=>exact fail (by rw [hv,e4])
 | true=>exact aPB L hfit hxs hq (by rw [hv,e4]) S
end
section
variable {h:aA} {Q:AV→aA→Prop} {F:Nat→Prop}
theorem aER {d:Der} {cs:List AV} (D:DV h F d cs) (fd:Fit d) (hq:yS h Q (if cL d=true then bX d.kids else none)):C Y2.id [.ag cs] h Q:=by
 refine Y2.call ?_
 simp only [Y2.t, ← Y2.p0.eq_1]
 refine D.box fun h1 hl1 U1 R1 D1=>b5 (n:=8) rfl fun h2 hl2 U2 R2=>b5 (n:=8) rfl fun h3 hl3 U3 R3=>?_
 have U13:=U2.then U3
 obtain ⟨w,rs,g1,g2,g3,g4,g5⟩:=D1.kidsLen
 have L:KL h1 F w d.kids rs:=⟨g2,g3,fun i hi=>(g5 i hi).1⟩
 have R13:=R1.upd U13 fun h=>h
 have D3:=D1.ext U13
 have S:CSt h1 h1.length h2.length h3 (cc [] [] [] 0 0 (.sl none 0 none) false []):=⟨U13,R3,rfl,rfl,⟨_,R2.upd U3 fun h=>h,rfl⟩,Nat.le_refl _,by omega,by omega⟩
 have hq:yS h1 (aL h Q) (if cL d=true then bX d.kids else none):=by
  cases hx:(if cL d=true then bX d.kids else none) with
  | none=>rw [hx] at hq; exact fun cs h' U a b=>.inl (hq cs h' (U1.then U) a b)
  | some x=>rw [hx] at hq; exact fun nv h' U R N=>.inl (hq nv h' (U1.then U) R fun i hi=>by have:=N i hi; omega)
 have fail:∀ n,(if cL d=true then bX d.kids else none)=none→Y2.p0 (aL h Q) (.p (some ⟨h1.length,8,0⟩)) (.p (some ⟨h2.length,8,0⟩)) w n true h3:=by
  intro n hn
  rw [hn] at hq
  refine Y2.i0 ?_
  simp only [Y2.t0, ← Y2.p1.eq_1]
  exact aO rfl (S.fail hq)
 simp only [dC,fL R13 D1.len.symm g1,(L.up U13).rd.plen,Nat.zero_add]
 refine aT R13 D1.len.symm (fK D3 (aS ?_))
 refine aG (fun e=>fail _ ?_) fun e=>?_
 ·have e : isS 0 16 true d = false := by simpa using e
  rw [if_neg (by rw [show cL d=false from e]; decide)]
 have es:cL d=true:=show isS 0 16 true d=true by simpa using e
 rw [if_pos es] at hq fail
 refine aG (fun e=>fail _ ?_) fun e7=>?_
 ·have e := of_decide_eq_true e
  exact sZ (by omega)
 have e7:=of_decide_eq_false e7
 by_cases e8:8<d.kids.length
 ·rw [decide_eq_true (show (8 : Int) < (d.kids.length : Int) by omega)]
  exact fail _ (qR e8)
 rw [decide_eq_false (show ¬ (8:Int)<(d.kids.length:Int) by omega)]
 obtain ⟨a,b,c,d',e,f,g,xs,hk⟩:=aNI (l:=d.kids) (by omega)
 have hfit:∀ k∈d.kids,Fit k:=fun k hk=>fd.kid hk
 rw [hk] at L hq e8 hfit
 have hn:((d.kids.length:Nat):Int)=((xs.length+7:Nat):Int):=by rw [hk] <;> rfl
 rw [hn]
 exact aPS L hfit (by simp at e8; omega) hq S
theorem aHJ {h0:aA} {x:Der} {id id4:Nat} {cs c2 rx:List AV} {w:AV} (A:KAt h F w 0 x rx) (fx:Fit x) (U:Upd (fun _=>False) h0 h) (hid:h0.length≤id) (R:bC h id cs) (hl:cs.length=8) (R4:bC h id4 c2) (hl4:c2.length=5) (hw:c2[4]? = some w)
  (hq:aCC h0 Q (aAM (if cL x=true then bX x.kids else none))):Y50.p0 (aL h0 Q) (.p (some ⟨id,8,0⟩)) (.p (some ⟨id4,5,0⟩)) false h:=by
 have u:=Upd.refl (fun _=>False) h
 have a0:∀ K:AV→Prop,aB 5 w (.i .i64 0) h K=K (ptr w 5 0 0):=A.idx h u
 refine Y50.i0 ?_
 simp only [Y50.t0]
 refine aN rfl ?_
 simp only [dC,fL R4 hl4.symm hw,Nat.zero_add,a0,A.ld h u]
 refine aER A.dv fx ?_
 have hidl:=R.lt
 cases hx:(if cL x=true then bX x.kids else none) with
 | none =>
  rw [hx] at hq
  intro cs' h' U' hl' hok
  refine aY (aZ (aS (b5 (n:=8) rfl fun h1 hl1 U1 R1=>aW R1 rfl hl' hok fun h2 hl2 U2 R2=>aO rfl ?_)))
  have V2:Upd (fun _=>False) h h2:=(U'.then U1).own U2 U'.1
  exact gP hq (U.then V2) hid (R.upd V2 fun h=>h) hl fun h' hx=>.inl hx
 | some c =>
  rw [hx] at hq
  intro nv h' U' R' N'
  have V:CV h' c (jU c nv):=⟨nv,rfl,R'⟩
  refine aY (aZ (aS (b5 (n:=8) rfl fun h1 hl1 U1 R1=>aW R1 rfl V.len V.ok fun h2 hl2 U2 R2=>aN rfl (aT R2 V.len.symm ?_))))
  have U12:Upd (fun _=>False) h' h2:=U1.own U2 (Nat.le_refl _)
  have V2:Upd (fun _=>False) h h2:=U'.then U12
  refine aW (R.upd V2 fun h=>h) hl.symm V.len V.ok fun h3 hl3 U3 R3=>aT R3 V.len.symm (.inl (hq _ h3 ((U.then V2).own U3 hid) ⟨nv,rfl,(R'.ext U12).upd U3 fun i hi e=>?_⟩))
  have:=N' i hi
  omega
theorem aBN {s : List UInt8} (hq : aCC h Q (mJ s)) : C Y50.id [.s s] h Q := by
 refine Y50.call ?_
 simp only [Y50.t, ← Y50.p0.eq_1]
 refine b5 (n:=8) rfl fun h1 hl1 U1 R1=>?_
 rw [rW] at hq
 refine aG (fun e=>?_) fun e=>?_
 ·have e := of_decide_eq_true e
  rw [if_pos (by omega)] at hq
  exact gP hq U1 (Nat.le_refl _) R1 rfl fun h' hx=>.inl hx
 have e:=of_decide_eq_false e
 rw [if_neg (by omega)] at hq
 refine rL ?_
 cases hd:j5 s with
 | error e =>
  rw [hd] at hq
  intro h2 U2
  refine aY (aZ (aQ (b5 (n:=5) rfl fun h3 hl3 U3 R3=>aW R3 rfl rfl rfl fun h4 hl4 U4 R4=>?_)))
  have V4:Upd (fun _=>False) h1 h4:=(U2.then U3).own U4 (by have:=U2.1; omega)
  refine aO (by simp [nS hd]) ?_
  exact gP hq (U1.then V4) (Nat.le_refl _) (R1.upd V4 fun h=>h) rfl fun h' hx=>.inl hx
 | ok d =>
  rw [hd] at hq
  have hq:aCC h Q (fT d):=hq
  intro cs h2 U2 D2
  have fd:=Fit.of hd
  refine aY (aZ (aQ (b5 (n:=5) rfl fun h3 hl3 U3 R3=>aW R3 rfl D2.len D2.cells' fun h4 hl4 U4 R4=>?_)))
  have U24:Upd (fun _=>False) h2 h4:=U3.own U4 (Nat.le_refl _)
  have V4:Upd (fun _=>False) h1 h4:=(U2.then U3).own U4 (by have:=U2.1; omega)
  have D4:=D2.ext U24
  have R14:=R1.upd V4 fun h=>h
  have V0:=U1.then V4
  have fail:fT d = .error 2→Y50.p0 (aL h Q) (.p (some ⟨h.length,8,0⟩)) (.p (some ⟨h2.length,5,0⟩)) true h4:=by
   intro hp
   rw [hp] at hq
   refine Y50.i0 ?_
   simp only [Y50.t0]
   exact aO rfl (gP hq V0 (Nat.le_refl _) R14 rfl fun h' hx=>.inl hx)
  refine aN rfl (aT R4 D2.len.symm (fK D4 (aS ?_)))
  refine aG (fun e=>fail ?_) fun e=>?_
  ·have e : isS 0 16 true d = false := by simpa using e
   unfold fT; rw [if_neg (by rw [show cL d=false from e]; decide)]
  have es:cL d=true:=show isS 0 16 true d=true by simpa using e
  obtain ⟨w,rs,g1,g2,g3,g4,g5⟩:=D4.kidsLen
  have L:KL h4 (fun i=>h1.length≤i) w d.kids rs:=⟨g2,g3,fun i hi=>(g5 i hi).1⟩
  simp only [dC,fL R4 D2.len.symm g1,L.rd.plen,Nat.zero_add]
  refine aG (fun e=>fail ?_) fun e=>?_
  ·have e : ¬ (d.kids.length : Int) = 3 := by simpa using e
   unfold fT; rw [if_pos es]
   split
   ·rename_i hk; rw [hk] at e; exact absurd rfl e
   ·rfl
  obtain ⟨a,b,c,hk⟩:∃ a b c,d.kids=[a,b,c]:=by
   have e:(d.kids.length:Int)=3:=by simpa using e
   match d.kids,(show d.kids.length=3 by omega) with
   | [a,b,c],_=>exact ⟨a,b,c,rfl⟩
  have hp:fT d=if (cL a&&(cL b&&kE c))=true then aAM (bX a.kids) else .error 2:=by
   unfold fT; rw [if_pos es,hk]
  obtain ⟨ra,A0⟩:=L.at (i:=0) (k:=a) (by rw [hk] <;> rfl)
  obtain ⟨rb,A1⟩:=L.at (i:=1) (k:=b) (by rw [hk] <;> rfl)
  obtain ⟨rc,A2⟩:=L.at (i:=2) (k:=c) (by rw [hk] <;> rfl)
  have u:=Upd.refl (fun _=>False) h4
  have a1:∀ K:AV→Prop,aB 5 w (.i .i64 1) h4 K=K (ptr w 5 1 0):=A1.idx h4 u
  have a2:∀ K:AV→Prop,aB 5 w (.i .i64 2) h4 K=K (ptr w 5 2 0):=A2.idx h4 u
  simp only [a1,A1.ld h4 u]
  refine fK A1.dv (aS ?_)
  refine aG (fun e=>fail ?_) fun e=>?_
  ·have e : isS 0 16 true b = false := by simpa using e
   rw [hp,show cL b=false from e,Bool.false_and,Bool.and_false] <;> rfl
  have eb:cL b=true:=show isS 0 16 true b=true by simpa using e
  simp only [fL R4 D2.len.symm g1,a2,A2.ld h4 u]
  refine aFF A2.dv (aS ?_)
  cases ec:kE c with
  | false=>exact fail (by rw [hp,ec,Bool.and_false,Bool.and_false] <;> rfl)
  | true =>
   refine aHJ A0 (fd.kid (by rw [hk]; simp)) V0 (Nat.le_refl _) R14 rfl R4 D2.len g1 ?_
   have:aAM (if cL a=true then bX a.kids else none)=fT d:=by
    rw [hp,eb,ec]
    cases cL a <;> rfl
   rw [this]; exact hq
theorem zW {c:eH} {r1 r2:List AV} (V1:CV h c r1) (V2:CV h c r2) (hn:c.names.length≤1000000) (hq:Q (.b true) h):C Y37.id [.ag r1,.ag r2] h Q:=by
 obtain ⟨v,rfl,S1⟩:=V1
 obtain ⟨w,rfl,S2⟩:=V2
 refine Y37.call ?_
 simp only [Y37.t, ← Y37.p0.eq_1]
 refine tR (n:=8) rfl rfl fun h1 hl1 U1 R1=>tR (n:=8) rfl rfl fun h2 hl2 U2 R2=>?_
 have R1:bC h2 h.length (jU c v):=R1.upd U2 fun h=>h
 have R2:bC h2 h1.length (jU c w):=R2
 have U:=U1.then U2
 have l1:∀ (o:Nat) (x:AV),(jU c v)[o]? = some x→∀ K:AV→Prop,aE (.p (some ⟨h.length,8,o⟩)) h2 K=K x:=fun o x hx K=>fL R1 rfl hx
 have l2:∀ (o:Nat) (x:AV),(jU c w)[o]? = some x→∀ K:AV→Prop,aE (.p (some ⟨h1.length,8,o⟩)) h2 K=K x:=fun o x hx K=>fL R2 rfl hx
 have loop:∀ (r:List (List UInt8)) (i:Nat),c.names.drop i=r→Y37.p1 (aL h Q) (.p (some ⟨h.length,8,0⟩)) (.p (some ⟨h1.length,8,0⟩)) i h2:=by
  intro r
  induction r with
  | nil =>
   intro i hr
   have:=cA hr
   refine Y37.i1 ?_
   simp only [Y37.t1, ← Y37.p1.eq_1]
   simp only [dC,Nat.zero_add,l1 5 v rfl,(S1.ext U).plen]
   exact aN (by simp; omega) (aU rfl U.ext hq)
  | cons x r ih =>
   intro i hr
   have hlt:=cG hr
   have hx:=b4 hr
   refine Y37.i1 ?_
   simp only [Y37.t1, ← Y37.p1.eq_1]
   simp only [dC,Nat.zero_add,l1 5 v rfl,l2 5 w rfl,(S1.ext U).plen]
   refine aO (by simp; omega) (S1.str U hx (S2.str U hx (aN (by simp) (inc (by omega) (ih (i+1) (b3 hr))))))
 simp only [dC,Nat.zero_add,l1 0 _ rfl,l2 0 _ rfl,cI]
 refine aN (by simp) ?_
 simp only [l1 1 _ rfl,l2 1 _ rfl,cI]
 refine aN (by simp) ?_
 simp only [l1 2 _ rfl,l2 2 _ rfl,cI]
 refine aN (by simp) ?_
 simp only [l1 3 _ rfl,l2 3 _ rfl,iV]
 refine aN (by simp) ?_
 simp only [l1 4 _ rfl,l2 4 _ rfl,iV]
 refine aN (by simp) ?_
 simp only [l1 6 _ rfl,l2 6 _ rfl,aM6]
 refine aN (by simp) ?_
 simp only [l1 7 _ rfl,l2 7 _ rfl,cI]
 refine aN (by simp) ?_
 simp only [l1 5 _ rfl,l2 5 _ rfl,(S1.ext U).plen,(S2.ext U).plen]
 refine Y37.i0 ?_
 simp only [Y37.t0, ← Y37.p1.eq_1]
 exact aN (by simp) (loop c.names 0 rfl)
theorem qI : ∀ (l : List Der) (nm bs : Bool) (x y : List (List UInt8) × Bool), cW l nm bs x = some y → x.1.length ≤ 16 → y.1.length ≤ 16
 | [],_,_,x,y,h,hx=>by unfold cW at h; cases h; exact hx
 | d :: r, nm, bs, x, y, h, hx => by
  unfold cW at h
  split at h
  ·cases h
  ·split at h
   ·split at h
    ·exact qI r _ _ _ _ h (gZ _ _ hx)
    ·cases h
   ·split at h
    ·split at h
     ·exact qI r _ _ _ _ h hx
     ·cases h
    ·exact qI r _ _ _ _ h hx
theorem xT {l : List Der} {c : eH} (h : bX l = some c) : c.names.length ≤ 16 := by
 unfold bX at h
 split at h
 ·split at h
  ·split at h
   ·rename_i n hx
    cases h
    rename_i x _ _ _ _ _ _
    unfold o4 at hx
    split at hx
    ·cases hx; simp
    ·split at hx
     ·split at hx
      ·split at hx
       ·exact qI _ _ _ _ _ hx (by simp)
       ·cases hx
      ·cases hx
     ·cases hx
    ·cases hx
   ·cases h
  ·cases h
 ·cases h
theorem aC8 {s : List UInt8} {c : eH} (h : mJ s = .ok c) : c.names.length ≤ 16 := by
 rw [rW] at h
 split at h
 ·cases h
 ·split at h
  ·cases h
  ·unfold fT at h
   split at h
   ·split at h
    ·split at h
     ·unfold aAM at h
      split at h
      ·rename_i hc; cases h; exact xT hc
      ·cases h
     ·cases h
    ·cases h
   ·cases h
end
end Go.Proofs.YtcdkpkkdolmfdaaGreatDoor
namespace Go.Proofs.YtcdkpkkdolmfdaaGreatDoor
open Go.GAM Go.RowKit
def aGS:Option Nat→Int
 | some x=>(x:Int)
 | none=>-1
theorem aF5 {c:UInt8} {x:Nat} (h:o9 c=some x):x<16:=(sD h).2
theorem aJZ (c:UInt8):Lib.indexByte vW c=aGS (o9 c):=by
 have:∀ n:Fin 256,Lib.indexByte vW (UInt8.ofNat n.1)=aGS (o9 (UInt8.ofNat n.1)):=by decide +kernel
 have h:=this ⟨c.toNat,c.toNat_lt⟩
 simpa using h
def aQA (c:UInt8):Option Nat:=if 48≤c.toNat∧c.toNat≤57 then some (c.toNat - 48) else if 97≤c.toNat∧c.toNat≤102 then some (c.toNat - 87) else if 65≤c.toNat∧c.toNat≤70 then some (c.toNat - 55) else none
def aK2 (f : UInt8 → Option Nat) : List UInt8 → Option (List UInt8)
 | []=>some []
 | a :: b :: r => match f a, f b, aK2 f r with
  | some x,some y,some l=>some (UInt8.ofNat (16 * x+y) :: l)
  | _,_,_=>none
 | [_]=>none
def aP6 (s:List UInt8):Option (List UInt8):=if s.length<2∨40<s.length∨s.length % 2≠0 then none else match aK2 aQA s with
 | none=>none
 | some l=>if hZ l≠s then none else if vX l=true then none else some l
section
variable {h:aA} {Q:AV→aA→Prop} {s:List UInt8}
theorem aE9 {l:List UInt8} {c:UInt8} {h:aA} (hk:Q (.i .i64 (Lib.indexByte l c)) h):C Y84.id [.s l,.i .u8 (c.toNat:Int)] h Q:=by
 refine Y84.call ?_
 simp only [Y84.t]
 exact qN (aQ (.inl hk))
def aJI (o:Option (List UInt8)):AV:=.tu [.s (txt o),.b o.isSome]
def aLX (l:List UInt8):Option (List UInt8):=if vX l=true then none else some l
theorem or4 {x y:Nat} (hx:x<16) (hy:y<16):cD .or .i64 ((x * 16:Nat):Int) (y:Int)=((16 * x+y:Nat):Int):=by
 have:∀ a:Fin 16, ∀ b:Fin 16,cD .or .i64 ((a.1 * 16:Nat):Int) (b.1:Int)=((16 * a.1+b.1:Nat):Int):=by decide +kernel
 exact this ⟨x,hx⟩ ⟨y,hy⟩
theorem aED (a b:UInt8) (r:List UInt8):vX (a :: b :: r)=((decide (a.toNat=0)&&decide (b.toNat<128))||(decide (a.toNat=255)&&decide (128≤b.toNat))):=rfl
theorem aGV {h0 h:aA} {v:AV} {l:List UInt8} (T:Tx h0 h v l) (hq:Q (aJI (aLX l)) h0):Y16.p3 (aL h0 Q) v (vX l) h:=by
 refine Y16.i3 ?_
 simp only [Y16.t3]
 unfold aLX at hq
 cases hl:vX l with
 | true=>rw [hl] at hq; exact aO rfl (aU rfl T.upd.ext hq)
 | false=>rw [hl] at hq; exact aN rfl (T.str (aU rfl T.upd.ext hq))
theorem aHP {h0 : aA} (hs : s.length ≤ 40) : ∀ (n : Nat) (r : List UInt8) (i : Nat) (v : AV) (l : List UInt8) (h : aA), s.drop i = r → r.length = 2 * n → l.length ≤ i → Tx h0 h v l →
  Q (aJI (match iL r with
   | none=>none
   | some m=>aLX (l++m))) h0→Y16.p1 (aL h0 Q) s v i h:=by
 intro n
 induction n with
 | zero =>
  intro r i v l h hr hn hl T hq
  have:r=[]:=List.eq_nil_of_length_eq_zero (by omega)
  subst this
  have hi:=cA hr
  have hq:Q (aJI (aLX (l++[]))) h0:=hq
  rw [List.append_nil] at hq
  have fin:∀ b,b=vX l→Y16.p3 (aL h0 Q) v b h:=fun b hb=>by rw [hb]; exact aGV T hq
  refine Y16.i1 ?_
  simp only [Y16.t1, ← Y16.p2.eq_1, ← Y16.p3.eq_1]
  refine aN (by simp; omega) (T.arr.rd.len ?_)
  match l,T,fin with
  | [],T,fin=>exact aN rfl (fin _ rfl)
  | [a],T,fin=>exact aN rfl (fin _ rfl)
  | a :: b :: l', T, fin =>
   rw [aED] at fin
   have ha:=a.toNat_lt
   have hb:=b.toNat_lt
   have la:∀ {K:Int→Prop},K (a.toNat:Int)→aB 1 v (.i .i64 0) h fun x=>aE x h fun y=>asI .u8 y K:=fun hk=>T.load (i:=0) (c:=a) rfl (aQ hk)
   have lb:∀ {K:Int→Prop},K (b.toNat:Int)→aB 1 v (.i .i64 1) h fun x=>aE x h fun y=>asI .u8 y K:=fun hk=>T.load (i:=1) (c:=b) rfl (aQ hk)
   refine aO (by simp; omega) (la ?_)
   by_cases h0':a.toNat=0
   ·refine aO (decide_eq_true (by omega)) (lb ?_)
    by_cases h1:b.toNat<128
    ·exact aO (decide_eq_true (by omega)) (fin _ (by simp [h0',h1]))
    ·refine aN (decide_eq_false (by omega)) (la (aN (decide_eq_false (by omega)) (fin _ (by simp [h0',h1]))))
   ·refine aN (decide_eq_false (by omega)) (la ?_)
    by_cases h2:a.toNat=255
    ·refine aO (decide_eq_true (by omega)) (lb (fin _ ?_))
     simp [h0',h2]; omega
    ·exact aN (decide_eq_false (by omega)) (fin _ (by simp [h0',h2]))
 | succ n ih =>
  intro r i v l h hr hn hl T hq
  match r,hr,hn,hq with
  | a :: b :: r', hr, hn, hq =>
   have hlt:=cG hr
   have hr1:=b3 hr
   have hlt1:=cG hr1
   have hr2:=b3 hr1
   have hb : ∀ b', b' = !((o9 a).isSome && (o9 b).isSome) → Y16.p2 (aL h0 Q) s v i (aGS (o9 a)) (aGS (o9 b)) b' h := by
    intro b' hb'
    refine Y16.i2 ?_
    simp only [Y16.t2, ← Y16.p1.eq_1]
    cases hx:o9 a with
    | none =>
     rw [hx] at hb'
     subst hb'
     refine aO rfl (aU rfl T.upd.ext ?_)
     have:iL (a :: b :: r')=none:=by unfold iL; rw [hx]
     rw [this] at hq; exact hq
    | some x =>
     cases hy:o9 b with
     | none =>
      rw [hx,hy] at hb'
      subst hb'
      refine aO rfl (aU rfl T.upd.ext ?_)
      have:iL (a :: b :: r')=none:=by unfold iL; rw [hx,hy]
      rw [this] at hq; exact hq
     | some y =>
      rw [hx,hy] at hb'
      subst hb'
      have lx:=aF5 hx
      have ly:=aF5 hy
      refine aN rfl (lV (b:=4) (n:=((x * 16:Nat):Int)) (by omega) ?_ (by omega) (by omega) ?_)
      ·show ((x : Nat) : Int) * 2 ^ 4 = _
       omega
      have e:cD .or .i64 ((x * 16:Nat):Int) (aGS (some y))=((16 * x+y:Nat):Int):=or4 lx ly
      rw [e]
      refine aI (n:=(((UInt8.ofNat (16 * x+y)).toNat:Nat):Int)) ?_ ?_
      ·rw [iJ (by omega) (by omega),nC (by omega)]
      refine T.push (by omega) fun v' h' T'=>?_
      refine aPH (by omega) (ih r' (i+2) v' (l++[UInt8.ofNat (16 * x+y)]) h' hr2 (by simp at hn; omega) (by simp; omega) T' ?_)
      have:iL (a :: b :: r')=(match iL r' with
        | some m=>some (UInt8.ofNat (16 * x+y) :: m)
        | none=>none):=by
       conv=>lhs; unfold iL
       rw [hx,hy]
       cases iL r' <;> rfl
      rw [this] at hq
      cases hu:iL r' with
      | none=>rw [hu] at hq; exact hq
      | some m=>rw [hu] at hq; simpa using hq
   refine Y16.i1 ?_
   simp only [Y16.t1, ← Y16.p2.eq_1, ← Y16.p3.eq_1]
   refine aO (by simp; omega) (cS hr (inc (by omega) (cS hr1 ?_)))
   refine aE9 (aQ (aE9 (aQ ?_)))
   rw [show ([48,49,50,51,52,53,54,55,56,57,97,98,99,100,101,102]:List UInt8)=vW from rfl,aJZ,aJZ]
   have neg:∀ o:Option Nat,decide (aGS o<0) = !o.isSome:=by
    intro o; cases o with
    | none=>rfl
    | some x=>exact decide_eq_false (by show ¬ ((x:Nat):Int)<0; omega)
   rw [neg,neg]
   refine aG (fun e=>hb _ ?_) fun e=>hb _ ?_
   ·have e : (o9 a).isSome = false := by simpa using e
    rw [e] <;> rfl
   ·have e : (o9 a).isSome = true := by simpa using e
    rw [e] <;> rfl
theorem aCK (hq:Q (aJI (cX s)) h):C Y16.id [.s s] h Q:=by
 refine Y16.call ?_
 simp only [Y16.t, ← Y16.p0.eq_1]
 unfold cX at hq
 have p0:∀ b,b=decide (s=[]∨s.length % 2=1∨40<s.length)→Y16.p0 (aL h Q) s b h:=by
  intro b hb
  subst hb
  refine Y16.i0 ?_
  simp only [Y16.t0, ← Y16.p1.eq_1]
  by_cases hc:s=[]∨s.length % 2=1∨40<s.length
  ·rw [if_pos hc] at hq
   exact aO (decide_eq_true hc) (.inl hq)
  ·rw [if_neg hc] at hq
   refine aN (decide_eq_false hc) (aHP (by omega) (s.length / 2) s 0 _ [] h rfl (by omega) (by simp) (Tx.start h) ?_)
   cases hu:iL s with
   | none=>rw [hu] at hq; exact hq
   | some m=>rw [hu] at hq; exact hq
 by_cases h1:s=[]
 ·exact aO (decide_eq_true h1) (p0 _ (by symm; exact decide_eq_true (.inl h1)))
 refine aN (decide_eq_false h1) (iW (b:=2) (by omega) ?_)
 by_cases h2:s.length % 2=1
 ·exact aO (decide_eq_true (by omega)) (p0 _ (by symm; exact decide_eq_true (.inr (.inl h2))))
 refine aN (decide_eq_false (by omega)) (p0 _ ?_)
 rw [decide_eq_decide]
 constructor
 ·intro h; exact .inr (.inr (by omega))
 ·rintro (h | h | h)
  ·exact absurd h h1
  ·exact absurd h h2
  ·omega
end
end Go.Proofs.YtcdkpkkdolmfdaaGreatDoor
namespace Go.Proofs.YtcdkpkkdolmfdaaGreatDoor
open Go.GAM Go.RowKit
section
variable {h:aA} {Q:AV→aA→Prop} {s:List UInt8}
end
end Go.Proofs.YtcdkpkkdolmfdaaGreatDoor
namespace Go.GAM
theorem uG {n:Nat} {v:AV} (h:ok1 n [] v=true):o6 n [] v=v:=by
 have key:∀ a:AA,mD n [] a.id=true→xJ n [] a=a:=by
  intro a ha
  unfold mD at ha
  have:a.id<n:=by simpa using ha
  unfold xJ lH
  rw [if_pos this]
 unfold ok1 at h
 split at h
 ·rename_i a; show AV.p (some (xJ n [] a))=_; rw [key a h]
 ·rename_i a l c; show AV.sl (some (xJ n [] a)) l c=_; rw [key a h]
 all_goals first | rfl | cases h
theorem aMK {n:Nat} {v:AV} (h:okR n [] v=true):ren n [] v=v:=by
 have hl:∀ cs:List AV,cs.all (ok1 n [])=true→cs.map (o6 n [])=cs:=by
  intro cs
  induction cs with
  | nil=>exact fun _=>rfl
  | cons c cs ih =>
   intro hc
   simp only [List.all_cons,Bool.and_eq_true] at hc
   rw [List.map_cons,uG hc.1,ih hc.2]
 cases v with
 | ag cs=>show AV.ag (cs.map (o6 n []))=_; rw [hl cs h]
 | tu cs=>show AV.tu (cs.map (o6 n []))=_; rw [hl cs h]
 | p a=>exact uG (v:=.p a) h
 | sl a l c=>exact uG (v:=.sl a l c) h
 | _=>rfl
theorem aIP {h0 h:aA} {K:AV→aA→Prop} {r:AV} (hp:okR h0.length [] r=true) (hE:Ext h0 h) (hk:K r h0):aL h0 K r h:=by
 refine .inr ⟨[],List.nodup_nil,hp,by simp,fun id hi=>.inl (hE.2 id hi),hE.1, ?_⟩
 rw [aMK hp,hE.take]
 simpa using hk
def aB2 (n:Nat) (v:AV):Prop:=∃ a l c,v = .sl a l c∧∀ x,a=some x→x.id<n
theorem aB2.ok {n:Nat} {v:AV} (h:aB2 n v):ok1 n [] v=true:=by
 obtain ⟨a,l,c,rfl,hx⟩:=h
 cases a with
 | none=>rfl
 | some x=>show mD n [] x.id=true; unfold mD; simp [hx x rfl]
theorem aB2.sl {n:Nat} {v:AV} (h:aB2 n v):∃ a l c,v = .sl a l c:=by
 obtain ⟨a,l,c,rfl,hx⟩:=h; exact ⟨_,_,_,rfl⟩
theorem Rd.low {sz:Nat} {h:aA} {v:AV} {cs:List AV} {n:Nat} (R:Rd sz h v cs n):aB2 h.length v:=by
 rcases R with ⟨rfl,_⟩ | ⟨id,ver,off,cap,b,rfl,h2,_⟩
 ·exact ⟨_,_,_,rfl,fun x hx=>by cases hx⟩
 ·exact ⟨_,_,_,rfl,fun x hx=>by cases hx; exact bH h2⟩
theorem Arr.low {sz:Nat} {h:aA} {v:AV} {cs:List AV} {n:Nat} (R:Arr sz h v cs n):aB2 h.length v:=R.rd.low
end Go.GAM
namespace Go.Proofs.YtcdkpkkdolmfdaaGreatDoor
open Go.GAM Go.RowKit
section
variable {h:aA} {Q:AV→aA→Prop}
theorem dR {c t:Int} {m:Bool} {v:AV} (hv:aB2 h.length v) (hq:Q (.ag [.i .i64 c,.i .i64 t,.b true,.s [],v]) h):C Y41.id [shp c t m,v] h Q:=by
 have hok:=hv.ok
 obtain ⟨a,n,cap,rfl⟩:=hv.sl
 refine Y41.call ?_
 simp only [Y41.t]
 refine dP rfl fun h1 hl1 U1 R1=>?_
 refine bR fun h2 hl2 U2 R2=>?_
 have R1':=R1.upd U2 fun h=>h
 refine aK (aM R1' rfl rfl (aQ (aK (aM R1' rfl rfl (aQ ?_)))))
 refine zY (cs:=[.i .i64 c,.i .i64 t,.b true,.s [],.sl a n cap]) rfl ?_
 refine aW R2 rfl rfl rfl fun h3 hl3 U3 R3=>aT R3 rfl ?_
 refine aIP ?_ ((U1.then U2).own U3 (by omega)).ext hq
 show (true&&(true&&(true&&(true&&(ok1 h.length [] (.sl a n cap)&&true)))))=true
 rw [hok] <;> rfl
theorem DV.row {F:Nat→Prop} {d:Der} {r:List AV} (D:DV h F d r):∃ c t m s a n cap,r=[.i .i64 c,.i .i64 t,.b m,.s s,.sl a n cap]:=by
 cases D with
 | @mk c t m s ks v rows Dk sv fv ov =>
  rcases sv with sv | ⟨_,_,a,c',rfl⟩
  ·rcases sv with ⟨rfl,_⟩ | ⟨id,ver,off,cap,b,rfl,_⟩ <;> exact ⟨_,_,_,_,_,_,_,rfl⟩
  ·exact ⟨_,_,_,_,_,_,_,rfl⟩
theorem DV.of {F:Nat→Prop} {c t:Int} {m:Bool} {s:List UInt8} {ks:List Der} {v:AV} {rows:List (List AV)} {cs:List AV} {n:Nat} (R:Rd 5 h v cs n) (D:DVs h F ks rows) (hc:cs=rows.flatten) (hn:n=rows.length) (hF:∀ i,bU v i→F i):DV h F (.mk c t m s ks) [.i .i64 c,.i .i64 t,.b m,.s s,v]:=by
 subst hc hn
 obtain ⟨a,l,k,e,_⟩:=R.low
 exact .mk D (.inl R) (fun i hi=>⟨hF i hi,R.lt hi⟩) (by rw [e] <;> rfl)
theorem DVs.one {F:Nat→Prop} {d:Der} {r:List AV} (D:DV h F d r):DVs h F [d] [r]:=.cons D .nil
theorem DVs.two {F:Nat→Prop} {d e:Der} {r q:List AV} (D:DV h F d r) (E:DV h F e q):DVs h F [d,e] [r,q]:=.cons D (.cons E .nil)
def aP5 (t:List UInt8):List UInt8:=if t=[67,78] then [50,46,53,46,52,46,51] else if t=[79] then [50,46,53,46,52,46,49,48] else if t=[79,85] then [50,46,53,46,52,46,49,49] else if t=[67] then [50,46,53,46,52,46,54] else []
theorem aK3 {t:List UInt8} (h:oP t=true):aP5 t=nU t∧mL (nU t) = .ok (dG (nU t))∧(dG (nU t)).length≤10:=by
 rcases fI h with rfl | rfl | rfl | rfl
 ·exact ⟨rfl,lF _ (pY h)⟩
 ·exact ⟨rfl,lF _ (pY h)⟩
 ·exact ⟨rfl,lF _ (pY h)⟩
 ·exact ⟨rfl,lF _ (pY h)⟩
def setA (a:Att):Der:=.mk 0 17 true [] [.mk 0 16 true [] [.mk 0 6 false (dG (nU a.1)) [],.mk 0 12 false a.2 []]]
theorem aHT (a:Att):gL (nU a.1) (bW sps a.2)=setA a:=by unfold gL setA; rw [o3]
theorem aD3 {s : List UInt8} (hne : s ≠ []) (hl : s.length ≤ 512) {l : List Att} (h : jP (s.length + 1) s = some l) : bK s = (hC (l.map setA), 0) := by
 rcases xV hne hl with ⟨l',e1,e2,e3,e4,e5⟩ | ⟨e1,_⟩
 ·rw [e1] at h
  cases h
  unfold bK at e5 ⊢
  rw [if_neg (by omega),if_neg hne] at e5 ⊢
  have hk:(bM [] s).flatMap kidsOf=l.map setA:=by
   conv=>lhs; rw [e2]
   rw [kA l e3 e4]
   clear e1 e2 e4 e5
   induction l with
   | nil=>rfl
   | cons a l ih =>
    rw [List.map_cons,List.flatMap_cons,xX (e3 a (by simp)).1,aHT,ih fun x hx=>e3 x (by simp [hx])] <;> rfl
  rw [hk] at e5 ⊢
  by_cases hn:cF (hC (l.map setA))=some s
  ·rw [if_pos hn]
  ·rw [if_neg hn] at e5; cases e5
 ·rw [e1] at h; cases h
end
end Go.Proofs.YtcdkpkkdolmfdaaGreatDoor
namespace Go.GAM
theorem dM {sz len:Nat} {zeros cs:List AV} {parts:List (Nat × Nat × AV)} {h:aA} {K:AV→aA→Prop} (hf:fJ zeros parts=some cs) (hl:cs.length=len * sz)
  (hk:∀ v h',h'.length=h.length+1→Upd (fun _=>False) h h'→Arr sz h' v cs len→(∀ id,bU v id→id=h.length)→K v h'):bD sz len zeros parts h K:=by
 unfold bD
 rw [hf]
 refine ⟨hl,hk _ _ (by simp) (Upd.app _ _) (.inr ⟨h.length,bP cs sz true,rfl,by simp,rfl,hl,rfl,Nat.le_refl _,rfl,rfl⟩) fun id hi=>by cases hi; rfl⟩
theorem Upd.extM {M:Nat→Prop} {h h':aA} (U:Upd M h h') {hb:aA} (E:Ext hb h) (hM:∀ i,M i→hb.length≤i):Ext hb h':=
 ⟨Nat.le_trans E.1 U.1,fun i hi=>(U.2 i (Nat.lt_of_lt_of_le hi E.1) fun hm=>by have:=hM i hm; omega).trans (E.2 i hi)⟩
theorem Ext.u {hb h:aA} (E:Ext hb h):Upd (fun _=>False) hb h:=⟨E.1,fun i hi _=>E.2 i hi⟩
end Go.GAM
namespace Go.Proofs.YtcdkpkkdolmfdaaGreatDoor
open Go.GAM Go.RowKit
structure LSt (F0:Nat→Prop) (hb h:aA) (v:AV) (ks:List Der):Prop where
 ext:Ext hb h
 arr:∃ rows,Arr 5 h v rows.flatten rows.length∧DVs h (fun i=>F0 i∧¬ bU v i) ks rows
 new:∀ i,bU v i→hb.length≤i∧F0 i
section
variable {F0:Nat→Prop} {hb h:aA} {v:AV} {ks:List Der}
theorem LSt.nil (E:Ext hb h):LSt F0 hb h (.sl none 0 none) []:=⟨E,⟨[],Arr.nil _ _,.nil⟩,fun i hi=>hi.elim⟩
theorem LSt.up {h':aA} (S:LSt F0 hb h v ks) (U:Upd (fun _=>False) h h'):LSt F0 hb h' v ks:=by
 obtain ⟨rows,A,D⟩:=S.arr
 exact ⟨S.ext.trans U.ext,⟨rows,A.upd U fun _ _ h=>h,D.upd U fun i hi _=>⟨fun h=>h,hi⟩⟩,S.new⟩
theorem LSt.lt (S:LSt F0 hb h v ks) {i:Nat} (hi:bU v i):i<h.length:=by
 obtain ⟨rows,A,D⟩:=S.arr
 exact A.rd.lt hi
theorem LSt.low (S:LSt F0 hb h v ks):aB2 h.length v:=by
 obtain ⟨rows,A,D⟩:=S.arr
 exact A.low
theorem LSt.val (S:LSt F0 hb h v ks) (c t:Int) (m:Bool) (s:List UInt8):DV h F0 (.mk c t m s ks) [.i .i64 c,.i .i64 t,.b m,.s s,v]:=by
 obtain ⟨rows,A,D⟩:=S.arr
 exact DV.of A.rd (D.upd (Upd.refl (fun _=>False) h) fun i hi _=>⟨fun h=>h,hi.1⟩) rfl rfl fun i hi=>(S.new i hi).2
theorem LSt.len (S:LSt F0 hb h v ks) {K:Int→Prop} (hk:K (ks.length:Int)):bJ v K:=by
 obtain ⟨rows,A,D⟩:=S.arr
 refine A.rd.len ?_
 rw [← D.length]; exact hk
theorem LSt.push {ty:Option TypeId} {y:AV} {r:List AV} {k:Der} (S:LSt F0 hb h v ks) (hn:ks.length≤4000) (R:Rd 5 h y r 1) (D:DV h (fun i=>F0 i∧¬ bU v i) k r) (hF:∀ i,h.length≤i→F0 i) {K:AV→aA→Prop}
  (hk:∀ v' h',Upd (bU v) h h'→LSt F0 hb h' v' (ks++[k])→K v' h'):bQ ty 5 64 v y h K:=by
 obtain ⟨rows,A,Ds⟩:=S.arr
 have hrows:=Ds.length
 refine A.append (by decide) (ns:=r) (k:=1) (fun K hK=>R.news hK) (by rw [D.len]) D.cells' (by omega) (by omega) fun v' h' U A' F=>hk v' h' U ?_
 have e1:(rows++[r]).flatten=rows.flatten++r:=by simp
 have e2:(rows++[r]).length=rows.length+1:=by simp
 refine ⟨U.extM S.ext fun i hi=>(S.new i hi).1,⟨rows++[r],by rw [e1,e2]; exact A',(Ds.app D).upd U fun i hi hl=>⟨hi.2,hi.1,fun hs=>?_⟩⟩,fun i hi=>?_⟩
 ·rcases F i hs with h | h
  ·exact hi.2 h
  ·omega
 ·rcases F i hi with h | h
  ·exact S.new i h
  ·exact ⟨Nat.le_trans S.ext.1 h,hF i h⟩
end
section
variable {h0 hb:aA} {Q:AV→aA→Prop}
theorem aIA {s : List UInt8} {l : List Att} (hl : s.length ≤ 512) (h : rY s = some l) : bK s = (hC (l.map setA), 0) ∧ (∀ a ∈ l, oP a.1 = true) ∧ l.length ≤ 600 := by
 unfold rY at h
 by_cases hn:s=[]
 ·subst hn
  rw [if_pos rfl] at h
  cases h
  exact ⟨rfl,(fun a ha=>by cases ha),by simp⟩
 ·rw [if_neg hn] at h
  refine ⟨aD3 hn hl h,fun a ha=>((nF _ _ _ h).2.1 a ha).1, ?_⟩
  obtain ⟨e,_⟩:=nF _ _ _ h
  have:∀ l:List Att,l.length≤(gN l).length+1:=by
   intro l
   induction l with
   | nil=>simp
   | cons a l ih =>
    cases l with
    | nil=>simp
    | cons b l =>
     rw [jK,List.length_append,List.length_cons,List.length_cons]
     simp only [List.length_cons] at ih ⊢
     omega
  have:=this l
  rw [← e] at this
  omega
theorem aHW {s:List UInt8} (hl:s.length≤512) (h:rY s=none):bK s=(.zero,5):=by
 unfold rY at h
 by_cases hn:s=[]
 ·subst hn; rw [if_pos rfl] at h; cases h
 ·rw [if_neg hn] at h
  rcases xV hn hl with ⟨l',e1,_⟩ | ⟨_,e5⟩
  ·rw [e1] at h; cases h
  ·unfold bK at e5 ⊢
   rw [if_neg (by omega),if_neg hn] at e5 ⊢
   split at e5
   ·cases e5
   ·rename_i hx; rw [if_neg hx]
end
end Go.Proofs.YtcdkpkkdolmfdaaGreatDoor
namespace Go.Proofs.YtcdkpkkdolmfdaaGreatDoor
open Go.GAM Go.RowKit
structure CBd (c:eH):Prop where
 n:c.names.length≤1000000
 s:∀ x∈c.names,x.length≤140737488351232
 i:c.issuer.length≤9223372036854775807
 j:c.subject.length≤9223372036854775807
def nH (c:eH):Bool:=decide (c.frm<0∨253402300799<c.til∨c.til<c.frm)
def qH (c:eH):Bool:=decide ((bK c.issuer).2≠0∨(bK c.subject).2≠0)
def aD6 (l:List (List UInt8)):Bool:=l.any fun n=>!decide (iE n=n)
def mP (c:eH):Bool:=decide (16<c.names.length∨1024<c.key.length)
theorem rU (c:eH):gF c=if nH c=true then 4 else if qH c=true then 5 else if aD6 c.names=true then 5 else if cX c.serial=none then 2 else if mP c=true then 3 else 0:=by
 unfold gF nH qH aD6 mP
 simp only [decide_eq_true_eq]
section
variable {h:aA} {Q:AV→aA→Prop} {c:eH} {cs:List AV}
theorem aMR (G : CG h) (V : CV h c cs) (B : CBd c) (hq : Q (.i .i64 (gF c)) h) : C Y17.id [.ag cs] h Q := by
 obtain ⟨nv,rfl,S⟩:=V
 rw [rU] at hq
 refine Y17.call ?_
 simp only [Y17.t, ← Y17.p0.eq_1]
 refine tR (n:=8) rfl rfl fun h1 hl1 U1 R1=>?_
 have R1:bC h1 h.length (jU c nv):=R1
 have ld:∀ (h':aA),Upd (fun _=>False) h1 h'→∀ (o:Nat) (x:AV),(jU c nv)[o]? = some x→∀ K:AV→Prop,aE (.p (some ⟨h.length,8,o⟩)) h' K=K x:=fun h' U o x hx K=>fL (R1.upd U fun h=>h) rfl hx
 have u1:=Upd.refl (fun _=>False) h1
 have p3:∀ h':aA,Upd (fun _=>False) h1 h'→Q (.i .i64 (if mP c=true then 3 else 0)) h→Y17.p3 (aL h Q) (mP c) h':=by
  intro h' U hk
  refine Y17.i3 ?_
  simp only [Y17.t3]
  cases hb:mP c with
  | true=>rw [hb] at hk; exact aO rfl (aU rfl (U1.then U).ext hk)
  | false=>rw [hb] at hk; exact aN rfl (aU rfl (U1.then U).ext hk)
 have p2 : ∀ h' : aA, Upd (fun _ => False) h1 h' → ∀ (r : List (List UInt8)) (i : Nat), c.names.drop i = r → Q (.i .i64 (if aD6 r = true then 5 else if cX c.serial = none then 2 else if mP c = true then 3 else 0)) h →
   Y17.p2 (aL h Q) (.p (some ⟨h.length,8,0⟩)) nv (c.names.length:Nat) i h':=by
  intro h' U r
  have E:=(U1.then U).ext
  induction r with
  | nil =>
   intro i hr hk
   have hi:=cA hr
   rw [if_neg (by unfold aD6; simp)] at hk
   refine Y17.i2 ?_
   simp only [Y17.t2, ← Y17.p2.eq_1, ← Y17.p3.eq_1]
   refine aN (by simp; omega) ?_
   simp only [dC,Nat.zero_add,ld h' U 0 _ rfl,cI]
   refine aCK ?_
   cases hs:cX c.serial with
   | none =>
    rw [hs,if_pos rfl] at hk
    exact aY (bA (aZ (aS (aO rfl (aU rfl E hk)))))
   | some l =>
    rw [hs,if_neg (by simp)] at hk
    refine aY (bA (aZ (aS (aN rfl ?_))))
    simp only [ld h' U 5 _ rfl,(S.ext (U1.then U)).plen,ld h' U 7 _ rfl,cI]
    by_cases h16:16<c.names.length
    ·refine aO (decide_eq_true (by omega)) ?_
     have hb:mP c=true:=by unfold mP; exact decide_eq_true (.inl h16)
     rw [← hb]; exact p3 h' U hk
    ·refine aN (decide_eq_false (by omega)) ?_
     have hb:(decide ((1024:Int)<(c.key.length:Int)))=mP c:=by
      unfold mP; rw [decide_eq_decide]; omega
     rw [hb]; exact p3 h' U hk
  | cons x r ih =>
   intro i hr hk
   have hlt:=cG hr
   have hx:=b4 hr
   have hn:=B.n
   refine Y17.i2 ?_
   simp only [Y17.t2, ← Y17.p2.eq_1, ← Y17.p3.eq_1]
   refine aO (by simp; omega) ((S.ext U1).str U hx ?_)
   refine aFB (by have:=B.s x (List.mem_of_getElem? hx); omega) (bA ?_)
   have e:aD6 (x :: r)=(!decide (iE x=x)||aD6 r):=rfl
   rw [e] at hk
   cases hl:decide (iE x=x) with
   | false=>rw [hl] at hk; exact aO rfl (aU rfl E hk)
   | true =>
    rw [hl] at hk
    refine aN rfl (inc (by omega) (ih (i+1) (b3 hr) hk))
 have p1:∀ h':aA,Upd (fun _=>False) h1 h'→Q (.i .i64 (if qH c=true then 5 else if aD6 c.names=true then 5 else if cX c.serial=none then 2 else if mP c=true then 3 else 0)) h→Y17.p1 (aL h Q) (.p (some ⟨h.length,8,0⟩)) (qH c) h':=by
  intro h' U hk
  refine Y17.i1 ?_
  simp only [Y17.t1, ← Y17.p2.eq_1]
  cases hb:qH c with
  | true=>rw [hb] at hk; exact aO rfl (aU rfl (U1.then U).ext hk)
  | false =>
   rw [hb,if_neg (by decide)] at hk
   refine aN rfl ?_
   simp only [dC,Nat.zero_add,ld h' U 5 _ rfl,(S.ext (U1.then U)).plen]
   exact p2 h' U c.names 0 rfl hk
 have p0:Y17.p0 (aL h Q) (.p (some ⟨h.length,8,0⟩)) (nH c) h1:=by
  refine Y17.i0 ?_
  simp only [Y17.t0, ← Y17.p1.eq_1]
  cases hb:nH c with
  | true=>rw [hb] at hq; exact aO rfl (aU rfl U1.ext hq)
  | false =>
   rw [hb,if_neg (by decide)] at hq
   refine aN rfl ?_
   simp only [dC,Nat.zero_add,ld h1 u1 1 _ rfl,cI]
   refine lK (G.ext U1) B.i fun h2 cs2 U2 D2=>?_
   refine aY (aZ (aQ (b5 (n:=5) rfl fun h3 hl3 U3 R3=>aW R3 rfl D2.len D2.cells' fun h4 hl4 U4 R4=>?_)))
   have V4:Upd (fun _=>False) h1 h4:=(U2.then U3).own U4 U2.1
   simp only [dC,Nat.zero_add,ld h4 V4 2 _ rfl,cI]
   refine lK (G.ext (U1.then V4)) B.j fun h5 cs5 U5 D5=>?_
   refine aY (aZ (aQ (b5 (n:=5) rfl fun h6 hl6 U6 R6=>aW R6 rfl D5.len D5.cells' fun h7 hl7 U7 R7=>?_)))
   have V7:Upd (fun _=>False) h1 h7:=V4.then ((U5.then U6).own U7 U5.1)
   by_cases e1:(bK c.issuer).2=0
   ·refine aN (by rw [e1] <;> rfl) ?_
    have hb:(!decide ((bK c.subject).2=0))=qH c:=by unfold qH; simp [e1]
    rw [hb]; exact p1 h7 V7 hq
   ·refine aO (by simp [e1]) ?_
    have hb:true=qH c:=by unfold qH; simp [e1]
    rw [hb]; exact p1 h7 V7 hq
 have fin:∀ b,b=nH c→Y17.p0 (aL h Q) (.p (some ⟨h.length,8,0⟩)) b h1:=fun b hb=>by rw [hb]; exact p0
 simp only [dC,Nat.zero_add,ld h1 u1 3 _ rfl,ld h1 u1 4 _ rfl,iV]
 refine aG (fun e=>fin _ ?_) fun e=>aG (fun e2=>fin _ ?_) fun e2=>fin _ ?_
 ·have e := of_decide_eq_true e
  unfold nH; symm; exact decide_eq_true (.inl e)
 ·have e2 := of_decide_eq_true e2
  unfold nH; symm; exact decide_eq_true (.inr (.inl e2))
 ·have e := of_decide_eq_false e
  have e2:=of_decide_eq_false e2
  unfold nH; rw [decide_eq_decide]; omega
def aPE (h:aA) (Q:AV→aA→Prop) (o:List UInt8):Except Int (List UInt8)→Prop
 | .ok s=>∀ h' r,Upd (fun _=>False) h h'→DV h' (fun i=>h.length≤i) (kU o s) r→Q (.tu [.ag r,.i .i64 0]) h'
 | .error e=>∀ h' r,Upd (fun _=>False) h h'→DV h' (fun i=>h.length≤i) (kU o []) r→Q (.tu [.ag r,.i .i64 e]) h'
theorem wX {o : List UInt8} (ho : mL o = .ok (dG o)) (G : CG2 h) {F : Nat → Prop} {d : Der} (D : DV h F d cs) (hF : ∀ i, F i → i < h.length) (hsz : d.sz ≤ 100000) (hs : fG d ≤ 60000) (hq : aPE h Q o (gE d)) : C Y72.id [.s o, .ag cs] h Q := by
 refine Y72.call ?_
 simp only [Y72.t]
 refine D.box fun h1 hl1 U1 R1 D1=>b5 (n:=5) rfl fun h2 hl2 U2 R2=>?_
 refine aAL fun h3 U3=>?_
 rw [ho]
 refine aY (aZ (aQ (b5 (n:=5) rfl fun h4 hl4 U4 R4=>aW R4 rfl rfl rfl fun h5 hl5 U5 R5=>?_)))
 have U35:Upd (fun _=>False) h3 h5:=U4.own U5 (Nat.le_refl _)
 have U15:Upd (fun _=>False) h1 h5:=(U2.then U3).then U35
 have G5:CG2 h5:=G.up (U1.then U15)
 refine aT (R1.upd U15 fun h=>h) D1.len.symm ?_
 have D5:=D1.ext U15
 refine aCO hsz hs D5 (fun i hi=>by have:=hF i hi; have:=U1.1; have:=U15.1; omega) ?_
 have l5:∀ h':aA,Upd (fun _=>False) h5 h'→∀ K:AV→Prop,aD 5 (.p (some ⟨h3.length,5,0⟩)) h' K=K (.ag (cR 0 6 false (dG o))):=fun h' U K=>aB4 (k:=5) (R5.upd U fun h=>h) rfl (by show 0+5≤5; omega)
 have u5:=Upd.refl (fun _=>False) h5
 have rest:∀ (s:List UInt8) (e:Int),(∀ h' r,Upd (fun _=>False) h h'→DV h' (fun i=>h.length≤i) (kU o s) r→Q (.tu [.ag r,.i .i64 e]) h') →
   C Y70.id [shp 0 4 false, .s s] h5 fun v25 h26 => aD 5 (.p (some ⟨h3.length, 5, 0⟩)) h26 fun v27 => AV.ag (cR 0 6 false (dG o)) = v27 ∧ aD 3 (bE h26 0) h26 fun v28 => AV.ag [.i .i64 0, .i .i64 16, .b true] = v28 ∧
    bD 5 2 [.i .i64 0,.i .i64 0,.b false,.s [],.sl none 0 none,.i .i64 0,.i .i64 0,.b false,.s [],.sl none 0 none] [(0,5,.ag (cR 0 6 false (dG o))),(5,5,v25)] h26 fun v29 h30=>aD 3 (bE h30 9) h30 fun v31=>AV.ag [.i .i64 0,.i .i64 4,.b false]=v31 ∧
    aD 3 (bE h30 0) h30 fun v32=>AV.ag [.i .i64 0,.i .i64 16,.b true]=v32∧C Y41.id [.ag [.i .i64 0,.i .i64 16,.b true],v29] h30 fun v33 h34=>aD 3 (bE h34 9) h34 fun v35=>AV.ag [.i .i64 0,.i .i64 4,.b false]=v35 ∧
    aD 5 (.p (some ⟨h3.length,5,0⟩)) h34 fun v36=>AV.ag (cR 0 6 false (dG o))=v36∧aP 5 (.p (some ⟨h1.length,5,0⟩)) v33 h34 fun h37=>aD 5 (.p (some ⟨h1.length,5,0⟩)) h37 fun v39=>aL h Q (.tu [v39,.i .i64 e]) h37:=by
  intro s e hk
  refine gA ?_
  simp only [l5 h5 u5,aX G5.g.seq,bL,true_and]
  refine dM (cs:=cR 0 6 false (dG o)++cR 0 4 false s) (len:=2) rfl rfl fun w h6 hl6 U6 A6 N6=>?_
  have G6:=G5.up U6
  simp only [aX G6.g.seq,aX G6.oct,bL,true_and]
  refine dR (c:=0) (t:=16) (m:=true) A6.low ?_
  simp only [aX G6.oct,l5 h6 U6,bL,true_and]
  have Dv:DV h6 (fun i=>h.length≤i∧i≠h1.length) (kU o s) [.i .i64 0,.i .i64 16,.b true,.s [],w]:=
   DV.of A6.rd (DVs.two (DV.leaf _ _ _ _ _ _) (DV.leaf _ _ _ _ _ _)) rfl rfl fun i hi=>by have:=N6 i hi; have:=U15.1; have:=U1.1; have:=U2.1; have:=U3.1; have:=U35.1; exact ⟨by omega,by omega⟩
  have V6:=U15.then U6
  refine aW (R2.upd ((U3.then U35).then U6) fun h=>h) rfl Dv.len Dv.cells' fun h7 hl7 U7 R7=>aT R7 Dv.len.symm (.inl (hk h7 _ ?_ ?_))
  ·exact (U1.then V6).own U7 (by have:=U1.1; omega)
  ·exact Dv.upd U7 fun i hi hl=>⟨hi.2,hi.1⟩
 cases he:gE d with
 | error e =>
  rw [he] at hq
  refine aY (bA (aZ (aQ ?_)))
  simp only [aX G5.g.seq,aX G5.oct,l5 h5 u5]
  exact rest [] e hq
 | ok s =>
  rw [he] at hq
  refine aY (bA (aZ (aQ ?_)))
  simp only [aX G5.g.seq,aX G5.oct,l5 h5 u5]
  exact rest s 0 hq
end
end Go.Proofs.YtcdkpkkdolmfdaaGreatDoor
namespace Go.Proofs.YtcdkpkkdolmfdaaGreatDoor
open Go.GAM Go.RowKit
theorem LSt.mono {F0 F1:Nat→Prop} {hb h:aA} {v:AV} {ks:List Der} (S:LSt F0 hb h v ks) (hF:∀ i,F0 i→F1 i):LSt F1 hb h v ks:=by
 obtain ⟨rows,A,D⟩:=S.arr
 exact ⟨S.ext,⟨rows,A,D.upd (Upd.refl (fun _=>False) h) fun i hi _=>⟨fun h=>h,hF i hi.1,hi.2⟩⟩,fun i hi=>⟨(S.new i hi).1,hF i (S.new i hi).2⟩⟩
theorem LSt.upM {F0 M:Nat→Prop} {hb h h':aA} {v:AV} {ks:List Der} (S:LSt F0 hb h v ks) (U:Upd M h h') (hM:∀ i,F0 i→¬ M i) (hMb:∀ i,M i→hb.length≤i):LSt F0 hb h' v ks:=by
 obtain ⟨rows,A,D⟩:=S.arr
 exact ⟨U.extM S.ext hMb,⟨rows,A.upd U fun i hi=>hM i (S.new i hi).2,D.upd U fun i hi _=>⟨hM i hi.1,hi⟩⟩,S.new⟩
theorem LSt.row1 {F0:Nat→Prop} {hb h:aA} {v:AV} {ks:List Der} (S:LSt F0 hb h v ks):∃ a l c,v = .sl a l c:=S.low.sl
def z8b:List UInt8:=[0,0,0,0,0,0,0,0]
def rQ (wk:AV):List AV:=[.i .i64 0,.i .i64 16,.b true,.s [],wk]
structure aI7 (hb:aA) (c:eH) (nv wk:AV) (id0 idk:Nat):Prop where
 g:CG2 hb
 r0:bC hb id0 (jU c nv)
 rk:bC hb idk (rQ wk)
 ak:Rd 5 hb wk (cR 0 6 false (dG pG)) 1
 s:RdI 1 hb nv (c.names.map .s) c.names.length
section
variable {h0 hb h:aA} {Q:AV→aA→Prop} {c:eH} {nv wk:AV} {id0 idk:Nat} (B:aI7 hb c nv wk id0 idk) (E0:Ext h0 hb)
theorem aI7.alg {F:Nat→Prop} (B:aI7 hb c nv wk id0 idk) (E:Ext hb h) (hF:∀ i,bU wk i→F i):DV h F oQ (rQ wk):=
 DV.of (B.ak.upd E.u fun _ _ h=>h) (DVs.one (DV.leaf _ _ _ _ _ _)) rfl rfl hF
include B E0 in
theorem y6 {x14:AV} {ks:List Der} (S:LSt (fun _=>True) hb h x14 ks) (hk:c.key.length≤100000) (hsz:(fD [fD ks,oQ,dW 0 3 (0 :: (c.key++z8b).take 8)]).sz≤100000) (hds:fG (fD [fD ks,oQ,dW 0 3 (0 :: (c.key++z8b).take 8)])≤60000)
  (hq:Q (zS (gE (fD [fD ks,oQ,dW 0 3 (0 :: (c.key++z8b).take 8)]))) h0):Y8.p4 (aL h0 Q) (.p (some ⟨id0,8,0⟩)) (.p (some ⟨idk,5,0⟩)) x14 h:=by
 have E:=S.ext
 have lk:∀ h':aA,Ext hb h'→∀ K:AV→Prop,aD 5 (.p (some ⟨idk,5,0⟩)) h' K=K (.ag (rQ wk)):=fun h' E K=>aB4 (k:=5) (B.rk.upd E.u fun h=>h) rfl (by show 0+5≤5; omega)
 have G:∀ h':aA,Ext hb h'→CG2 h':=fun h' E=>B.g.up E.u
 obtain ⟨xk,nk,kk,hwk,_⟩:=B.ak.low
 refine Y8.i4 ?_
 simp only [Y8.t4]
 have ld7:∀ K:AV→Prop,aE (.p (some ⟨id0,8,7⟩)) h K=K (.s c.key):=fun K=>fL (B.r0.upd E.u fun h=>h) rfl rfl
 simp only [dC,Nat.zero_add,ld7,cI]
 refine ⟨by simp <;> omega,kW (hi:=8) (by simp) ?_⟩
 simp only [aX (G h E).g.seq,aX (G h E).bits,lk h E]
 refine ⟨by simp <;> omega, ?_⟩
 refine dR (c:=0) (t:=16) (m:=true) S.low ?_
 simp only [aX (G h E).g.seq,aX (G h E).bits,lk h E,bL,true_and]
 refine gA (c:=0) (t:=3) (m:=false) ?_
 simp only [aX (G h E).g.seq,aX (G h E).bits,lk h E,bL,true_and]
 have D1:=S.val 0 16 true []
 obtain ⟨xa,na,ka,hx⟩:=S.row1
 refine dM (cs:=[.i .i64 0,.i .i64 16,.b true,.s [],x14]++rQ wk++cR 0 3 false (0 :: (c.key++z8b).take 8)) (len:=3) (by rw [hx]; unfold rQ; rw [hwk] <;> rfl) rfl fun w h1 hl1 U1 A1 N1=>?_
 have E1:=E.trans U1.ext
 simp only [aX (G h1 E1).g.seq,aX (G h1 E1).bits,lk h1 E1,bL,true_and]
 refine dR (c:=0) (t:=16) (m:=true) A1.low ?_
 simp only [aX (G h1 E1).g.seq,aX (G h1 E1).bits,lk h1 E1,bL,true_and]
 have D:DV h1 (fun i=>i<h1.length) (fD [fD ks,oQ,dW 0 3 (0 :: (c.key++z8b).take 8)]) [.i .i64 0,.i .i64 16,.b true,.s [],w]:=
  DV.of A1.rd (.cons ((D1.upd U1 fun i _ hi=>⟨fun h=>h,by have:=U1.1; omega⟩:DV h1 (fun i=>i<h1.length) _ _)) (.cons (B.alg E1 fun i hi=>by have:=B.ak.lt hi; have:=E1.1; omega) (.cons (DV.leaf _ _ _ _ _ _) .nil))) rfl rfl fun i hi=>by have:=N1 i hi; omega
 refine aCO hsz hds D (fun i hi=>hi) ?_
 simp only [aX (G h1 E1).g.seq,aX (G h1 E1).bits,lk h1 E1,bL,true_and]
 cases he:gE (fD [fD ks,oQ,dW 0 3 (0 :: (c.key++z8b).take 8)]) with
 | error e=>rw [he] at hq; exact aY (bA (aZ (aQ (aU rfl (E0.trans E1) hq))))
 | ok l=>rw [he] at hq; exact aY (bA (aZ (aQ (aU rfl (E0.trans E1) hq))))
structure BSz (c:eH) (ks:List Der):Prop where
 k:c.key.length≤100000
 s:(fD [fD ks,oQ,dW 0 3 (0 :: (c.key++z8b).take 8)]).sz≤100000
 d:fG (fD [fD ks,oQ,dW 0 3 (0 :: (c.key++z8b).take 8)])≤60000
def aN3 (c:eH) (ks:List Der):Except Int (List UInt8):=gE (fD [fD ks,oQ,dW 0 3 (0 :: (c.key++z8b).take 8)])
variable {n4:Nat} {x14 x15:AV} {ks ext:List Der}
include B E0 in
theorem yO (S14:LSt (fun i=>i<n4) hb h x14 ks) (S15:LSt (fun i=>n4≤i) hb h x15 ext) (hn4:n4≤h.length) (hkl:ks.length≤4000) (hz:BSz c (ks++gJ ext)) (hq:Q (zS (aN3 c (ks++gJ ext))) h0) :
  Y8.p3 (aL h0 Q) (.p (some ⟨id0,8,0⟩)) (.p (some ⟨idk,5,0⟩)) x14 x15 h:=by
 have E:=S14.ext
 have G:∀ h':aA,Ext hb h'→CG2 h':=fun h' E=>B.g.up E.u
 refine Y8.i3 ?_
 simp only [Y8.t3, ← Y8.p4.eq_1]
 refine S15.len ?_
 unfold gJ at hz hq
 by_cases he:ext=[]
 ·subst he
  rw [if_pos rfl,List.append_nil] at hz hq
  exact aN rfl (y6 B E0 (S14.mono fun _ _=>trivial) hz.k hz.s hz.d hq)
 rw [if_neg he] at hz hq
 refine aO (decide_eq_true (by have:=List.length_pos_iff.2 he; omega)) ?_
 simp only [aX (G h E).g.seq,aX (G h E).ext]
 refine dR (c:=0) (t:=16) (m:=true) S15.low ?_
 simp only [aX (G h E).g.seq,aX (G h E).ext,bL,true_and]
 obtain ⟨xa,na,ka,hx⟩:=S15.row1
 refine dM (cs:=[.i .i64 0,.i .i64 16,.b true,.s [],x15]) (len:=1) (by rw [hx] <;> rfl) rfl fun w h1 hl1 U1 A1 N1=>?_
 have E1:=E.trans U1.ext
 simp only [aX (G h1 E1).g.seq,aX (G h1 E1).ext,bL,true_and]
 refine dR (c:=2) (t:=3) (m:=true) A1.low ?_
 simp only [aX (G h1 E1).g.seq,aX (G h1 E1).ext,bL,true_and]
 obtain ⟨xw,nw,kw,hw,_⟩:=A1.low
 refine dM (cs:=[.i .i64 2,.i .i64 3,.b true,.s [],w]) (len:=1) (by rw [hw] <;> rfl) rfl fun y h2 hl2 U2 A2 N2=>?_
 have E2:=E1.trans U2.ext
 simp only [aX (G h2 E2).g.seq,aX (G h2 E2).ext,bL,true_and]
 have S14':=(S14.mono (F1:=fun _=>True) fun _ _=>trivial).up (U1.then U2)
 have D1:=S15.val 0 16 true []
 have hno:∀ i,n4≤i→¬ bU x14 i:=fun i hi hs=>by have:=(S14.new i hs).2; omega
 have Dy:DV h2 (fun i=>True∧¬ bU x14 i) (.mk 2 3 true [] [fD ext]) [.i .i64 2,.i .i64 3,.b true,.s [],w]:=
  (DV.of A1.rd (DVs.one (D1.upd U1 fun i hi _=>⟨fun h=>h,trivial,hno i hi⟩)) (by simp) rfl fun i hi=>⟨trivial,hno i (by have:=N1 i hi; omega)⟩:DV h1 _ _ _).ext U2
 refine S14'.push hkl A2.rd Dy (fun _ _=>trivial) fun v' h3 U3 S3=>?_
 have E3:=S3.ext
 simp only [aX (G h3 E3).g.seq,aX (G h3 E3).ext,bL,true_and]
 exact y6 B E0 S3 hz.k hz.s hz.d hq
include B E0 in
theorem aH6 {id21:Nat} {r:List AV} {s:List UInt8} (S14:LSt (fun i=>i<n4) hb h x14 ks) (S15:LSt (fun i=>n4≤i) hb h x15 ext) (hn4:n4≤h.length) (hkl:ks.length≤4000) (hel:ext.length≤4000) (R:bC h id21 r) (D:DV h (fun i=>n4≤i∧¬ bU x15 i) (kU basOid s) r) (hz:BSz c (ks++gJ (ext++[kU basOid s])))
  (hb0:hb.length≤n4) (hq:Q (zS (aN3 c (ks++gJ (ext++[kU basOid s])))) h0):Y8.p2 (aL h0 Q) (.p (some ⟨id0,8,0⟩)) (.p (some ⟨idk,5,0⟩)) x14 x15 (.p (some ⟨id21,5,0⟩)) 0 h:=by
 refine Y8.i2 ?_
 simp only [Y8.t2, ← Y8.p3.eq_1]
 refine aN rfl (aT R D.len.symm ?_)
 have hr:fJ z5 [(0,5,.ag r)]=some r:=by
  obtain ⟨c',t,m,s',a,n,cap,rfl⟩:=D.row; rfl
 refine dM (cs:=r) (len:=1) hr (by rw [D.len]) fun y h1 hl1 U1 A1 N1=>?_
 refine (S15.up U1).push hel A1.rd (D.ext U1) (fun i hi=>by omega) fun v' h2 U2 S2=>?_
 have S14':=(S14.up U1).upM U2 (fun i hi hs=>by have:=(S15.new i hs).2; omega) fun i hi=>(S15.new i hi).1
 exact yO B E0 S14' S2 (by have:=U1.1; have:=U2.1; omega) hkl hz hq
include B E0 in
theorem aDP {id21:Nat} {e:Int} (he:e≠0) (E:Ext hb h) (hq:Q (.tu [.s [],.i .i64 e]) h0):Y8.p2 (aL h0 Q) (.p (some ⟨id0,8,0⟩)) (.p (some ⟨idk,5,0⟩)) x14 x15 (.p (some ⟨id21,5,0⟩)) e h:=by
 refine Y8.i2 ?_
 simp only [Y8.t2, ← Y8.p3.eq_1]
 exact aO (by simp [he]) (aU rfl (E0.trans E) hq)
def yJ (c:eH) (ks ext:List Der):Except Int (List UInt8):=match tB c.auth with
 | .error e=>.error e
 | .ok b=>aN3 c (ks++gJ (ext++b))
theorem aFX {d:Der} {e:Int} (h:gE d = .error e):e≠0:=by
 unfold gE at h
 split at h
 ·cases h; assumption
 ·split at h
  ·cases h; decide
  ·cases h
theorem LSt.lim {F0:Nat→Prop} {hb h:aA} {v:AV} {ks:List Der} (S:LSt F0 hb h v ks):LSt (fun i=>F0 i∧i<h.length) hb h v ks:=by
 obtain ⟨rows,A,D⟩:=S.arr
 exact ⟨S.ext,⟨rows,A,D.upd (Upd.refl (fun _=>False) h) fun i hi hl=>⟨fun h=>h,⟨hi.1,hl⟩,hi.2⟩⟩,fun i hi=>⟨(S.new i hi).1,(S.new i hi).2,S.lt hi⟩⟩
include B E0 in
theorem aG9 {id21 m:Nat} (ha:c.auth=true) {r:List AV} {h':aA} {s:List UInt8} (S14:LSt (fun i=>i<n4) hb h' x14 ks) (S15:LSt (fun i=>n4≤i∧i<m) hb h' x15 ext) (hm:n4≤m) (hid:m≤id21) (hkl:ks.length≤4000) (hel:ext.length≤4000)
  (R:bC h' id21 z5) (D:DV h' (fun i=>m≤i∧i≠id21) (kU basOid s) r) (hb0:hb.length≤n4)
  (hz:∀ b,tB c.auth = .ok b→BSz c (ks++gJ (ext++b))) (hq:Q (zS (yJ c ks ext)) h0) {n:Int} (hn:(gE xM = .ok s∧n=0)∨gE xM = .error n):aP 5 (.p (some ⟨id21,5,0⟩)) (.ag r) h' fun h''=>Y8.p2 (aL h0 Q) (.p (some ⟨id0,8,0⟩)) (.p (some ⟨idk,5,0⟩)) x14 x15 (.p (some ⟨id21,5,0⟩)) n h'':=by
 have hlt:=R.lt
 refine aW R rfl D.len D.cells' fun h2 hl2 U2 R2=>?_
 have S14':=S14.upM U2 (fun i hi e=>by omega) fun i hi=>by omega
 have S15':=(S15.upM U2 (fun i hi e=>by omega) fun i hi=>by omega).mono (F1:=fun i=>n4≤i) fun i hi=>hi.1
 unfold yJ at hq
 rw [ha] at hq hz
 unfold tB at hq hz
 rw [if_pos rfl] at hq hz
 rcases hn with ⟨he,rfl⟩ | he
 ·rw [he] at hq hz
  refine aH6 B E0 (s:=s) S14' S15' (by omega) hkl hel R2 (D.upd U2 fun i hi _=>⟨hi.2,by omega,fun hs=>?_⟩) (hz _ rfl) hb0 hq
  have:=(S15.new i hs).2
  omega
 ·rw [he] at hq
  exact aDP B E0 (aFX he) S14'.ext hq
theorem aOS:mL basOid = .ok (dG basOid):=by kernel_rfl
theorem aOB:mL altOid = .ok (dG altOid):=by kernel_rfl
include B E0 in
theorem yI (S14 : LSt (fun i => i < n4) hb h x14 ks) (S15 : LSt (fun i => n4 ≤ i) hb h x15 ext) (hn4 : n4 ≤ h.length) (hkl : ks.length ≤ 4000) (hel : ext.length ≤ 4000) (hb0 : hb.length ≤ n4)
    (hz:∀ b,tB c.auth = .ok b→BSz c (ks++gJ (ext++b))) (hq:Q (zS (yJ c ks ext)) h0):Y8.p1 (aL h0 Q) (.p (some ⟨id0,8,0⟩)) (.p (some ⟨idk,5,0⟩)) x14 x15 h:=by
  have E:=S14.ext
  have G:∀ h':aA,Ext hb h'→CG2 h':=fun h' E=>B.g.up E.u
  refine Y8.i1 ?_
  simp only [Y8.t1, ← Y8.p2.eq_1, ← Y8.p3.eq_1]
  have ld6:∀ K:AV→Prop,aE (.p (some ⟨id0,8,6⟩)) h K=K (.b c.auth):=fun K=>fL (B.r0.upd E.u fun h=>h) rfl rfl
  simp only [dC,Nat.zero_add,ld6,aM6]
  refine aG (fun ha=>?_) fun ha=>?_
  ·
    have S15m:=S15.lim
    have U0:=Upd.refl (fun _=>False) h
    have ext_tail:∀ (h1:aA) (w:AV),Upd (fun _=>False) h h1→Rd 5 h1 w (cR 0 1 false [255]) 1→∀ K:AV→aA→Prop,(∀ h2 r e s,Upd (fun _=>False) h1 h2→DV h2 (fun i=>h1.length≤i) (kU basOid s) r→((gE xM = .ok s∧e=0)∨gE xM = .error e)→K (.tu [.ag r,.i .i64 e]) h2) →
        C Y72.id [.s basOid,.ag [.i .i64 0,.i .i64 16,.b true,.s [],w]] h1 K:=by
      intro h1 w U1 R1 K hk
      have D:DV h1 (fun i=>i<h1.length) xM [.i .i64 0,.i .i64 16,.b true,.s [],w]:=DV.of R1 (DVs.one (DV.leaf _ _ _ _ _ _)) rfl rfl fun i hi=>R1.lt hi
      refine wX aOS (G h1 (E.trans U1.ext)) D (fun i hi=>hi) (by decide) (by decide) ?_
      cases he:gE xM with
      | error e=>exact fun h2 r U2 D2=>hk h2 r e [] U2 D2 (.inr he)
      | ok s=>exact fun h2 r U2 D2=>hk h2 r 0 s U2 D2 (.inl ⟨he,rfl⟩)
    have fin:∀ (h2:aA) (id21:Nat) (r:List AV) (e:Int) (s:List UInt8),Upd (fun _=>False) h h2→bC h2 id21 z5→h.length≤id21→DV h2 (fun i=>h.length≤i∧i≠id21) (kU basOid s) r→((gE xM = .ok s∧e=0)∨gE xM = .error e) →
        aP 5 (.p (some ⟨id21,5,0⟩)) (.ag r) h2 fun h''=>Y8.p2 (aL h0 Q) (.p (some ⟨id0,8,0⟩)) (.p (some ⟨idk,5,0⟩)) x14 x15 (.p (some ⟨id21,5,0⟩)) e h'':=fun h2 id21 r e s U R hi D hn=>
      aG9 B E0 ha (S14.up U) (S15m.up U) hn4 hi hkl hel R D hb0 hz hq hn
    simp only [aX (G h E).g.seq,aX (G h E).tru]
    have sv:∀ {K:AV→aA→Prop} {hx:aA},K (.ag (cR 0 1 false [255])) hx→C Y70.id [.ag [.i .i64 0,.i .i64 1,.b false],.s [255]] hx K:=fun hk=>gA (c:=0) (t:=1) (m:=false) hk
    refine ⟨?_, ?_⟩
    · refine sv ?_
      simp only [aX (G h E).g.seq,aX (G h E).tru,bL,true_and]
      refine ⟨?_, ?_⟩
      · refine dM (cs := cR 0 1 false [255]) (len := 1) rfl rfl fun w h1 hl1 U1 A1 N1 => ?_
        have E1:=E.trans U1.ext
        simp only [aX (G h1 E1).g.seq,aX (G h1 E1).tru,bL,true_and]
        refine ⟨?_, ?_⟩
        · refine dR (c := 0) (t := 16) (m := true) A1.low ?_
          simp only [aX (G h1 E1).g.seq,aX (G h1 E1).tru,bL,true_and]
          refine ⟨?_, ?_⟩
          · refine ext_tail h1 w U1 A1.rd _ fun h2 r e s U2 D2 hn => ?_
            have E2:=E1.trans U2.ext
            simp only [aX (G h2 E2).g.seq,aX (G h2 E2).tru,bL,true_and]
            refine aY (aZ (aQ (b5 (n:=5) rfl fun h3 hl3 U3 R3=>?_)))
            have E3:=E2.trans U3.ext
            simp only [aX (G h3 E3).g.seq,aX (G h3 E3).tru,bL,true_and]
            exact fin h3 h2.length r e s ((U1.then U2).then U3) R3 (by have:=U1.1; have:=U2.1; omega) (D2.upd U3 fun i hi hl=>⟨fun h=>h,by have:=U1.1; omega,by omega⟩) hn
          · refine b5 (n := 5) rfl fun h2 hl2 U2 R2 => ?_
            have E2:=E1.trans U2.ext
            simp only [aX (G h2 E2).g.seq,aX (G h2 E2).tru,bL,true_and]
            refine ext_tail h2 w (U1.then U2) (A1.rd.upd U2 fun _ _ h=>h) _ fun h3 r e s U3 D3 hn=>?_
            have E3:=E2.trans U3.ext
            simp only [aX (G h3 E3).g.seq,aX (G h3 E3).tru,bL,true_and]
            refine aY (aZ (aQ ?_))
            exact fin h3 h1.length r e s ((U1.then U2).then U3) (R2.upd U3 fun h=>h) (by have:=U1.1; omega) (D3.upd (Upd.refl (fun _=>False) h3) fun i hi hl=>⟨fun h=>h,by have:=U1.1; omega,by omega⟩) hn
        · refine b5 (n := 5) rfl fun h2 hl2 U2 R2 => ?_
          have E2:=E1.trans U2.ext
          simp only [aX (G h2 E2).g.seq,aX (G h2 E2).tru,bL,true_and]
          have A2:=A1.rd.upd U2 fun _ _ h=>h
          refine dR (c:=0) (t:=16) (m:=true) A2.low ?_
          simp only [aX (G h2 E2).g.seq,aX (G h2 E2).tru,bL,true_and]
          refine ext_tail h2 w (U1.then U2) A2 _ fun h3 r e s U3 D3 hn=>?_
          have E3:=E2.trans U3.ext
          simp only [aX (G h3 E3).g.seq,aX (G h3 E3).tru,bL,true_and]
          refine aY (aZ (aQ ?_))
          exact fin h3 h1.length r e s ((U1.then U2).then U3) (R2.upd U3 fun h=>h) (by have:=U1.1; omega) (D3.upd (Upd.refl (fun _=>False) h3) fun i hi hl=>⟨fun h=>h,by have:=U1.1; omega,by omega⟩) hn
      · refine b5 (n := 5) rfl fun h1 hl1 U1 R1 => ?_
        have E1:=E.trans U1.ext
        simp only [aX (G h1 E1).g.seq,aX (G h1 E1).tru,bL,true_and]
        refine dM (cs:=cR 0 1 false [255]) (len:=1) rfl rfl fun w h2 hl2 U2 A2 N2=>?_
        have E2:=E1.trans U2.ext
        simp only [aX (G h2 E2).g.seq,aX (G h2 E2).tru,bL,true_and]
        refine dR (c:=0) (t:=16) (m:=true) A2.low ?_
        simp only [aX (G h2 E2).g.seq,aX (G h2 E2).tru,bL,true_and]
        refine ext_tail h2 w (U1.then U2) A2.rd _ fun h3 r e s U3 D3 hn=>?_
        have E3:=E2.trans U3.ext
        simp only [aX (G h3 E3).g.seq,aX (G h3 E3).tru,bL,true_and]
        refine aY (aZ (aQ ?_))
        exact fin h3 h.length r e s ((U1.then U2).then U3) ((R1.upd U2 fun h=>h).upd U3 fun h=>h) (Nat.le_refl _) (D3.upd (Upd.refl (fun _=>False) h3) fun i hi hl=>⟨fun h=>h,by have:=U1.1; omega,by have:=U1.1; omega⟩) hn
    · refine b5 (n := 5) rfl fun h1 hl1 U1 R1 => ?_
      have E1:=E.trans U1.ext
      simp only [aX (G h1 E1).g.seq,aX (G h1 E1).tru,bL,true_and]
      refine sv ?_
      simp only [aX (G h1 E1).g.seq,aX (G h1 E1).tru,bL,true_and]
      refine dM (cs:=cR 0 1 false [255]) (len:=1) rfl rfl fun w h2 hl2 U2 A2 N2=>?_
      have E2:=E1.trans U2.ext
      simp only [aX (G h2 E2).g.seq,aX (G h2 E2).tru,bL,true_and]
      refine dR (c:=0) (t:=16) (m:=true) A2.low ?_
      simp only [aX (G h2 E2).g.seq,aX (G h2 E2).tru,bL,true_and]
      refine ext_tail h2 w (U1.then U2) A2.rd _ fun h3 r e s U3 D3 hn=>?_
      have E3:=E2.trans U3.ext
      simp only [aX (G h3 E3).g.seq,aX (G h3 E3).tru,bL,true_and]
      refine aY (aZ (aQ ?_))
      exact fin h3 h.length r e s ((U1.then U2).then U3) ((R1.upd U2 fun h=>h).upd U3 fun h=>h) (Nat.le_refl _) (D3.upd (Upd.refl (fun _=>False) h3) fun i hi hl=>⟨fun h=>h,by have:=U1.1; omega,by have:=U1.1; omega⟩) hn
  · unfold yJ at hq
    rw [ha] at hq hz
    have hbe:tB false = .ok []:=rfl
    rw [hbe] at hq hz
    have hz:=hz [] rfl
    simp only [List.append_nil] at hq hz
    exact yO B E0 S14 S15 hn4 hkl hz hq
end
end Go.Proofs.YtcdkpkkdolmfdaaGreatDoor
namespace Go.GAM
theorem aBM (off:Nat):∀ (r:List AV) (k:Nat) (cs:List AV),(r.zipIdx k).foldl (fun cs (c,j)=>cs.set (off+j) c) cs=wr cs (off+k) r
 | [],_,_=>rfl
 | c :: r, k, cs => by
  rw [List.zipIdx_cons,List.foldl_cons,aBM off r (k+1)]
  first | done | rfl
theorem aJU:∀ (ws cs pre post:List AV),ws.length=cs.length→wr (pre++(cs++post)) pre.length ws=pre++(ws++post)
 | [], cs, pre, post, h => by
  have:cs=[]:=List.eq_nil_of_length_eq_zero (by simpa using h.symm)
  subst this; rfl
 | w :: ws,[],pre,post,h=>by simp at h
 | w :: ws, c :: cs, pre, post, h => by
  show wr ((pre++(c :: (cs++post))).set pre.length w) (pre.length+1) ws=_
  have e:(pre++(c :: (cs++post))).set pre.length w=(pre++[w])++(cs++post):=by simp
  rw [e]
  have:=aJU ws cs (pre++[w]) post (by simpa using h)
  simpa using this
def wF (sz:Nat):Nat→List (List AV)→List (Nat × Nat × AV)
 | _,[]=>[]
 | o,r :: rs=>(o,sz,.ag r) :: wF sz (o+sz) rs
theorem uR (sz:Nat):∀ (rows:List (List AV)) (pre zeros:List AV),(∀ r∈rows,r.length=sz)→zeros.length=rows.length * sz→fJ (pre++zeros) (wF sz pre.length rows)=some (pre++rows.flatten)
 | [], pre, zeros, _, h => by
  have:zeros=[]:=List.eq_nil_of_length_eq_zero (by simpa using h)
  subst this; rfl
 | r :: rs, pre, zeros, hr, h => by
  have h1:=hr r (by simp)
  rw [List.length_cons,Nat.add_mul,Nat.one_mul] at h
  have hz:zeros=zeros.take sz++zeros.drop sz:=(List.take_append_drop sz zeros).symm
  unfold wF fJ
  have hc:((AV.ag r).sizeOK&&(AV.ag r).parts.length == sz&&decide (pre.length+(AV.ag r).parts.length≤(pre++zeros).length))=true:=by
   show (true&&r.length == sz&&decide (pre.length+r.length≤(pre++zeros).length))=true
   rw [h1,List.length_append,h]
   simp
  rw [if_pos hc]
  show fJ (r.zipIdx.foldl (fun cs (c,j)=>cs.set (pre.length+j) c) (pre++zeros)) _=_
  have hf:=aBM pre.length r 0 (pre++zeros)
  rw [hf,Nat.add_zero]
  have hw:wr (pre++zeros) pre.length r=(pre++r)++zeros.drop sz:=by
   conv=>lhs; rw [hz]
   rw [aJU r (zeros.take sz) pre (zeros.drop sz) (by rw [List.length_take,h1]; omega),List.append_assoc]
  rw [hw]
  have ih:=uR sz rs (pre++r) (zeros.drop sz) (fun x hx=>hr x (by simp [hx])) (by rw [List.length_drop]; omega)
  rw [List.length_append,h1] at ih
  rw [ih]
  simp
end Go.GAM
namespace Go.Proofs.YtcdkpkkdolmfdaaGreatDoor
open Go.GAM Go.RowKit
def aC1 (c:eH) (ks:List Der):Except Int (List UInt8):=match tI c.names with
 | .error e=>.error e
 | .ok a=>yJ c ks a
theorem aNW:mL pG = .ok (dG pG):=by kernel_rfl
theorem aHS {c:eH} {f u:Der} (h:gF c=0):lT c f u=aC1 c (lM ((cX c.serial).getD []) (bK c.issuer).1 (bK c.subject).1 f u c.key):=by
 unfold lT aC1 yJ
 rw [if_neg (by simpa using h)]
 cases tI c.names with
 | error e=>rfl
 | ok a =>
  cases tB c.auth with
  | error e=>rfl
  | ok b=>rfl
theorem mU.leaf {n:Int} {t:Der} (h:mU n t):∃ k y m d tag s,n=((k:Nat):Int)∧k≤253402300799∧aGR (k / 86400) y m d∧mG y m d (k % 86400)=cR 0 tag false s∧t=dW 0 tag s∧s.length≤15:=by
 obtain ⟨k,y,m,d,rfl,hk,D,rfl⟩:=h
 obtain ⟨t',s',h1,h2,_⟩:=aA0 hk D
 refine ⟨k,y,m,d,t',s',rfl,hk,D,h1, ?_,h2⟩
 unfold mG cR at h1
 unfold qX
 by_cases hy:y<2050
 ·rw [if_pos hy] at *
  simp only [List.cons.injEq,AV.i.injEq,AV.s.injEq,true_and,and_true] at h1
  obtain ⟨rfl,rfl⟩:=h1; rfl
 ·rw [if_neg hy] at *
  simp only [List.cons.injEq,AV.i.injEq,AV.s.injEq,true_and,and_true] at h1
  obtain ⟨rfl,rfl⟩:=h1; rfl
section
variable {h0 hb:aA} {Q:AV→aA→Prop} {c:eH} {nv wk:AV} {id0 idk:Nat} (B:aI7 hb c nv wk id0 idk) (E0:Ext h0 hb) {n4:Nat} {x14:AV} {ks:List Der}
include B E0 in
theorem aHR (hkl : ks.length ≤ 4000) (hb0 : hb.length ≤ n4) (hnl : c.names.length ≤ 4000) (hne : c.names ≠ []) (hsz : (zK c.names).sz ≤ 100000) (hds : fG (zK c.names) ≤ 60000) (hz : ∀ a b, tI c.names = .ok a → tB c.auth = .ok b → BSz c (ks ++ gJ (a ++ b)))
  (hq:Q (zS (aC1 c ks)) h0):∀ (r:List (List UInt8)) (i:Nat) (h:aA) (v:AV),c.names.drop i=r→n4≤h.length→LSt (fun i=>i<n4) hb h x14 ks→LSt (fun i=>n4≤i) hb h v ((c.names.take i).map fun n=>dW 2 2 n) →
   Y8.p0 (aL h0 Q) (.p (some ⟨id0,8,0⟩)) (.p (some ⟨idk,5,0⟩)) x14 (.sl none 0 none) v nv (c.names.length:Nat) i h:=by
 intro r
 induction r with
 | nil =>
  intro i h v hr hn4 S14 S16
  have hi:=cA hr
  rw [List.take_of_length_le hi] at S16
  have E:=S14.ext
  have G:CG2 h:=B.g.up E.u
  refine Y8.i0 ?_
  simp only [Y8.t0, ← Y8.p0.eq_1, ← Y8.p1.eq_1]
  refine aN (by simp; omega) ?_
  simp only [aX G.g.seq]
  refine dR (c:=0) (t:=16) (m:=true) S16.low ?_
  have D:DV h (fun i=>i<h.length) (zK c.names) [.i .i64 0,.i .i64 16,.b true,.s [],v]:=(S16.val 0 16 true []).upd (Upd.refl (fun _=>False) h) fun i _ hi=>⟨fun h=>h,hi⟩
  refine wX aOB G D (fun i hi=>hi) hsz hds ?_
  have ha:tI c.names=(match gE (zK c.names) with
    | .error e=>.error e
    | .ok s=>.ok [kU altOid s]):=by unfold tI; rw [if_neg hne] <;> rfl
  unfold aC1 at hq
  cases he:gE (zK c.names) with
  | error e =>
   rw [he] at ha
   rw [ha] at hq
   intro h1 r U1 D1
   refine aY (aZ (aQ (b5 (n:=5) rfl fun h2 hl2 U2 R2=>aW R2 rfl D1.len D1.cells' fun h3 hl3 U3 R3=>?_)))
   have V3:Upd (fun _=>False) h h3:=(U1.then U2).own U3 U1.1
   exact aO (by simp [aFX he]) (aU rfl (E0.trans (E.trans V3.ext)) hq)
  | ok s =>
   rw [he] at ha
   rw [ha] at hq
   intro h1 r U1 D1
   refine aY (aZ (aQ (b5 (n:=5) rfl fun h2 hl2 U2 R2=>aW R2 rfl D1.len D1.cells' fun h3 hl3 U3 R3=>?_)))
   have U13:Upd (fun _=>False) h1 h3:=U2.own U3 (Nat.le_refl _)
   refine aN rfl (aT R3 D1.len.symm ?_)
   have hr:fJ z5 [(0,5,.ag r)]=some r:=by
    obtain ⟨c',t,m,s',a,n,cap,rfl⟩:=D1.row; rfl
   refine dM (cs:=r) (len:=1) hr (by rw [D1.len]) fun y h4 hl4 U4 A4 N4=>?_
   have V4:=U1.then (U13.then U4)
   have S15:LSt (fun i=>n4≤i) hb h4 (.sl none 0 none) []:=LSt.nil (E.trans V4.ext)
   refine S15.push (by simp) A4.rd (D1.upd (U13.then U4) fun i hi _=>⟨fun h=>h,by omega,fun h=>h⟩) (fun i hi=>by have:=V4.1; omega) fun v' h5 U5 S5=>?_
   have S14':=(S14.up V4).upM U5 (fun i hi hs=>hs) fun i hi=>hi.elim
   exact yI B E0 S14' S5 (by have:=V4.1; have:=U5.1; omega) hkl (by simp) hb0 (fun b hb'=>hz _ b ha hb') hq
 | cons x r ih =>
  intro i h v hr hn4 S14 S16
  have hlt:=cG hr
  have hx:=b4 hr
  have E:=S14.ext
  have G:CG2 h:=B.g.up E.u
  refine Y8.i0 ?_
  simp only [Y8.t0, ← Y8.p0.eq_1, ← Y8.p1.eq_1]
  refine aO (by simp; omega) (B.s.str E.u hx ?_)
  simp only [aX G.host]
  refine gA (c:=2) (t:=2) (m:=false) ?_
  refine dM (cs:=cR 2 2 false x) (len:=1) rfl rfl fun y h1 hl1 U1 A1 N1=>?_
  refine (S16.up U1).push (by rw [List.length_map,List.length_take]; omega) A1.rd (DV.leaf _ _ 2 2 false x) (fun i hi=>by have:=U1.1; omega) fun v' h2 U2 S2=>?_
  have htk:(c.names.take (i+1)).map (fun n=>dW 2 2 n)=(c.names.take i).map (fun n=>dW 2 2 n)++[dW 2 2 x]:=by rw [dH hx,List.map_append] <;> rfl
  rw [show Der.mk 2 2 false x []=dW 2 2 x from rfl, ← htk] at S2
  have S14':=(S14.up U1).upM U2 (fun i hi hs=>by have:=(S16.new i hs).2; omega) fun i hi=>(S16.new i hi).1
  exact inc (by omega) (ih (i+1) h2 v' (b3 hr) (by have:=U1.1; have:=U2.1; omega) S14' S2)
end
structure BOK (c:eH) (f u:Der):Prop extends CBd c where
 t:gF c=0→mU c.frm f∧mU c.til u
 a:(zK c.names).sz≤100000
 ad:fG (zK c.names)≤60000
 z:gF c=0→∀ a b,tI c.names = .ok a→tB c.auth = .ok b→BSz c (lM ((cX c.serial).getD []) (bK c.issuer).1 (bK c.subject).1 f u c.key++gJ (a++b))
 nl:c.names.length≤4000
theorem aMX {c : eH} (h : gF c = 0) : aJI (cX c.serial) = .tu [.s ((cX c.serial).getD []), .b true] := by
 rw [rU] at h
 split at h
 ·cases h
 ·split at h
  ·cases h
  ·split at h
   ·cases h
   ·split at h
    ·cases h
    ·rename_i hs
     cases hx:cX c.serial with
     | none=>exact absurd hx hs
     | some l=>rfl
theorem aFG {c : eH} (h : gF c = 0) : c.key.length ≤ 1024 := by
 rw [rU] at h
 split at h
 ·cases h
 ·split at h
  ·cases h
  ·split at h
   ·cases h
   ·split at h
    ·cases h
    ·split at h
     ·cases h
     ·rename_i hl
      unfold mP at hl
      simp only [decide_eq_true_eq] at hl
      omega
set_option maxHeartbeats 4000000 in
theorem aAQ {h : aA} {Q : AV → aA → Prop} {c : eH} {cs : List AV} {f u : Der} (G : CG2 h) (V : CV h c cs) (B : BOK c f u) (hq : Q (zS (lT c f u)) h) : C Y8.id [.ag cs] h Q := by
 obtain ⟨nv,rfl,S⟩:=V
 refine Y8.call ?_
 simp only [Y8.t, ← Y8.p0.eq_1, ← Y8.p1.eq_1]
 refine tR (n:=8) rfl rfl fun h1 hl1 U1 R1=>?_
 have R1:bC h1 h.length (jU c nv):=R1
 refine aT R1 rfl (aMR (G.g.ext U1) ⟨nv,rfl,S.ext U1⟩ B.toCBd (aQ ?_))
 by_cases hc:gF c=0
 rotate_left
 ·refine aO (by simp [hc]) (aU rfl U1.ext ?_)
  unfold lT at hq
  rw [if_pos hc] at hq
  exact hq
 rw [aHS hc] at hq
 obtain ⟨tf,tu'⟩:=B.t hc
 obtain ⟨k1,y1,m1,d1,g1,s1,e1,n1,D1,t1,f1,_⟩:=tf.leaf
 obtain ⟨k2,y2,m2,d2,g2,s2,e2,n2,D2,t2,f2,_⟩:=tu'.leaf
 have hkey:=aFG hc
 refine aN (by simp [hc]) (aAL fun h2 U2=>?_)
 rw [show ([49,46,50,46,56,52,48,46,49,48,48,52,53,46,52,46,51,46,50]:List UInt8)=pG from rfl,aNW]
 refine aY (aZ (aQ (b5 (n:=5) rfl fun h3 hl3 U3 R3=>aW R3 rfl rfl rfl fun h4 hl4 U4 R4=>?_)))
 have V4:Upd (fun _=>False) h1 h4:=(U2.then U3).own U4 U2.1
 simp only [aX (G.up (U1.then V4)).g.seq]
 refine aT R4 rfl ?_
 refine dM (cs:=cR 0 6 false (dG pG)) (len:=1) rfl rfl fun wk h5 hl5 U5 A5 N5=>?_
 refine dR (c:=0) (t:=16) (m:=true) A5.low ?_
 obtain ⟨xk,nk,kk,hwk,_⟩:=A5.low
 refine b5 (n:=5) rfl fun h6 hl6 U6 R6=>aW (ws:=rQ wk) R6 rfl rfl (by unfold rQ; rw [hwk] <;> rfl) fun h7 hl7 U7 R7=>?_
 have U57:Upd (fun _=>False) h5 h7:=U6.own U7 (Nat.le_refl _)
 have V7:Upd (fun _=>False) h1 h7:=V4.then (U5.then U57)
 have ld:∀ (h':aA),Upd (fun _=>False) h1 h'→∀ (o:Nat) (x:AV),(jU c nv)[o]? = some x→∀ K:AV→Prop,aE (.p (some ⟨h.length,8,o⟩)) h' K=K x:=fun h' U o x hx K=>fL (R1.upd U fun h=>h) rfl hx
 simp only [dC,Nat.zero_add,ld h7 V7 0 _ rfl,cI]
 refine aCK ?_
 rw [aMX hc]
 refine aY (bA (aZ (aS ?_)))
 simp only [dC,Nat.zero_add,ld h7 V7 1 _ rfl,cI]
 refine lK (G.g.ext (U1.then V7)) B.i fun h8 ri U8 Di=>?_
 refine aY (aZ (aQ (b5 (n:=5) rfl fun h9 hl9 U9 R9=>aW R9 rfl Di.len Di.cells' fun h10 hl10 U10 R10=>?_)))
 have U810:Upd (fun _=>False) h8 h10:=U9.own U10 (Nat.le_refl _)
 have V10:Upd (fun _=>False) h1 h10:=V7.then (U8.then U810)
 simp only [dC,Nat.zero_add,ld h10 V10 2 _ rfl,cI]
 refine lK (G.g.ext (U1.then V10)) B.j fun h11 rs U11 Ds=>?_
 refine aY (aZ (aQ (b5 (n:=5) rfl fun h12 hl12 U12 R12=>aW R12 rfl Ds.len Ds.cells' fun h13 hl13 U13 R13=>?_)))
 have U1113:Upd (fun _=>False) h11 h13:=U12.own U13 (Nat.le_refl _)
 have U1013:Upd (fun _=>False) h10 h13:=U11.then U1113
 have V13:Upd (fun _=>False) h1 h13:=V10.then U1013
 have U713:Upd (fun _=>False) h7 h13:=U8.then (U810.then U1013)
 have Gx:∀ h',Upd (fun _=>False) h13 h'→CG2 h':=fun h' U=>G.up (U1.then (V13.then U))
 have l7:∀ h',Upd (fun _=>False) h13 h'→∀ K:AV→Prop,aE (.p (some ⟨h.length,8,7⟩)) h' K=K (.s c.key):=fun h' U=>ld h' (V13.then U) 7 _ rfl
 have l4:∀ h',Upd (fun _=>False) h13 h'→∀ K:AV→Prop,aE (.p (some ⟨h.length,8,4⟩)) h' K=K (.i .i64 c.til):=fun h' U=>ld h' (V13.then U) 4 _ rfl
 have l3:∀ h',Upd (fun _=>False) h13 h'→∀ K:AV→Prop,aE (.p (some ⟨h.length,8,3⟩)) h' K=K (.i .i64 c.frm):=fun h' U=>ld h' (V13.then U) 3 _ rfl
 have l5:∀ h',Upd (fun _=>False) h13 h'→∀ K:AV→Prop,aE (.p (some ⟨h.length,8,5⟩)) h' K=K nv:=fun h' U=>ld h' (V13.then U) 5 _ rfl
 have lk:∀ h',Upd (fun _=>False) h13 h'→∀ K:AV→Prop,aD 5 (.p (some ⟨h5.length,5,0⟩)) h' K=K (.ag (rQ wk)):=fun h' U K=>aB4 (k:=5) ((R7.upd U713 fun h=>h).upd U fun h=>h) rfl (by show 0+5≤5; omega)
 obtain ⟨ci,ti,mi,si,xi,ni,pi,hri⟩:=Di.row
 obtain ⟨cj,tj,mj,sj,xj,nj,pj,hrs⟩:=Ds.row
 have li:∀ h',Upd (fun _=>False) h13 h'→∀ K:AV→Prop,aD 5 (.p (some ⟨h8.length,5,0⟩)) h' K=K (.ag ri):=fun h' U K=>by
  have:=aB4 (k:=5) (o:=0) (n:=5) (K:=K) ((R10.upd U1013 fun h=>h).upd U fun h=>h) Di.len.symm (by rw [Di.len]; omega)
  rw [this,List.drop_zero,List.take_of_length_le (by rw [Di.len]; omega)]
 have ls:∀ h',Upd (fun _=>False) h13 h'→∀ K:AV→Prop,aD 5 (.p (some ⟨h11.length,5,0⟩)) h' K=K (.ag rs):=fun h' U K=>by
  have:=aB4 (k:=5) (o:=0) (n:=5) (K:=K) (R13.upd U fun h=>h) Ds.len.symm (by rw [Ds.len]; omega)
  rw [this,List.drop_zero,List.take_of_length_le (by rw [Ds.len]; omega)]
 have u13:=Upd.refl (fun _=>False) h13
 simp only [aX (Gx _ u13).g.seq,aX (Gx _ u13).bits,aX (Gx _ u13).ver,aX (Gx _ u13).int,dC,Nat.zero_add,l7 _ u13,l4 _ u13,l3 _ u13,lk _ u13,li _ u13,ls _ u13,cI,iV]
 refine ⟨by simp <;> omega, ?_⟩
 refine aL0 ?_
 rw [show aDX 2=cR 0 2 false [2] by kernel_rfl]
 simp only [aX (Gx _ u13).g.seq,aX (Gx _ u13).bits,aX (Gx _ u13).ver,aX (Gx _ u13).int,l7 _ u13,l4 _ u13,l3 _ u13,lk _ u13,li _ u13,ls _ u13,cI,iV,bL,true_and]
 refine dM (cs:=cR 0 2 false [2]) (len:=1) rfl rfl fun wa h14 hl14 U14 A14 N14=>?_
 have u14:=u13.then U14
 simp only [aX (Gx _ u14).g.seq,aX (Gx _ u14).bits,aX (Gx _ u14).ver,aX (Gx _ u14).int,l7 _ u14,l4 _ u14,l3 _ u14,lk _ u14,li _ u14,ls _ u14,cI,iV,bL,true_and]
 refine dR (c:=2) (t:=0) (m:=true) A14.low ?_
 simp only [aX (Gx _ u14).g.seq,aX (Gx _ u14).bits,aX (Gx _ u14).ver,aX (Gx _ u14).int,l7 _ u14,l4 _ u14,l3 _ u14,lk _ u14,li _ u14,ls _ u14,cI,iV,bL,true_and]
 refine gA (c:=0) (t:=2) (m:=false) ?_
 simp only [aX (Gx _ u14).g.seq,aX (Gx _ u14).bits,aX (Gx _ u14).ver,aX (Gx _ u14).int,l7 _ u14,l4 _ u14,l3 _ u14,lk _ u14,li _ u14,ls _ u14,cI,iV,bL,true_and]
 have tmf:∀ {K:AV→aA→Prop} {hx:aA},K (.ag (cR 0 g1 false s1)) hx→C Y19.id [.i .i64 c.frm] hx K:=fun hk=>by rw [e1]; exact aCZ n1 D1 (by rw [t1]; exact hk)
 have tmu:∀ {K:AV→aA→Prop} {hx:aA},K (.ag (cR 0 g2 false s2)) hx→C Y19.id [.i .i64 c.til] hx K:=fun hk=>by rw [e2]; exact aCZ n2 D2 (by rw [t2]; exact hk)
 refine tmf ?_
 simp only [aX (Gx _ u14).g.seq,aX (Gx _ u14).bits,aX (Gx _ u14).ver,aX (Gx _ u14).int,l7 _ u14,l4 _ u14,l3 _ u14,lk _ u14,li _ u14,ls _ u14,cI,iV,bL,true_and]
 refine tmu ?_
 simp only [aX (Gx _ u14).g.seq,aX (Gx _ u14).bits,aX (Gx _ u14).ver,aX (Gx _ u14).int,l7 _ u14,l4 _ u14,l3 _ u14,lk _ u14,li _ u14,ls _ u14,cI,iV,bL,true_and]
 refine dM (cs:=cR 0 g1 false s1++cR 0 g2 false s2) (len:=2) rfl rfl fun wb h15 hl15 U15 A15 N15=>?_
 have u15:=u14.then U15
 simp only [aX (Gx _ u15).g.seq,aX (Gx _ u15).bits,aX (Gx _ u15).ver,aX (Gx _ u15).int,l7 _ u15,l4 _ u15,l3 _ u15,lk _ u15,li _ u15,ls _ u15,cI,iV,bL,true_and]
 refine dR (c:=0) (t:=16) (m:=true) A15.low ?_
 simp only [aX (Gx _ u15).g.seq,aX (Gx _ u15).bits,aX (Gx _ u15).ver,aX (Gx _ u15).int,l7 _ u15,l4 _ u15,l3 _ u15,lk _ u15,li _ u15,ls _ u15,cI,iV,bL,true_and]
 refine gA (c:=0) (t:=3) (m:=false) ?_
 simp only [aX (Gx _ u15).g.seq,aX (Gx _ u15).bits,aX (Gx _ u15).ver,aX (Gx _ u15).int,l7 _ u15,l4 _ u15,l3 _ u15,lk _ u15,li _ u15,ls _ u15,cI,iV,bL,true_and]
 refine dM (cs:=rQ wk++cR 0 3 false (0 :: c.key)) (len:=2) (by unfold rQ; rw [hwk] <;> rfl) rfl fun wc h16 hl16 U16 A16 N16=>?_
 have u16:=u15.then U16
 simp only [aX (Gx _ u16).g.seq,aX (Gx _ u16).bits,aX (Gx _ u16).ver,aX (Gx _ u16).int,l7 _ u16,l4 _ u16,l3 _ u16,lk _ u16,li _ u16,ls _ u16,cI,iV,bL,true_and]
 refine dR (c:=0) (t:=16) (m:=true) A16.low ?_
 simp only [aX (Gx _ u16).g.seq,aX (Gx _ u16).bits,aX (Gx _ u16).ver,aX (Gx _ u16).int,l7 _ u16,l4 _ u16,l3 _ u16,lk _ u16,li _ u16,ls _ u16,cI,iV,bL,true_and]
 obtain ⟨xa,na,pa,hwa,_⟩:=A14.low
 obtain ⟨xb,nb,pb,hwb,_⟩:=A15.low
 obtain ⟨xc,nc,pc',hwc,_⟩:=A16.low
 have hf7:=uR 5 [[.i .i64 2,.i .i64 0,.b true,.s [],wa],cR 0 2 false ((cX c.serial).getD []),rQ wk,ri,[.i .i64 0,.i .i64 16,.b true,.s [],wb],rs,[.i .i64 0,.i .i64 16,.b true,.s [],wc]] [] (z5++(z5++(z5++(z5++(z5++(z5++z5)))))) (by
  intro r hr
  simp only [List.mem_cons,List.not_mem_nil,or_false] at hr
  rcases hr with rfl | rfl | rfl | rfl | rfl | rfl | rfl
  ·rfl
  ·rfl
  ·rfl
  ·exact Di.len
  ·rfl
  ·exact Ds.len
  ·rfl) rfl
 refine dM (len:=7) hf7 (by simp [Di.len,Ds.len,cR,rQ]) fun w7 h17 hl17 U17 A17 N17=>?_
 have u17:=u16.then U17
 simp only [aX (Gx _ u17).g.seq,aX (Gx _ u17).bits,aX (Gx _ u17).ver,aX (Gx _ u17).int,l7 _ u17,l4 _ u17,l3 _ u17,l5 _ u17,lk _ u17,li _ u17,ls _ u17,cI,iV,bL,true_and,dC,Nat.zero_add,(S.ext (U1.then (V13.then u17))).plen]
 have hh1:=U1.1
 have hl113:=V13.1
 have hl7:=V7.1
 have h57:=U57.1
 have h713:=U713.1
 have h1316:=u16.1
 have BC:aI7 h16 c nv wk h.length h5.length:=⟨Gx _ u16,R1.upd (V13.then u16) fun h=>h,(R7.upd U713 fun h=>h).upd u16 fun h=>h,(A5.rd.upd (U57.then U713) fun _ _ h=>h).upd u16 fun _ _ h=>h,S.ext (U1.then (V13.then u16))⟩
 have E0:Ext h h16:=(U1.then (V13.then u16)).ext
 have hno:∀ i,i<h16.length→i<h17.length∧¬ bU w7 i:=fun i hi=>⟨by have:=U17.1; omega,fun hs=>by have:=N17 i hs; omega⟩
 have U1417:Upd (fun _=>False) h14 h17:=(U15.then U16).then U17
 have S14:LSt (fun i=>i<h17.length) h16 h17 w7 (lM ((cX c.serial).getD []) (bK c.issuer).1 (bK c.subject).1 f u c.key):=by
  refine ⟨U17.ext,⟨[[.i .i64 2,.i .i64 0,.b true,.s [],wa],cR 0 2 false ((cX c.serial).getD []),rQ wk,ri,[.i .i64 0,.i .i64 16,.b true,.s [],wb],rs,[.i .i64 0,.i .i64 16,.b true,.s [],wc]], ?_, ?_⟩,fun i hi=>⟨by have:=N17 i hi; omega,by have:=N17 i hi; have:=U17.1; omega⟩⟩
  ·rw [List.nil_append] at A17; exact A17
  ·refine .cons ?_ (.cons (DV.leaf _ _ _ _ _ _) (.cons ?_ (.cons ?_ (.cons ?_ (.cons ?_ (.cons ?_ .nil))))))
   ·exact DV.of (A14.rd.upd U1417 fun _ _ h=>h) (DVs.one (DV.leaf _ _ _ _ _ _)) rfl rfl fun i hi=>hno i (by have:=A14.rd.lt hi; have:=U15.1; have:=U16.1; omega)
   ·exact BC.alg U17.ext fun i hi=>hno i (BC.ak.lt hi)
   ·exact Di.upd ((U810.then U1013).then u17) fun i hi hl=>⟨fun h=>h,hno i (by have:=U810.1; have:=U1013.1; omega)⟩
   ·rw [f1, f2]
    exact DV.of (A15.rd.upd (U16.then U17) fun _ _ h=>h) (DVs.two (DV.leaf _ _ _ _ _ _) (DV.leaf _ _ _ _ _ _)) rfl rfl fun i hi=>hno i (by have:=A15.rd.lt hi; have:=U16.1; omega)
   ·exact Ds.upd (U1113.then u17) fun i hi hl=>⟨fun h=>h,hno i (by have:=U1113.1; omega)⟩
   ·exact DV.of (A16.rd.upd U17 fun _ _ h=>h) (DVs.two (BC.alg U17.ext fun i hi=>hno i (BC.ak.lt hi)) (DV.leaf _ _ _ _ _ _)) rfl rfl fun i hi=>hno i (A16.rd.lt hi)
 have hkl:(lM ((cX c.serial).getD []) (bK c.issuer).1 (bK c.subject).1 f u c.key).length≤4000:=by show 7≤4000; omega
 by_cases hn:c.names=[]
 ·refine aN (by simp [hn]) ?_
  have ha:tI c.names = .ok []:=by unfold tI; rw [if_pos hn]
  unfold aC1 at hq
  rw [ha] at hq
  exact yI BC E0 S14 (LSt.nil U17.ext) (Nat.le_refl _) hkl (by simp) U17.1 (fun b hb=>B.z hc [] b ha hb) hq
 ·refine aO (decide_eq_true (by have := List.length_pos_iff.2 hn; omega)) ?_
  exact aHR BC E0 hkl U17.1 B.nl hn B.a B.ad (B.z hc) hq c.names 0 h17 _ rfl (Nat.le_refl _) S14 (LSt.nil U17.ext)
end Go.Proofs.YtcdkpkkdolmfdaaGreatDoor
namespace Go.Proofs.YtcdkpkkdolmfdaaGreatDoor
open Go.GAM Go.RowKit Go.ChangeShapes
section
variable {H:Type} {enc:TypeId × Value→H} {w:World}
abbrev hW (w:World):aA:=kD w fun _=>1
theorem oZ {g:Nat} {cs:Array Value} {n:String} (hg:prog.globalNamed n=some g) (hv:w.var? prog n=some cs):jM (hW w) g (cs.toList.map (iY w fun _=>1)):=by
 obtain ⟨t,fr,h⟩:=aG4 hg hv
 have hlt:g<w.heap.size:=(Array.getElem?_eq_some_iff.1 h).1
 refine ⟨lJ w (fun _=>1) g, ?_, ?_, ?_, ?_⟩
 ·unfold hW kD
  rw [List.getElem?_append_left (by simpa using hlt),List.getElem?_map,List.getElem?_range hlt] <;> rfl
 ·simp only [lJ,h]
 ·simp only [lJ,h]; simp
 ·simp only [lJ,h]
theorem fN {held:Bool} {fuel:Nat} {cs:List Value} {d:DataW H} {p:List MemPlace} {c t:Int} {m:Bool} (hd:d = .agg [.lit (.int .i64 c),.lit (.int .i64 t),.lit (.bool m)]) (h:DataW.trod enc prog w 0 (fun _=>true) held fuel 46 cs=some (d,p)) :
  cs=[.int .i64 c,.int .i64 t,.bool m]:=by
 cases fuel with
 | zero=>simp [DataW.trod] at h
 | succ fuel=>
 obtain ⟨xs,n,hn,hx,hlen,hl,hf⟩:=DataW.trod_struct Tryz.underlying46 h
 have c78:prog.cellsOf 46=3:=by kernel_rfl
 have c3:prog.cellsOf 3=1:=by kernel_rfl
 have c4:prog.cellsOf 4=1:=by kernel_rfl
 rw [c78] at hlen
 have hn:fuel=n:=by omega
 subst hn
 match cs,hlen with
 | [v0, v1, v2], _ =>
  have hxl:xs.length=3:=hl
  have f0:DataW.trod enc prog w 0 (fun _=>true) held fuel 3 (([v0,v1,v2].drop 0).take (prog.cellsOf 3))=xs[0]?:=hf 0 _ rfl
  have f1:DataW.trod enc prog w 0 (fun _=>true) held fuel 3 (([v0,v1,v2].drop 1).take (prog.cellsOf 3))=xs[1]?:=hf 1 _ rfl
  have f2:DataW.trod enc prog w 0 (fun _=>true) held fuel 4 (([v0,v1,v2].drop 2).take (prog.cellsOf 4))=xs[2]?:=hf 2 _ rfl
  rw [c3] at f0 f1
  rw [c4] at f2
  match xs,hxl with
  | [y0, y1, y2], _ =>
   obtain ⟨i0,e0,d0,_⟩:=DataW.trod_int (show prog.underlying 3=some (.int .i64) by kernel_rfl) f0
   obtain ⟨i1,e1,d1,_⟩:=DataW.trod_int (show prog.underlying 3=some (.int .i64) by kernel_rfl) f1
   obtain ⟨m2,e2,d2⟩:=DataW.trod_bool Tryz.underlying4 f2
   have g0:v0 = .int .i64 i0:=List.singleton_inj.1 e0
   have g1:v1 = .int .i64 i1:=List.singleton_inj.1 e1
   have g2:v2 = .bool m2:=List.singleton_inj.1 e2
   subst g0 g1 g2 d0 d1 d2 hd
   simp at hx
   obtain ⟨⟨rfl,rfl,rfl⟩,_⟩:=hx
   rfl
theorem aIF {held:Bool} {fuel:Nat} {cs:List Value} {d:DataW H} {p:List MemPlace} {a b:List UInt8} (hd:d = .agg [.lit (.string a),.lit (.string b)]) (h:DataW.trod enc prog w 0 (fun _=>true) held fuel 74 cs=some (d,p)) :
  cs.map (iY w fun _=>1)=[.s a,.s b]:=by
 cases fuel with
 | zero=>simp [DataW.trod] at h
 | succ fuel=>
 obtain ⟨xs,n,hn,hx,hlen,hl,hf⟩:=DataW.trod_struct Tryz.underlying74 h
 have c82:prog.cellsOf 74=2:=by kernel_rfl
 have c9:prog.cellsOf 9=1:=by kernel_rfl
 rw [c82] at hlen
 have hn:fuel=n:=by omega
 subst hn
 match cs,hlen with
 | [v0, v1], _ =>
  have hxl:xs.length=2:=hl
  have f0:DataW.trod enc prog w 0 (fun _=>true) held fuel 9 (([v0,v1].drop 0).take (prog.cellsOf 9))=xs[0]?:=hf 0 _ rfl
  have f1:DataW.trod enc prog w 0 (fun _=>true) held fuel 9 (([v0,v1].drop 1).take (prog.cellsOf 9))=xs[1]?:=hf 1 _ rfl
  rw [c9] at f0 f1
  match xs,hxl with
  | [y0, y1], _ =>
   obtain ⟨s0,e0,d0,_⟩:=DataW.trod_string Tryz.underlying9 f0
   obtain ⟨s1,e1,d1,_⟩:=DataW.trod_string Tryz.underlying9 f1
   have g0:v0 = .string s0:=List.singleton_inj.1 e0
   have g1:v1 = .string s1:=List.singleton_inj.1 e1
   subst g0 g1 d0 d1 hd
   simp at hx
   obtain ⟨⟨rfl,rfl⟩,_⟩:=hx
   rfl
def attD {H:Type} (x:List UInt8 × List UInt8):DataW H:=.agg [.lit (.string x.1),.lit (.string x.2)]
theorem aBY {held:Bool} {n:Nat}:∀ (rows:List (List Value)) (l:List (List UInt8 × List UInt8)),rows.length=l.length→(∀ (i:Nat) (r:List Value) (d:DataW H),rows[i]? = some r→(l.map attD)[i]? = some d→∃ p,DataW.trod enc prog w 0 (fun _=>true) held n 74 r=some (d,p)) →
  rows.flatten.map (iY w fun _=>1)=l.flatMap fun x=>[.s x.1,.s x.2]
 | [],[],_,_=>rfl
 | r :: rows, x :: l, hl, h => by
  obtain ⟨p,hp⟩:=h 0 r (attD x) rfl rfl
  rw [List.flatten_cons,List.map_append,aIF rfl hp,aBY rows l (by simpa using hl) fun i r d h1 h2=>h (i+1) r d (by simpa using h1) (by simpa using h2)]
  first | done | rfl
theorem aOV {l : List (String × DataW Unit)} (h5 : ("intrusion/certificate.sequence", Rows.laid_intrusion_certificate_sequence) ∈ l) (h4 : ("intrusion/certificate.attributes", Rows.laid_intrusion_certificate_attributes) ∈ l) (h6 : ("intrusion/certificate.set", Rows.laid_intrusion_certificate_set) ∈ l) (h9 : ("intrusion/certificate.bits", Rows.laid_intrusion_certificate_bits) ∈ l) (h11 : ("intrusion/certificate.version", Rows.laid_intrusion_certificate_version) ∈ l) (h7 : ("intrusion/certificate.integer", Rows.laid_intrusion_certificate_integer) ∈ l) (h13 : ("intrusion/certificate.hostName", Rows.laid_intrusion_certificate_hostName) ∈ l) (h10 : ("intrusion/certificate.truth", Rows.laid_intrusion_certificate_truth) ∈ l) (h12 : ("intrusion/certificate.extension", Rows.laid_intrusion_certificate_extension) ∈ l) (h8 : ("intrusion/certificate.octets", Rows.laid_intrusion_certificate_octets) ∈ l) (hL : laidMet prog l w) : CG2 (hW w) := by
 refine ⟨⟨?_, ?_, ?_⟩, ?_, ?_, ?_, ?_, ?_, ?_, ?_⟩
 ·obtain ⟨g, t, cs, fuel, p, hg, ht, hv, hd⟩ := dZ h5 hL
  obtain rfl:=Option.some.inj ((show prog.globalNamed "intrusion/certificate.sequence" = some 0 by kernel_rfl).symm.trans hg)
  obtain rfl:=Option.some.inj ((show (prog.globals[0]?).map (·.type)=some 46 by kernel_rfl).symm.trans ht)
  have:=oZ hg hv
  rw [fN rfl hd] at this
  exact this
 ·obtain ⟨g, t, cs, fuel, p, hg, ht, hv, hd⟩ := dZ h6 hL
  obtain rfl:=Option.some.inj ((show prog.globalNamed "intrusion/certificate.set" = some 8 by kernel_rfl).symm.trans hg)
  obtain rfl:=Option.some.inj ((show (prog.globals[8]?).map (·.type)=some 46 by kernel_rfl).symm.trans ht)
  have:=oZ hg hv
  rw [fN rfl hd] at this
  exact this
 ·obtain ⟨g, t, cs, fuel, p, hg, ht, hv, hd⟩ := dZ h4 hL
  obtain rfl:=Option.some.inj ((show prog.globalNamed "intrusion/certificate.attributes" = some 7 by kernel_rfl).symm.trans hg)
  obtain rfl:=Option.some.inj ((show (prog.globals[7]?).map (·.type)=some 72 by kernel_rfl).symm.trans ht)
  have hG:=oZ hg hv
  have c82:prog.cellsOf 74=2:=by kernel_rfl
  rcases aHU Tryz.underlying72 hd with ⟨_,hx⟩ | ⟨a,len,cap,n,rows,ds,rs,_,hc,hx,hdl,hl,_,hrl,hr,hrd,hcell⟩
  ·cases hx
  ·rw [hc] at hG
   refine ⟨_,hG, ?_⟩
   have hds:ds=cK.map attD:=by
    have:=hx
    unfold Rows.laid_intrusion_certificate_attributes at this
    simp only [DataW.slice.injEq] at this
    exact this.1.symm
   have hlen4:len=4:=by rw [← hdl,hds] <;> rfl
   have hrl2:=wC rows fun r hr'=>(hr r hr').1.trans c82
   obtain ⟨ver,b,g1,g2,g3,g4,g5,g6⟩:=aAB (szOf:=fun _=>1) (sz:=2) hl (by omega) (by decide) (by decide) (by rw [hrl2,hrl]) hcell
   rw [rT rows len fun r hr'=>(hr r hr').1.trans c82] at g6
   rw [aBY (held:=false) (n:=n) (rows.take len) cK (by rw [List.length_take,hrl]; simp [cK]; omega) (fun i r d q1 q2=>hrd i r d (by rw [List.getElem?_take] at q1; split at q1; exact q1; cases q1) (by rw [hds]; exact q2))] at g6
   subst hlen4
   refine .inr (.inr ⟨a.block,ver,a.off,some cap,b, ?_,g2,g3,g4,g5,g6⟩)
   rw [← g1]
 ·obtain ⟨g, t, cs, fuel, p, hg, ht, hv, hd⟩ := dZ h9 hL
  obtain rfl:=Option.some.inj ((show prog.globalNamed "intrusion/certificate.bits" = some 1 by kernel_rfl).symm.trans hg)
  obtain rfl:=Option.some.inj ((show (prog.globals[1]?).map (·.type)=some 46 by kernel_rfl).symm.trans ht)
  have:=oZ hg hv
  rw [fN rfl hd] at this
  exact this
 ·obtain ⟨g, t, cs, fuel, p, hg, ht, hv, hd⟩ := dZ h11 hL
  obtain rfl:=Option.some.inj ((show prog.globalNamed "intrusion/certificate.version" = some 2 by kernel_rfl).symm.trans hg)
  obtain rfl:=Option.some.inj ((show (prog.globals[2]?).map (·.type)=some 46 by kernel_rfl).symm.trans ht)
  have:=oZ hg hv
  rw [fN rfl hd] at this
  exact this
 ·obtain ⟨g, t, cs, fuel, p, hg, ht, hv, hd⟩ := dZ h7 hL
  obtain rfl:=Option.some.inj ((show prog.globalNamed "intrusion/certificate.integer" = some 3 by kernel_rfl).symm.trans hg)
  obtain rfl:=Option.some.inj ((show (prog.globals[3]?).map (·.type)=some 46 by kernel_rfl).symm.trans ht)
  have:=oZ hg hv
  rw [fN rfl hd] at this
  exact this
 ·obtain ⟨g, t, cs, fuel, p, hg, ht, hv, hd⟩ := dZ h13 hL
  obtain rfl:=Option.some.inj ((show prog.globalNamed "intrusion/certificate.hostName" = some 4 by kernel_rfl).symm.trans hg)
  obtain rfl:=Option.some.inj ((show (prog.globals[4]?).map (·.type)=some 46 by kernel_rfl).symm.trans ht)
  have:=oZ hg hv
  rw [fN rfl hd] at this
  exact this
 ·obtain ⟨g, t, cs, fuel, p, hg, ht, hv, hd⟩ := dZ h10 hL
  obtain rfl:=Option.some.inj ((show prog.globalNamed "intrusion/certificate.truth" = some 5 by kernel_rfl).symm.trans hg)
  obtain rfl:=Option.some.inj ((show (prog.globals[5]?).map (·.type)=some 46 by kernel_rfl).symm.trans ht)
  have:=oZ hg hv
  rw [fN rfl hd] at this
  exact this
 ·obtain ⟨g, t, cs, fuel, p, hg, ht, hv, hd⟩ := dZ h12 hL
  obtain rfl:=Option.some.inj ((show prog.globalNamed "intrusion/certificate.extension" = some 6 by kernel_rfl).symm.trans hg)
  obtain rfl:=Option.some.inj ((show (prog.globals[6]?).map (·.type)=some 46 by kernel_rfl).symm.trans ht)
  have:=oZ hg hv
  rw [fN rfl hd] at this
  exact this
 ·obtain ⟨g, t, cs, fuel, p, hg, ht, hv, hd⟩ := dZ h8 hL
  obtain rfl:=Option.some.inj ((show prog.globalNamed "intrusion/certificate.octets" = some 9 by kernel_rfl).symm.trans hg)
  obtain rfl:=Option.some.inj ((show (prog.globals[9]?).map (·.type)=some 46 by kernel_rfl).symm.trans ht)
  have:=oZ hg hv
  rw [fN rfl hd] at this
  exact this
end
end Go.Proofs.YtcdkpkkdolmfdaaGreatDoor
namespace Go.Proofs.YtcdkpkkdolmfdaaGreatDoor
open Go.GAM Go.RowKit
theorem aAZ:∀ l:List Att,(∀ a∈l,oP a.1=true)→3 * l.length≤(gN l).length+1∧(l.map fun a=>a.2.length).sum≤(gN l).length
 | [],_=>by simp
 | [a], h => by
  have h1:=h a (by simp)
  have h2:1≤a.1.length:=by rcases fI h1 with e | e | e | e <;> rw [e] <;> simp
  have h3:=iK uF a.2
  rw [oJ]
  unfold eJ
  simp only [List.length_append,List.length_cons,List.length_nil,List.map_cons,List.map_nil,List.sum_cons,List.sum_nil]
  omega
 | a :: b :: l, h => by
  have h1:=h a (by simp)
  have h2:1≤a.1.length:=by rcases fI h1 with e | e | e | e <;> rw [e] <;> simp
  have h3:=iK uF a.2
  obtain ⟨i1,i2⟩:=aAZ (b :: l) fun x hx=>h x (by simp [hx])
  rw [jK]
  unfold eJ
  simp only [List.length_append,List.length_cons,List.length_nil,List.map_cons,List.sum_cons] at *
  omega
theorem aLC (l:List Att):szs (l.map setA)=4 * l.length:=by
 induction l with
 | nil=>rfl
 | cons a l ih =>
  show (setA a).sz+szs (l.map setA)=_
  rw [ih]
  simp only [setA,Der.sz,szs,List.length_cons]; omega
theorem aL1 (l:List Att) (h:∀ a∈l,oP a.1=true):dE (l.map setA)≤50 * l.length+(l.map fun a=>a.2.length).sum:=by
 induction l with
 | nil=>simp [dE]
 | cons a l ih =>
  have h1:=(aK3 (h a (by simp))).2.2
  have ih:=ih fun x hx=>h x (by simp [hx])
  show fG (setA a)+dE (l.map setA)≤_
  simp only [setA,fG,dE,List.length_cons,List.length_nil,List.map_cons,List.sum_cons] at *
  omega
theorem aF6 {s : List UInt8} (h : (bK s).2 = 0) : (bK s).1.sz ≤ 1000 ∧ fG (bK s).1 ≤ 10000 := by
 have hl:s.length≤512:=by
  unfold bK at h
  by_cases hl:512<s.length
  ·rw [if_pos hl] at h; cases h
  ·omega
 cases ha:rY s with
 | none=>rw [aHW hl ha] at h; cases h
 | some l =>
  obtain ⟨e,hok,_⟩:=aIA hl ha
  rw [e]
  have hr:(gN l).length≤512∨l=[]:=by
   unfold rY at ha
   by_cases hn:s=[]
   ·rw [if_pos hn] at ha; cases ha; exact .inr rfl
   ·rw [if_neg hn] at ha
    rw [(nF _ _ _ ha).1] at hl; exact .inl hl
  have h1:=aLC l
  have h2:=aL1 l hok
  obtain ⟨g1,g2⟩:=aAZ l hok
  show (hC (l.map setA)).sz≤1000∧fG (hC (l.map setA))≤10000
  unfold hC
  simp only [Der.sz,fG,List.length_nil]
  rcases hr with hr | rfl
  ·omega
  ·simp [szs,dE]
structure CSm (c:eH):Prop where
 n:c.names.length≤20
 s:∀ x∈c.names,x.length≤1000
 i:c.issuer.length≤1000000
 j:c.subject.length≤1000000
theorem aN0 (l:List (List UInt8)):szs (l.map fun n=>dW 2 2 n)=l.length:=by
 induction l with
 | nil=>rfl
 | cons a l ih =>
  show (dW 2 2 a).sz+szs (l.map fun n=>dW 2 2 n)=_
  rw [ih]; simp only [dW,Der.sz,szs,List.length_cons]; omega
theorem aOG (l:List (List UInt8)) (h:∀ x∈l,x.length≤1000):dE (l.map fun n=>dW 2 2 n)≤1010 * l.length:=by
 induction l with
 | nil=>simp [dE]
 | cons a l ih =>
  have h1:=h a (by simp)
  have ih:=ih fun x hx=>h x (by simp [hx])
  show fG (dW 2 2 a)+dE (l.map fun n=>dW 2 2 n)≤_
  rw [show fG (dW 2 2 a)=a.length+10+0 from rfl,List.length_cons]; omega
theorem aFW {d:Der} {s:List UInt8} (h:gE d = .ok s):s.length≤fG d:=by
 have:=k8 d
 rw [(o8 h).1]; exact this
theorem aLM:(dG pG).length≤20∧(dG altOid).length≤20∧(dG basOid).length≤20:=by
 refine ⟨?_, ?_, ?_⟩ <;> decide +kernel
theorem aAO:∀ a b:List Der,szs (a++b)=szs a+szs b
 | [],b=>by simp [szs]
 | k :: a,b=>by simp only [List.cons_append,szs,aAO a b]; omega
theorem aLE {s l:List UInt8} (h:cX s=some l):l.length≤40:=by
 have h1:=(sW h).1
 have h2:=uI l
 rw [h1] at h2
 unfold cX at h
 split at h
 ·cases h
 ·rename_i e
  have:s.length≤40:=by
   rcases Nat.lt_or_ge 40 s.length with hh | hh
   ·exact absurd (.inr (.inr hh)) e
   ·exact hh
  omega
theorem BOK.of {c : eH} {f u : Der} (hs : CSm c) (ht : gF c = 0 → mU c.frm f ∧ mU c.til u) : BOK c f u := by
 obtain ⟨a1,a2,a3⟩:=aLM
 have hsz:=aN0 c.names
 have hds:=aOG c.names hs.s
 have hn:=hs.n
 refine { n:=by omega,s:=fun x hx=>by have:=hs.s x hx; omega,i:=by have:=hs.i; omega,j:=by have:=hs.j; omega,t:=ht,a:=?_,ad:=?_,z:=fun hc a b ha hb=>?_,nl:=by omega }
 ·show 1 + szs (c.names.map fun n => dW 2 2 n) ≤ 100000
  omega
 ·show ([] : List UInt8).length + 10 + dE (c.names.map fun n => dW 2 2 n) ≤ 60000
  simp only [List.length_nil]; omega
 ·obtain ⟨tf, tu'⟩ := ht hc
  obtain ⟨_,_,_,_,g1,s1,_,_,_,_,f1,l1⟩:=tf.leaf
  obtain ⟨_,_,_,_,g2,s2,_,_,_,_,f2,l2⟩:=tu'.leaf
  have hk:=aFG hc
  have hnm:(bK c.issuer).2=0∧(bK c.subject).2=0:=by
   unfold gF at hc
   split at hc
   ·cases hc
   ·split at hc
    ·cases hc
    ·rename_i hx
     rw [not_or] at hx
     exact ⟨by simpa using hx.1,by simpa using hx.2⟩
  obtain ⟨i1,i2⟩:=aF6 hnm.1
  obtain ⟨j1,j2⟩:=aF6 hnm.2
  have hser:((cX c.serial).getD []).length≤40:=by
   cases hx:cX c.serial with
   | none=>simp
   | some l=>exact aLE hx
  have hext:szs (a++b)≤6∧dE (a++b)≤30000:=by
   have ha':szs a≤3∧dE a≤25000:=by
    unfold tI at ha
    split at ha
    ·cases ha; simp [szs,dE]
    ·split at ha
     ·cases ha
     ·rename_i s hx
      cases ha
      have:=aFW hx
      have e:fG (zK c.names)=0+10+dE (c.names.map fun n=>dW 2 2 n):=rfl
      simp only [kU,mN,dW,fD,szs,Der.sz,dE,fG,List.length_nil]
      omega
   have hb':szs b≤3∧dE b≤200:=by
    unfold tB at hb
    split at hb
    ·split at hb
     ·cases hb
     ·rename_i s hx
      cases hb
      have:=aFW hx
      have e:fG xM=21:=by decide
      simp only [kU,mN,dW,fD,szs,Der.sz,dE,fG,List.length_nil]
      omega
    ·cases hb; simp [szs,dE]
   rw [aAO,oH]; omega
  have hmore:szs (gJ (a++b))≤8∧dE (gJ (a++b))≤30020:=by
   unfold gJ
   split
   ·simp [szs,dE]
   ·simp only [fD,szs,Der.sz,dE,fG,List.length_nil]; omega
  have ht8:((c.key++z8b).take 8).length≤8:=by rw [List.length_take]; omega
  refine ⟨by omega, ?_, ?_⟩
  ·simp only [fD, dW, oQ, mN, Der.sz, szs, aAO, lM, f1, f2]
   omega
  ·simp only [fD, dW, oQ, mN, fG, dE, oH, lM, f1, f2, List.length_nil, List.length_cons]
   omega
def xO:eH:=⟨[48,48],[67,78,61,97,44,79,61,98],[67,78,61,120],5,2600000000,[[120],[42,46,121]],true,[107,101,121]⟩
def aMQ:Der:=qX 1970 1 0 5
def aM4:Der:=qX 2052 5 21 51200
theorem aIM:mU xO.frm aMQ∧mU xO.til aM4:=
 ⟨⟨5,1970,1,0,rfl,by decide,⟨by decide,by decide +kernel,by decide +kernel,by decide,by decide,by decide +kernel,by decide +kernel⟩,rfl⟩,⟨2600000000,2052,5,21,rfl,by decide,⟨by decide,by decide +kernel,by decide +kernel,by decide,by decide,by decide +kernel,by decide +kernel⟩,rfl⟩⟩
theorem aNL:CSm xO:=⟨by decide,by decide,by decide,by decide⟩
def aQC:Except Int (List UInt8)→Option (List UInt8)
 | .ok l=>some l
 | .error _=>none
theorem aPJ:(aQC (lT xO aMQ aM4)).isSome=true:=by kernel_rfl
theorem aOC:∃ l,lT xO aMQ aM4 = .ok l∧mJ l = .ok xO:=by
 have h:=aPJ
 cases hb:lT xO aMQ aM4 with
 | error e=>rw [hb] at h; cases h
 | ok l=>exact ⟨l,rfl,round aIM.1 aIM.2 hb⟩
end Go.Proofs.YtcdkpkkdolmfdaaGreatDoor
namespace Go.Proofs.YtcdkpkkdolmfdaaGreatDoor
open Go.GAM Go.RowKit
section
variable {h:aA} {Q:AV→aA→Prop}
theorem aCQ (hq:∀ cs h',Upd (fun _=>False) h h'→CV h' xO cs→Q (.ag cs) h'):C Y85.id [] h Q:=by
 refine Y85.call ?_
 simp only [Y85.t]
 refine b5 (n:=8) rfl fun h1 hl1 U1 R1=>?_
 refine eQ (cs:=[.s [120],.s [42,46,121]]) rfl rfl fun v h2 hl2 U2 R2 F2=>?_
 obtain ⟨aa,nn,kk,rfl⟩:=R2.i.isSl
 refine aP2 (cs:=jU xO (.sl aa nn kk)) rfl ?_
 refine aW (R1.upd U2 fun h=>h) rfl rfl rfl fun h3 hl3 U3 R3=>aT R3 rfl (.inl (hq _ h3 ((U1.then U2).own U3 (Nat.le_refl _)) ⟨_,rfl,R2.i.upd U3 fun i hi e=>?_⟩))
 have:=F2 i hi
 omega
theorem aLR:bK [67,78,61,97,61,98]=(.zero,5):=by
 have:(bK [67,78,61,97,61,98]).2=5:=by kernel_rfl
 unfold bK at this ⊢
 rw [if_neg (by decide),if_neg (by decide)] at this ⊢
 split at this
 ·cases this
 ·rename_i hx; rw [if_neg hx]
theorem aN8:zO [79,61,120,44,67,78,61,97,92,44,98]=[97,44,98]:=by kernel_rfl
theorem aAP (G:CG2 h) (hq:∀ h',Upd (fun _=>False) h h'→Q (.b true) h'):C Y53.id [] h Q:=by
 refine Y53.call ?_
 simp only [Y53.t, ← Y53.p0.eq_1]
 obtain ⟨l,hb,hp⟩:=aOC
 refine aCQ fun cs1 h1 U1 V1=>?_
 refine aAQ (G.up U1) V1 (BOK.of aNL fun _=>aIM) ?_
 rw [hb]
 refine aY (bA (aZ (aQ ?_)))
 refine aFV (G.up U1) ?_
 rw [hp]
 intro cs2 h2 U2 V2
 refine aY (aZ (aQ (b5 (n:=8) rfl fun h3 hl3 U3 R3=>aW R3 rfl V2.len V2.ok fun h4 hl4 U4 R4=>?_)))
 have U24:Upd (fun _=>False) h2 h4:=U3.own U4 (Nat.le_refl _)
 have W4:=(U1.then U2).then U24
 refine lK (G.up W4).g (by decide) ?_
 rw [aLR]
 intro h5 cs5 U5 D5
 refine aY (aZ (aQ (b5 (n:=5) rfl fun h6 hl6 U6 R6=>aW R6 rfl D5.len D5.cells' fun h7 hl7 U7 R7=>?_)))
 have U57:Upd (fun _=>False) h5 h7:=U6.own U7 (Nat.le_refl _)
 have U47:=U5.then U57
 have W7:=W4.then U47
 have R47:=R4.upd U47 fun h=>h
 refine aO rfl (aO rfl (aT R47 V2.len.symm ?_))
 refine aCQ fun cs8 h8 U8 V8=>?_
 have R48:=R47.upd U8 fun h=>h
 refine aT R48 V2.len.symm ⟨rfl, ?_⟩
 refine zW (c:=xO) (V2.ext (U24.then (U47.then U8))) V8 (by decide) (aS (aO rfl ?_))
 refine aIX (G.up (W7.then U8)).g (by decide) ?_
 rw [aN8]
 refine bA (aT R48 V2.len.symm ⟨rfl,aO (by decide) ?_⟩)
 refine Y53.i0 ?_
 simp only [Y53.t0]
 exact .inl (hq h8 (W7.then U8))
end
end Go.Proofs.YtcdkpkkdolmfdaaGreatDoor
namespace Go.Proofs.YtcdkpkkdolmfdaaGreatDoor
open Go.GAM Go.RowKit Go.ChangeShapes
mutual
def bdV:Der→Prop
 | .mk _ _ _ s ks=>(s.length≤9223372036854775807∧ks.length≤9223372036854775807)∧bdK ks
def bdK:List Der→Prop
 | []=>True
 | k :: r=>bdV k∧bdK r
end
mutual
def fS (left:Int):Der→Int
 | .mk _ _ _ s ks=>iP (left - 1 - ((s.length / 10:Nat):Int)) ks
def iP (left:Int):List Der→Int
 | []=>left
 | k :: r=>if 0<left then iP (fS left k) r else left
end
mutual
def qS:Der→Nat
 | .mk _ _ _ s ks=>1+s.length / 10+qG ks
def qG:List Der→Nat
 | []=>0
 | k :: r=>qS k+qG r
end
theorem aFM : ∀ m, (∀ (d : Der) (left : Int), d.sz ≤ m → 0 < left → left ≤ 300 → bdV d → -1000000000000000000 ≤ fS left d ∧ fS left d ≤ left ∧ (0 < fS left d → fS left d = left - qS d)) ∧
  (∀ (ks:List Der) (left:Int),szs ks≤m → -1000000000000000000≤left→left≤300→bdK ks → -1000000000000000000≤iP left ks∧iP left ks≤left∧(0<iP left ks→iP left ks=left - qG ks)):=by
 intro m
 induction m with
 | zero =>
  refine ⟨fun d left hd=>absurd hd (by have:=dU d; omega),fun ks left hk h1 h2 _=>?_⟩
  cases ks with
  | nil=>unfold iP qG; omega
  | cons k r=>have:=dU k; unfold szs at hk; omega
 | succ m ih =>
  have hV:∀ (d:Der) (left:Int),d.sz≤m+1→0<left→left≤300→bdV d → -1000000000000000000≤fS left d∧fS left d≤left∧(0<fS left d→fS left d=left - qS d):=by
   intro d left hd h0 h3 hb
   obtain ⟨c,t,mm,s,ks⟩:=d
   unfold Der.sz at hd
   unfold bdV at hb
   unfold fS qS
   have:=ih.2 ks (left - 1 - ((s.length / 10:Nat):Int)) (by omega) (by omega) (by omega) hb.2
   omega
  refine ⟨hV,fun ks=>?_⟩
  induction ks with
  | nil=>intro left _ h1 h2 _; unfold iP qG; omega
  | cons k r ihr =>
   intro left hk h1 h2 hb
   unfold szs at hk
   unfold bdK at hb
   unfold iP qG
   by_cases h:0<left
   ·rw [if_pos h]
    have a:=hV k left (by omega) h h2 hb.1
    have b:=ihr (fS left k) (by omega) a.1 (by omega) hb.2
    refine ⟨b.1,by omega,fun hp=>?_⟩
    have:=b.2.2 hp
    have:=a.2.2 (by omega)
    omega
   ·rw [if_neg h]; omega
theorem aNY:∀ m,(∀ d:Der,d.sz≤m→d.sz≤qS d∧fG d≤20 * qS d)∧∀ ks:List Der,szs ks≤m→szs ks≤qG ks∧dE ks≤20 * qG ks:=by
 intro m
 induction m with
 | zero =>
  refine ⟨fun d hd=>absurd hd (by have:=dU d; omega),fun ks hk=>?_⟩
  cases ks with
  | nil=>simp [szs,dE]
  | cons k r=>have:=dU k; unfold szs at hk; omega
 | succ m ih =>
  have hV:∀ d:Der,d.sz≤m+1→d.sz≤qS d∧fG d≤20 * qS d:=by
   intro d hd
   obtain ⟨c,t,mm,s,ks⟩:=d
   unfold Der.sz at hd
   have:=ih.2 ks (by omega)
   unfold Der.sz qS fG
   omega
  refine ⟨hV,fun ks=>?_⟩
  induction ks with
  | nil=>intro _; simp [szs,dE]
  | cons k r ihr =>
   intro hk
   unfold szs at hk
   have:=hV k (by omega)
   have:=ihr (by omega)
   unfold szs dE qG; omega
theorem aCI {d:Der} (hb:bdV d) (h:0<fS 300 d):d.sz≤300∧fG d≤6000:=by
 have h1:=((aFM d.sz).1 d 300 (Nat.le_refl _) (by omega) (by omega) hb).2.2 h
 have h2:=(aNY d.sz).1 d (Nat.le_refl _)
 omega
theorem aDJ : ∀ m, ∀ (d : Der) (cs : List AV) (F : Nat → Prop) (left : Int) (h : aA) (Q : AV → aA → Prop), d.sz ≤ m → 0 < left → left ≤ 300 → bdV d → DV h F d cs → Q (.i .i64 (fS left d)) h → C Y34.id [.ag cs, .i .i64 left] h Q := by
 intro m
 induction m with
 | zero=>intro d cs F left h Q hd; have:=dU d; omega
 | succ m ih =>
  intro d cs F left h Q hd h0 h3 hb D hq
  refine Y34.call ?_
  simp only [Y34.t, ← Y34.p0.eq_1]
  refine D.box fun h1 hl1 U1 R1 D1=>?_
  obtain ⟨w,rs,g1,g2,g3,g4,g5⟩:=D1.kidsLen
  have L:KL h1 F w d.kids rs:=⟨g2,g3,fun i hi=>(g5 i hi).1⟩
  have ld4:∀ K:AV→Prop,aE (.p (some ⟨h.length,5,4⟩)) h1 K=K w:=fun K=>fL R1 D1.len.symm g1
  have ld3:∀ K:AV→Prop,aE (.p (some ⟨h.length,5,3⟩)) h1 K=K (.s d.data):=fun K=>fL R1 D1.len.symm D1.dat
  obtain ⟨c,t,mm,s,ks⟩:=d
  unfold bdV at hb
  unfold fS at hq
  have hsz:1+szs ks≤m+1:=by unfold Der.sz at hd; exact hd
  have hkl:ks.length≤9223372036854775807:=hb.1.2
  have loop:∀ (r:List Der) (i:Nat) (x:Int),ks.drop i=r → -1000000000000000000≤x→x≤300→bdK r→Q (.i .i64 (iP x r)) h→Y34.p0 (aL h Q) x (.p (some ⟨h.length,5,0⟩)) i h1:=by
   intro r
   induction r with
   | nil =>
    intro i x hr hx1 hx2 _ hk
    have hi:=cA hr
    unfold iP at hk
    refine Y34.i0 ?_
    simp only [Y34.t0, ← Y34.p1.eq_1]
    simp only [dC,Nat.zero_add,ld4,L.rd.plen]
    have hki:(Der.mk c t mm s ks).kids=ks:=rfl
    rw [hki]
    refine aN (by simp; omega) ?_
    refine Y34.i1 ?_
    simp only [Y34.t1]
    exact aN rfl (aU rfl U1.ext hk)
   | cons k r ihr =>
    intro i x hr hx1 hx2 hbr hk
    have hlt:=cG hr
    have hki:=b4 hr
    unfold iP at hk
    unfold bdK at hbr
    have hkm:=mB (List.mem_of_getElem? hki)
    have hsl:=lY ks
    obtain ⟨rk,A⟩:=L.at (i:=i) (k:=k) hki
    have u:=Upd.refl (fun _=>False) h1
    refine Y34.i0 ?_
    simp only [Y34.t0, ← Y34.p1.eq_1]
    simp only [dC,Nat.zero_add,ld4,L.rd.plen]
    refine aO (by simp; exact hlt) ?_
    refine Y34.i1 ?_
    simp only [Y34.t1, ← Y34.p0.eq_1]
    by_cases hx:0<x
    ·rw [if_pos hx] at hk
     refine aO (decide_eq_true hx) ?_
     simp only [dC,Nat.zero_add,ld4,A.idx h1 u,A.ld h1 u]
     have a:=(aFM k.sz).1 k x (Nat.le_refl _) hx hx2 hbr.1
     exact ih k rk F x h1 _ (by omega) hx hx2 hbr.1 A.dv (aQ (inc (by omega) (ihr (i+1) _ (b3 hr) a.1 (by omega) hbr.2 hk)))
    ·rw [if_neg hx] at hk
     exact aN (decide_eq_false hx) (aU rfl U1.ext hk)
  refine aI (n:=left - 1) (aJ (by omega) (by omega)) ?_
  simp only [dC,Nat.zero_add,ld3,cI]
  have hs:s.length≤9223372036854775807:=hb.1.1
  have hks:ks.length≤9223372036854775807:=hb.1.2
  refine j3 (a:=s.length) (b:=10) (by omega) (by omega) ?_
  refine aI (n:=left - 1 - ((s.length / 10:Nat):Int)) (aJ (by omega) (by omega)) ?_
  exact loop ks 0 _ rfl (by omega) (by omega) hb.2 hq
theorem aEV {d:Der} {cs:List AV} {F:Nat→Prop} {h:aA} {Q:AV→aA→Prop} (hb:bdV d) (D:DV h F d cs) (hq:Q (.i .i64 (fS 300 d)) h):C Y34.id [.ag cs,.i .i64 300] h Q:=
 aDJ d.sz d cs F 300 h Q (Nat.le_refl _) (by omega) (by omega) hb D hq
end Go.Proofs.YtcdkpkkdolmfdaaGreatDoor
namespace Go.GAM
open Go.RowKit Go.ChangeShapes
section
variable {H:Type} {enc:TypeId × Value→H} {P:Program} {w:World} {szOf:Nat→Nat}
theorem aGE {t e : TypeId} {fuel : Nat} {cs : List Value} {x : DataW H × List MemPlace} (ht : P.underlying t = some (.slice e)) (h : DataW.trod enc P w 0 (fun _ => true) true fuel t cs = some x) :
  cs=[.slice none 0 0]∨∃ (a:Addr) (len cap n:Nat) (rows:List (List Value)),fuel=n+1∧cs=[.slice (some a) len cap]∧len≤cap∧cap≤maxLen∧rows.length=cap ∧
   (∀ r∈rows,r.length=P.cellsOf e∧∃ y,DataW.trod enc P w 0 (fun _=>true) true n e r=some y)∧∀ i,i<rows.flatten.length→w.cell? (a.add i)=some (rows.flatten.getD i undef):=by
 rcases DataW.trod_slice ht h with ⟨h0,_⟩ | ⟨a,len,cap,elems,rest,n,hf,rfl,_,hb,hl,hm,hlen,hel,hsp,hns⟩
 ·exact .inl h0
 right
 have each:∀ i,i<cap→∃ r,w.cells? 0 (a.add (i * P.cellsOf e)) (P.cellsOf e)=some r∧∃ y,DataW.trod enc P w 0 (fun _=>true) true n e r=some y:=by
  intro i hi
  have hb':∃ y,(w.cells? 0 (a.add (i * P.cellsOf e)) (P.cellsOf e)).bind (DataW.trod enc P w 0 (fun _=>true) true n e)=some y:=by
   by_cases h1:i<len
   ·rw [hel i h1]
    exact ⟨_,List.getElem?_eq_getElem (by omega)⟩
   ·obtain ⟨h2, h3⟩ := hsp rfl
    have:=h3 (i - len) (by omega)
    rw [show len+(i - len)=i by omega] at this
    rw [this]
    exact ⟨_,List.getElem?_eq_getElem (by omega)⟩
  obtain ⟨y,hy⟩:=hb'
  obtain ⟨r,h1,h2⟩:=Option.bind_eq_some_iff.1 hy
  exact ⟨r,h1,y,h2⟩
 refine ⟨a,len,cap,n,(List.range cap).map fun i=>(w.cells? 0 (a.add (i * P.cellsOf e)) (P.cellsOf e)).getD [],hf,rfl,hl,hm,by simp, ?_, ?_⟩
 ·intro r hr
  obtain ⟨i,hi,rfl⟩:=List.mem_map.1 hr
  obtain ⟨r,h1,y,h2⟩:=each i (by simpa using hi)
  rw [h1]
  exact ⟨(World.cells?_some h1).2.1,y,h2⟩
 ·have := pE (w := w) (a := a) (sz := P.cellsOf e) ((List.range cap).map fun i => (w.cells? 0 (a.add (i * P.cellsOf e)) (P.cellsOf e)).getD []) 0 (fun i r hi => by
   simp only [List.getElem?_map,Option.map_eq_some_iff] at hi
   obtain ⟨i',hi',rfl⟩:=hi
   obtain ⟨hlt,rfl⟩:=List.getElem?_eq_some_iff.1 hi'
   rw [List.getElem_range]
   obtain ⟨r,h1,_⟩:=each i (by simpa using hlt)
   rw [h1]
   have hs:=World.cells?_some h1
   refine ⟨hs.2.1,fun j hj=>?_⟩
   have:=hs.2.2 j hj
   rw [Addr.add_add] at this
   rw [Nat.zero_add,this]
   simp [hs.2.1,hj])
  simpa using this
end
end Go.GAM
namespace Go.Proofs.YtcdkpkkdolmfdaaGreatDoor
open Go.GAM Go.RowKit Go.ChangeShapes
def inW (w:World) (i:Nat):Prop:=i<w.heap.size+1
theorem aIK {w:World}:∀ (rows:List (List Value)),(∀ r∈rows, ∃ d:Der,DV (hW w) (inW w) d (r.map (iY w fun _=>1))∧bdV d)→∃ ks:List Der,DVs (hW w) (inW w) ks (rows.map (·.map (iY w fun _=>1)))∧bdK ks
 | [],_=>⟨[],.nil,trivial⟩
 | r :: rows, h => by
  obtain ⟨d,hd,hb⟩:=h r (by simp)
  obtain ⟨ks,hk,hbk⟩:=aIK rows fun r hr=>h r (by simp [hr])
  exact ⟨d :: ks,.cons hd hk,by unfold bdK; exact ⟨hb,hbk⟩⟩
theorem aLL {H : Type} {enc : TypeId × Value → H} {w : World} : ∀ (fuel : Nat) (cs : List Value) (x : DataW H × List MemPlace), DataW.trod enc prog w 0 (fun _ => true) true fuel 33 cs = some x → cs.length = 5 ∧ ∃ d : Der, DV (hW w) (inW w) d (cs.map (iY w fun _ => 1)) ∧ bdV d := by
 intro fuel
 induction fuel with
 | zero=>intro cs x h; simp [DataW.trod] at h
 | succ fuel ih =>
  intro cs x h
  obtain ⟨xs,n,hn,_,hlen,hl,hf⟩:=DataW.trod_struct Tryz.underlying33 h
  have c25:prog.cellsOf 33=5:=by kernel_rfl
  have c3:prog.cellsOf 3=1:=by kernel_rfl
  have c4:prog.cellsOf 4=1:=by kernel_rfl
  have c9:prog.cellsOf 9=1:=by kernel_rfl
  have c23:prog.cellsOf 31=1:=by kernel_rfl
  rw [c25] at hlen
  refine ⟨hlen, ?_⟩
  have hn:fuel=n:=by omega
  subst hn
  match cs,hlen with
  | [v0, v1, v2, v3, v4], _ =>
   have hxl:xs.length=5:=hl
   have f0:DataW.trod enc prog w 0 (fun _=>true) true fuel 3 (([v0,v1,v2,v3,v4].drop 0).take (prog.cellsOf 3))=xs[0]?:=hf 0 _ rfl
   rw [c3] at f0
   have f1:DataW.trod enc prog w 0 (fun _=>true) true fuel 3 (([v0,v1,v2,v3,v4].drop 1).take (prog.cellsOf 3))=xs[1]?:=hf 1 _ rfl
   rw [c3] at f1
   have f2:DataW.trod enc prog w 0 (fun _=>true) true fuel 4 (([v0,v1,v2,v3,v4].drop 2).take (prog.cellsOf 4))=xs[2]?:=hf 2 _ rfl
   rw [c4] at f2
   have f3:DataW.trod enc prog w 0 (fun _=>true) true fuel 9 (([v0,v1,v2,v3,v4].drop 3).take (prog.cellsOf 9))=xs[3]?:=hf 3 _ rfl
   rw [c9] at f3
   have f4:DataW.trod enc prog w 0 (fun _=>true) true fuel 31 (([v0,v1,v2,v3,v4].drop 4).take (prog.cellsOf 31))=xs[4]?:=hf 4 _ rfl
   rw [c23] at f4
   rw [List.getElem?_eq_getElem (by omega)] at f0 f1 f2 f3 f4
   obtain ⟨a,e0,_,_⟩:=DataW.trod_int (show prog.underlying 3=some (.int .i64) by kernel_rfl) f0
   obtain ⟨b,e1,_,_⟩:=DataW.trod_int (show prog.underlying 3=some (.int .i64) by kernel_rfl) f1
   obtain ⟨m,e2,_⟩:=DataW.trod_bool Tryz.underlying4 f2
   obtain ⟨s,e3,_,hsm⟩:=DataW.trod_string Tryz.underlying9 f3
   have hsl:s.data.toList.length≤maxLen:=by simpa using hsm
   have g0:v0 = .int .i64 a:=List.singleton_inj.1 e0
   have g1:v1 = .int .i64 b:=List.singleton_inj.1 e1
   have g2:v2 = .bool m:=List.singleton_inj.1 e2
   have g3:v3 = .string s:=List.singleton_inj.1 e3
   subst g0 g1 g2 g3
   rcases aGE Tryz.underlying31 f4 with h0 | ⟨x,len,cap,n,rows,hfn,h0,hlc,hcm,hrl,hr,hcell⟩
   ·have h0 : v4 = .slice none 0 0 := List.singleton_inj.1 h0
    subst h0
    exact ⟨.mk a b m s.data.toList [],.mk .nil (.inl (.inl ⟨rfl,rfl,rfl⟩)) (fun i hi=>hi.elim) rfl,by unfold bdV bdK; exact ⟨⟨hsl,by simp⟩,trivial⟩⟩
   ·have h0 : v4 = .slice (some x) len cap := List.singleton_inj.1 h0
    subst h0
    by_cases hc0:cap=0
    ·subst hc0
     have hl0:len=0:=by omega
     subst hl0
     refine ⟨.mk a b m s.data.toList [], ?_,by unfold bdV bdK; exact ⟨⟨hsl,by simp⟩,trivial⟩⟩
     have e:iY w (fun _=>1) (.slice (some x) 0 0) = .sl (some ⟨w.heap.size,0,0⟩) 0 (some 0):=by simp [iY,oY]
     show DV _ _ _ [_,_,_,_,iY w (fun _=>1) (.slice (some x) 0 0)]
     rw [e]
     refine .mk .nil (.inr ⟨rfl,rfl,_,_,rfl⟩) (fun i hi=>?_) rfl
     have hi:w.heap.size=i:=hi
     subst hi
     exact ⟨Nat.lt_succ_self _,by unfold hW; rw [kX]; omega⟩
    ·have hrow5 := wC rows fun r hr' => (hr r hr').1.trans c25
     obtain ⟨ver,blk,h1,h2,h3⟩:=aA9 (w:=w) (szOf:=fun _=>1) (sz:=5) hlc hc0 (by decide) (.inr rfl) (by rw [hrow5,hrl]) hcell
     rw [rT rows len fun r hr'=>(hr r hr').1.trans c25] at h2
     obtain ⟨ks,hks,hbk⟩:=aIK (w:=w) (rows.take len) fun r hr'=>by
      obtain ⟨_,y,hy⟩:=hr r (List.mem_of_mem_take hr')
      exact (ih r y (DataW.trod_le (by omega) hy)).2
     have hl5:(rows.take len).length=len:=by rw [List.length_take,hrl]; omega
     have hkl:=hks.length
     rw [List.length_map,hl5] at hkl
     refine ⟨.mk a b m s.data.toList ks, ?_,by unfold bdV; exact ⟨⟨hsl,by have:maxLen=9223372036854775807:=rfl; omega⟩,hbk⟩⟩
     show DV _ _ _ [_,_,_,_,iY w (fun _=>1) (.slice (some x) len cap)]
     rw [h1]
     have hrd:=h2.rd (some cap)
     refine .mk hks (.inl ?_) (fun i hi=>?_) rfl
     ·rw [List.length_map, hl5, ← List.map_flatten]
      exact hrd
     ·have hi : x.block = i := hi
      subst hi
      have:=h2.lt
      rw [kX] at this
      exact ⟨this,by unfold hW; rw [kX]; exact this⟩
theorem aLT {H:Type} {enc:TypeId × Value→H} {w:World} {v:Value} {d:DataW H} {p:List MemPlace} (k:DataW.Trod enc prog w 0 (fun _=>true) true 33 v d p) :
  ∃ (cs:List AV) (x:Der),bG (muC w fun _=>1) (.ag cs) v∧DV (hW w) (inW w) x cs∧bdV x:=by
 obtain ⟨fuel,h⟩:=k
 obtain ⟨h5,x,hx,hb⟩:=aLL fuel _ _ h
 cases v with
 | agg cs=>exact ⟨_,x,.ag _ _ (by
   have:∀ vs:List Value,bO (muC w fun _=>1) (vs.map (iY w fun _=>1)) vs:=yX
   exact this _),hx,hb⟩
 | _=>simp [Value.cells] at h5
end Go.Proofs.YtcdkpkkdolmfdaaGreatDoor
set_option maxRecDepth 100000
namespace Go.Proofs.YtcdkpkkdolmfdaaGreatDoor
open Go.GAM
variable [XR]
noncomputable def Y36.body:Code:=(Tryz.f4.body).getD .skip
def Y36.ann:Ann:=(sl [1] (sq [1] (sl [1,11] (.br (sl [2] lf) lf)) (sl [3,4] (sq [3] (.seq 1 [3,24] lf (.br (sl [2] lf) lf)) (sl [3,5,6] (sl [5,6,7,8] (.seq 2 [2] lf lf)))))))
theorem Y36.dist:aV (places Y36.ann Y36.body)=true:=by kernel_rfl
noncomputable def Y36.J (Q:AV→aA→Prop):JT:=bY prog C Tryz.f4 Y36.ann Y36.body Q
def Y36.p0 (Q:AV→aA→Prop) (x3:List UInt8) (x24:Bool) (h:aA):Prop:=Y36.J Q 1 [(3,(AV.s x3)),(24,(AV.b x24))] h
def Y36.p1 (Q:AV→aA→Prop) (x2:Bool) (h:aA):Prop:=Y36.J Q 2 [(2,(AV.b x2))] h
def Y36.t0 (Q:AV→aA→Prop) (x3:List UInt8) (x24:Bool) (h:aA) (J:JT):Prop:=
(bif x24 then
(C Y53.id [] h fun v23 h24=>
asB v23 fun c25=>
Q (AV.b c25) h24)
else
(C Y46.id [(AV.s x3)] h fun v28 h29=>
aH 0 v28 fun v30=>
aH 1 v28 fun v31=>
asI .i64 v31 fun n32=>
bS (some 25) [(AV.s []),(AV.s []),(AV.s []),(AV.i .i64 0),(AV.i .i64 0),(AV.sl none 0 none),(AV.b false),(AV.s [])] h29 fun v33 h34=>
aP 8 v33 v30 h34 fun h35=>
C Y50.id [(AV.s x3)] h35 fun v37 h38=>
aH 0 v37 fun v39=>
aH 1 v37 fun v40=>
asI .i64 v40 fun n41=>
bS (some 25) [(AV.s []),(AV.s []),(AV.s []),(AV.i .i64 0),(AV.i .i64 0),(AV.sl none 0 none),(AV.b false),(AV.s [])] h38 fun v42 h43=>
aP 8 v42 v39 h43 fun h44=>
(bif (decide ((n32:Int)=n41)) then
(aD 8 v33 h44 fun v46=>
aD 8 v42 h44 fun v47=>
C Y37.id [v46,v47] h44 fun v48 h49=>
asB v48 fun c50=>
(bif c50 then
(C Y53.id [] h49 fun v51 h52=>
asB v51 fun c53=>
J 2 [(2,(AV.b c53))] h52)
else
(J 2 [(2,(AV.b false))] h49)))
else
(J 2 [(2,(AV.b false))] h44))))
theorem Y36.i0 {Q x3 x24 h} (H:Y36.t0 Q x3 x24 h (Y36.J Q)):Y36.p0 Q x3 x24 h:=gR Y36.J Tryz.f4 Y36.dist [1,1,1,0,1] H
def Y36.t1 (Q:AV→aA→Prop) (x2:Bool) (h:aA) (J:JT):Prop:=
Q (AV.b x2) h
theorem Y36.i1 {Q x2 h} (H:Y36.t1 Q x2 h (Y36.J Q)):Y36.p1 Q x2 h:=gR Y36.J Tryz.f4 Y36.dist [1,1,1,1,1,1,1] H
def Y36.t (Q:AV→aA→Prop) (x0:AV) (h:aA) (J:JT):Prop:=
dQ (some 33) x0 h fun v0 h1=>
aD 5 v0 h1 fun v3=>
C Y34.id [v3,(AV.i .i64 300)] h1 fun v4 h5=>
asI .i64 v4 fun n6=>
(bif (decide ((n6:Int)≤0)) then
(C Y53.id [] h5 fun v8 h9=>
asB v8 fun c10=>
Q (AV.b c10) h9)
else
(aD 5 v0 h5 fun v13=>
C Y90.id [v13] h5 fun v14 h15=>
aH 0 v14 fun v16=>
asS v16 fun l17=>
aH 1 v14 fun v18=>
asI .i64 v18 fun n19=>
(bif (!decide ((n19:Int)=0)) then
(J 1 [(3,(AV.s l17)),(24,(AV.b true))] h15)
else
(J 1 [(3,(AV.s l17)),(24,(AV.b (decide ((3000:Int)<(l17.length:Int)))))] h15))))
theorem Y36.call {K x0 h} (H:Y36.t (aL h K) x0 h (Y36.J (aL h K))):C Y36.id [x0] h K:=
 gC Y36.J Tryz.func4 Y36.dist H
end Go.Proofs.YtcdkpkkdolmfdaaGreatDoor
namespace Go.Proofs.YtcdkpkkdolmfdaaGreatDoor
open Go.GAM Go.RowKit Go.ChangeShapes
theorem aLH {w:World} {d:Der} {cs:List AV} (G:CG2 (hW w)) (D:DV (hW w) (inW w) d cs) (hbd:bdV d):C Y36.id [.ag cs] (hW w) Yes:=by
 refine Y36.call ?_
 simp only [Y36.t, ← Y36.p0.eq_1]
 refine D.box fun h1 hl1 U1 R1 D1=>?_
 have G:=G.up U1
 have hF:∀ i,inW w i→i<h1.length:=fun i hi=>by rw [hl1,show (hW w).length=w.heap.size+1 from kX]; exact Nat.lt_succ_of_lt hi
 refine aT R1 D.len.symm (aEV hbd D1 (aQ ?_))
 refine aG (fun _=>aAP G fun h' _=>aS vI) fun e=>?_
 have e0:0<fS 300 d:=by simpa using e
 obtain ⟨hz,hs⟩:=aCI hbd e0
 refine aT R1 D.len.symm (aG7 (by omega) (by omega) D1 hF ?_)
 have p0t:∀ l,Y36.p0 (aL (hW w) Yes) l true h1:=fun l=>by
  refine Y36.i0 ?_
  simp only [Y36.t0, ← Y36.p1.eq_1]
  exact aO rfl (aAP G fun h' _=>aS vI)
 have fin:∀ (h':aA),Upd (fun _=>False) h1 h'→C Y53.id [] h' fun v30 h31=>asB v30 fun c32=>Y36.p1 (aL (hW w) Yes) c32 h31:=fun h' U=>
  aAP (G.up U) fun h'' _=>aS (by
   refine Y36.i1 ?_
   simp only [Y36.t1]
   exact vI)
 have p0f:∀ l,Y36.p0 (aL (hW w) Yes) l false h1:=fun s=>by
  refine Y36.i0 ?_
  simp only [Y36.t0, ← Y36.p1.eq_1]
  refine aN rfl ?_
  refine aFV G ?_
  cases hp:mJ s with
  | error e =>
   intro h2 U2
   refine aY (aZ (aQ (b5 (n:=8) rfl fun h3 hl3 U3 R3=>aW R3 rfl rfl rfl fun h4 hl4 U4 R4=>?_)))
   have V4:Upd (fun _=>False) h1 h4:=(U2.then U3).own U4 U2.1
   refine aBN ?_
   rw [hp]
   intro h5 U5
   refine aY (aZ (aQ (b5 (n:=8) rfl fun h6 hl6 U6 R6=>aW R6 rfl rfl rfl fun h7 hl7 U7 R7=>?_)))
   have U47:Upd (fun _=>False) h4 h7:=(U5.then U6).own U7 U5.1
   refine aO (by simp) (aT (R4.upd U47 fun h=>h) rfl (aT R7 rfl ?_))
   have Z:CV h7 ⟨[],[],[],0,0,[],false,[]⟩ certZ:=⟨_,rfl,.inl ⟨rfl,rfl,rfl⟩⟩
   exact zW Z Z (by simp) (aS (aO rfl (fin h7 (V4.then U47))))
  | ok c =>
   intro cs1 h2 U2 C1
   have hn:=aC8 hp
   refine aY (aZ (aQ (b5 (n:=8) rfl fun h3 hl3 U3 R3=>aW R3 rfl C1.len C1.ok fun h4 hl4 U4 R4=>?_)))
   have U24:Upd (fun _=>False) h2 h4:=U3.own U4 (Nat.le_refl _)
   have V4:Upd (fun _=>False) h1 h4:=U2.then U24
   refine aBN ?_
   rw [hp]
   intro cs5 h5 U5 C5
   refine aY (aZ (aQ (b5 (n:=8) rfl fun h6 hl6 U6 R6=>aW R6 rfl C5.len C5.ok fun h7 hl7 U7 R7=>?_)))
   have U57:Upd (fun _=>False) h5 h7:=U6.own U7 (Nat.le_refl _)
   have U47:=U5.then U57
   refine aO rfl (aT (R4.upd U47 fun h=>h) C1.len.symm (aT R7 C5.len.symm ?_))
   exact zW (C1.ext (U24.then U47)) (C5.ext U57) (by omega) (aS (aO rfl (fin h7 (V4.then U47))))
 have p0x:∀ l b,Y36.p0 (aL (hW w) Yes) l b h1:=fun l b=>by
  cases b
  ·exact p0f l
  ·exact p0t l
 cases he:gE d with
 | error er =>
  refine aY (bA (aZ (aQ ?_)))
  exact aG (fun _=>p0x _ _) fun _=>p0x _ _
 | ok s =>
  refine aY (bA (aZ (aQ ?_)))
  exact aG (fun _=>p0x _ _) fun _=>p0x _ _
theorem walk_CertificateReads {H:Type} {enc:TypeId × Value→H} {v0:Value} {d0:DataW H} {p0:List MemPlace} (W:World) (hL:laidMet Tryz.prog Rows.certificateReadsRow.laid W) (k0:DataW.Trod enc Tryz.prog W 0 (fun _=>true) true 33 v0 d0 p0) :
  Calls Tryz.prog Y36.id #[v0] W fun e w'=>e = .returned (.bool true)∧Below W.heap.size W w':=by
 obtain ⟨cs,x,hv,hq,hb⟩:=aLT k0
 exact aDA mixedOK sizeOK (aOF (aOD (l:=Rows.certificateReadsRow.laid) (List.mem_of_getElem? (i:=2) rfl) hL)) (by kernel_rfl) (szOf:=fun _=>1) (.cons _ _ _ _ hv .nil)
  (aLH (aOV (l:=Rows.certificateReadsRow.laid) (List.mem_of_getElem? (i:=5) rfl) (List.mem_of_getElem? (i:=4) rfl) (List.mem_of_getElem? (i:=6) rfl) (List.mem_of_getElem? (i:=9) rfl) (List.mem_of_getElem? (i:=11) rfl) (List.mem_of_getElem? (i:=7) rfl) (List.mem_of_getElem? (i:=13) rfl) (List.mem_of_getElem? (i:=10) rfl) (List.mem_of_getElem? (i:=12) rfl) (List.mem_of_getElem? (i:=8) rfl) hL) hq hb)
end Go.Proofs.YtcdkpkkdolmfdaaGreatDoor
