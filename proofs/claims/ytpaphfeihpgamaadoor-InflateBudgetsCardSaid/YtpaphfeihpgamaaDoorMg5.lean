/- Lemmas (several texts in one). -/
import Derived.Test.YtpaphfeihpgamaaDoorRows
import Derived.OpenShut
import Derived.Test.YtpaphfeihpgamaaDoorMg4
set_option linter.unusedVariables false
set_option linter.unusedSimpArgs false
set_option linter.unusedSectionVars false
set_option maxRecDepth 20000
namespace Go.Proofs.YtpaphfeihpgamaaDoor
open Go.GAM
open Go.Infl (bF dA bW Out Lim)
theorem aC4 {P:Program} {t:TypeId} {K:AV→Prop} (ht:kD P t=true) (hk:K (.b false)):dT P .neq t (.p none) (.p none) K:=by
 show (bif kD P t then _ else _); rw [ht]; exact hk
theorem rG {P:Program} {t:TypeId} {a:AA} {K:AV→Prop} (ht:kD P t=true) (hk:K (.b true)):dT P .neq t (.p (some a)) (.p none) K:=by
 show (bif kD P t then _ else _); rw [ht]; exact hk
section
variable [XR] {h:aA} {Q:AV→aA→Prop} {L:Lim} {F:Nat→Prop} {d:Nat} {r:DR} {out:List UInt8} {told:Nat}
theorem uD {x:Nat} {c:bW} {v:AV} (O:cS h) (D:Dec L h F d r out told) (hF:∀ i,h.length≤i→F i) (hd:r.done=false) (hk:jP c=none) (hc:Clo h (Gd F d r) d 0 (.p none) c v) (hf:fit c x)
  (hq:∀ e h' r',cM F L h F d r told (Infl.apply L r.input ⟨out,r.last,r.skip⟩ x c) e h' r'→Q (.i .i64 e) h'):bU C v [iN x] h Q:=by
 cases c with
 | block=>exact aEJ D hF hd hc hf hq
 | stored1=>exact y6 D hF hd hc hf hq
 | stored2 n=>exact aA0 D hF hd hc hf hq
 | raw n=>exact aF9 D hF hd hc hf hq
 | lit a b=>cases hk
 | more a b n=>exact aF5 D hF hd hc hf hq
 | far a b n=>cases hk
 | farMore a b n f=>exact aAX D hF hd hc hf hq
 | dyn1=>exact aFR D hF hd hc hf hq
 | dyn2 lits=>exact aFG D hF hd hc hf hq
 | dyn3 lits dists=>exact aFI D hF hd hc hf hq
 | third l i n lits dists=>exact aDK O D hF hd hc hf hq
 | lens c l lits dists=>cases hk
 | rep c l lits dists m y=>exact aGF D hF hd hc hf hq
theorem aC3 {x ic:Nat} {sym:AV} {l:List Nat} {c:bW} {v:AV} (D:Dec L h F d r out told) (hF:∀ i,h.length≤i→F i) (hd:r.done=false) (hk:jP c=some l) (A:bZ h (Gd F d r) ic l sym 0 0) (hc:Clo h (fun i=>Gd F d r i∧i≠ic) d ic sym c v) (hf:fit c x)
  (hq:∀ e h' r',cM F L h F d r told (Infl.apply L r.input ⟨out,r.last,r.skip⟩ x c) e h' r'→Q (.i .i64 e) h'):bU C v [iN x] h Q:=by
 cases c <;> first | (cases hk; done) | skip
 case lit a b=>cases hk; exact aGK D hF hd A hc hf hq
 case far a b n=>cases hk; exact aGJ D hF hd A hc hf hq
 case lens c l lits dists=>cases hk; exact aFY D hF hd A hc hf hq
theorem mU {x:Nat} {c:bW} {i:Nat} {k:bF} (hs:short c):(Infl.apply L i k x c).set:=by
 cases c <;> first | exact hs.elim | skip
 ·trivial
 ·simp only [Infl.apply]
  split
  ·trivial
  ·split <;> trivial
theorem sE {c:bW} {i a b:Nat} {k:bF} (hs:short c):Infl.settle L i 3 (.wait k (.num 0 a b) c)=Infl.apply L i k 0 c:=by
 show Infl.settle L i 2 (Infl.apply L i k 0 c)=_
 exact Infl.settle_set (mU hs)
theorem behind {h0':aA} {b:Bool} {x:Int} (hx:b=true) (hq:Q (.i .i64 x) h):Y1.p2 (aK h0' Q) (dp d) x b h:=by
 refine Y1.i2 ?_
 simp only [Y1.t2]
 exact bA hx (.inl hq)
theorem pW {h0' h0 : aA} {r0 : DR} {o : Out} {e : Int} (O : cS h) (hF : ∀ i, h.length ≤ i → F i) (P : cM F L h0 F d r0 told o e h r) (hns : o.set)
  (hq:Q (.i .i64 e) h) (K:Int→Prop) :
  (bif (!decide ((e:Int)=0)) then Y1.p2 (aK h0' Q) (dp d) e true h else
   (aZ (dp d) fun v75=>aC 7 v75 fun v76=>aB v76 h fun v77=>asB v77 fun c78=>Y1.p2 (aK h0' Q) (dp d) e c78 h)):=by
 refine aR ?_ ?_ <;> intro he
 ·exact behind rfl hq
 ·have he : e = 0 := by simpa using he
  simp only [bI,bH]
  refine aE P.dec.recd rfl rfl (bE ?_)
  cases hd:r.done with
  | true=>exact behind rfl hq
  | false =>
   refine Y1.i2 ?_
   simp only [Y1.t2,bI,bH, ← Y1.p3.eq_1]
   refine aX rfl ?_
   have P3:∀ t,t=false→Y1.p3 (aK h0' Q) (dp d) t h:=fun t ht=>by
    refine Y1.i3 ?_
    simp only [Y1.t3]
    rw [← he]
    exact aX ht (.inl hq)
   have hst:=P.st
   cases o with
   | done k=>rw [hst.2] at hd; cases hd
   | err x k =>
    obtain ⟨hx,hx2,_⟩:=hst
    rw [he] at hx
    rcases hx2 with rfl | rfl <;> exact absurd hx (by decide)
   | wait k w c =>
    obtain ⟨_,_,_,_,hw,hf⟩:=hst
    cases w with
    | num need hv acc =>
     obtain ⟨_,hcode,hneed,_⟩:=hw
     refine aE P.dec.recd rfl rfl ?_
     rw [hcode]
     refine vM (by kernel_rfl) (bE (bA rfl ?_))
     refine aE P.dec.recd rfl rfl (aD (P3 _ ?_))
     rw [hneed]
     have hns:0<need:=hns
     simp; omega
    | sym l n x =>
     obtain ⟨_,ic,sym,hcode,_⟩:=hw
     refine aE P.dec.recd rfl rfl ?_
     rw [hcode]
     exact fD (by kernel_rfl) (bE (aX rfl (P3 _ rfl)))
theorem yL {h0' h0 : aA} {r0 : DR} {o : Out} {e : Int} (hF0 : ¬ F 0) (O : cS h) (hF : ∀ i, h.length ≤ i → F i) (P : cM F L h0 F d r0 told o e h r)
    (hq:∀ e h' r',cS h'→(Infl.settle L r0.input 3 o).set→cM F L h0 F d r0 told (Infl.settle L r0.input 3 o) e h' r'→Q (.i .i64 e) h') :
    (bif (!decide ((e:Int)=0)) then Y1.p2 (aK h0' Q) (dp d) e true h else
      (aZ (dp d) fun v75=>aC 7 v75 fun v76=>aB v76 h fun v77=>asB v77 fun c78=>Y1.p2 (aK h0' Q) (dp d) e c78 h)):=by
  by_cases hns:o.set
  · rw [Infl.settle_set hns] at hq
    exact pW O hF P hns (hq e h r O hns P) fun _=>True
  · obtain ⟨k, hv, acc, c, rfl⟩ : ∃ k hv acc c, o = .wait k (.num 0 hv acc) c := by
      cases o with
      | done k=>exact absurd trivial hns
      | err x k=>exact absurd trivial hns
      | wait k w c =>
        cases w with
        | sym l n x=>exact absurd trivial hns
        | num need hv acc =>
          have:need=0:=by
            have:¬ 0<need:=hns
            omega
          subst this
          exact ⟨k,hv,acc,c,rfl⟩
    have hst:=P.st
    obtain ⟨he,h1,h2,h3,hw,hf⟩:=hst
    obtain ⟨hco,hcode,hneed,hhv,hac,hclo⟩:=hw
    obtain ⟨_,_,f3,f4⟩:=hf
    have hsh:short c:=f3.elim (fun h=>by omega) fun h=>h.2.2
    rw [sE hsh] at hq
    subst he
    refine aX rfl ?_
    simp only [bI,bH]
    refine aE P.dec.recd rfl rfl (bE ?_)
    rw [h3]
    refine Y1.i2 ?_
    simp only [Y1.t2,bI,bH, ← Y1.p3.eq_1]
    refine aX rfl ?_
    refine aE P.dec.recd rfl rfl ?_
    rw [hcode]
    refine vM (by kernel_rfl) (bE (bA rfl ?_))
    refine aE P.dec.recd rfl rfl (aD ?_)
    rw [hneed]
    refine Y1.i3 ?_
    simp only [Y1.t3, ← Y1.p0.eq_1]
    refine bA rfl ?_
    refine Y1.i0 ?_
    simp only [Y1.t0,bI,bH, ← Y1.p2.eq_1]
    refine aE P.dec.recd rfl rfl ?_
    have hk:k=⟨k.out,r.last,r.skip⟩:=by rw [h1,h2]
    have hD:Dec L h F d r k.out told:=P.dec
    refine uD (x:=0) O hD hF h3 hco hclo (f4 0 (by decide)) fun e2 h2 r2 P2=>aD ?_
    rw [P.inp, ← hk] at P2
    have P3:cM F L h0 F d r0 told (Infl.apply L r0.input k 0 c) e2 h2 r2:=P2.from P.upd (fun _ _ h=>h) P.keep P.inp P.bad P.rest
    have O2:cS h2:=O.upd P2.upd hF0
    exact pW O2 (fun i hi=>hF i (Nat.le_trans P2.upd.1 hi)) P3 (mU hsh) (hq e2 h2 r2 O2 (mU hsh) P3) fun _=>True
theorem zX {h0' h0:aA} {r0:DR} {x:Nat} {c:bW} (hF0:¬ F 0) (O:cS h) (D:Dec L h F d r out told) (hF:∀ i,h.length≤i→F i) (hd:r.done=false) (hk:jP c=none) (hc:Clo h (Gd F d r) d 0 (.p none) c r.next) (hf:fit c x)
  (U0:Upd F h0 h) (K0:∀ i,i<h0.length→Mut d r i→Mut d r0 i) (e1:r.input=r0.input) (e2:r.bad=r0.bad) (e3:r.rest=r0.rest)
  (hq:∀ e h' r',cS h'→(Infl.settle L r0.input 3 (Infl.apply L r0.input ⟨out,r.last,r.skip⟩ x c)).set→cM F L h0 F d r0 told (Infl.settle L r0.input 3 (Infl.apply L r0.input ⟨out,r.last,r.skip⟩ x c)) e h' r'→Q (.i .i64 e) h'):Y1.p1 (aK h0' Q) (dp d) x h:=by
 refine Y1.i1 ?_
 simp only [Y1.t1, ← Y1.p0.eq_1]
 refine Y1.i0 ?_
 simp only [Y1.t0,bI,bH, ← Y1.p2.eq_1]
 refine aE D.recd rfl rfl ?_
 refine uD O D hF hd hk hc hf fun e h1 r1 P=>aD ?_
 rw [e1] at P
 exact yL hF0 (O.upd P.upd hF0) (fun i hi=>hF i (Nat.le_trans P.upd.1 hi)) (P.from U0 (fun _ _ h=>h) K0 e1 e2 e3) hq
theorem z5 {h0' h0:aA} {r0:DR} {x ic:Nat} {sym:AV} {l:List Nat} {c:bW} (hF0:¬ F 0) (O:cS h) (D:Dec L h F d r out told) (hF:∀ i,h.length≤i→F i) (hd:r.done=false) (hk:jP c=some l) (A:bZ h (Gd F d r) ic l sym 0 0) (hc:Clo h (fun i=>Gd F d r i∧i≠ic) d ic sym c r.next) (hf:fit c x)
  (U0:Upd F h0 h) (K0:∀ i,i<h0.length→Mut d r i→Mut d r0 i) (e1:r.input=r0.input) (e2:r.bad=r0.bad) (e3:r.rest=r0.rest)
  (hq:∀ e h' r',cS h'→(Infl.settle L r0.input 3 (Infl.apply L r0.input ⟨out,r.last,r.skip⟩ x c)).set→cM F L h0 F d r0 told (Infl.settle L r0.input 3 (Infl.apply L r0.input ⟨out,r.last,r.skip⟩ x c)) e h' r'→Q (.i .i64 e) h'):Y1.p1 (aK h0' Q) (dp d) x h:=by
 refine Y1.i1 ?_
 simp only [Y1.t1, ← Y1.p0.eq_1]
 refine Y1.i0 ?_
 simp only [Y1.t0,bI,bH, ← Y1.p2.eq_1]
 refine aE D.recd rfl rfl ?_
 refine aC3 D hF hd hk A hc hf fun e h1 r1 P=>aD ?_
 rw [e1] at P
 exact yL hF0 (O.upd P.upd hF0) (fun i hi=>hF i (Nat.le_trans P.upd.1 hi)) (P.from U0 (fun _ _ h=>h) K0 e1 e2 e3) hq
theorem aGH {a b k:Nat} (h:a<2 ^ k):a ||| b * 2 ^ k=a+b * 2 ^ k:=by
 rw [Nat.or_comm,Nat.mul_comm]
 have:=Nat.two_pow_add_eq_or_of_lt h b
 omega
theorem aGB {w : dA} {c : bW} {b : Nat} (hb : b < 2) (hF0 : ¬ F 0) (O : cS h) (D : Dec L h F d r out told) (hF : ∀ i, h.length ≤ i → F i) (hd : r.done = false) (hw : vH h F d r w c) (hf : wA w c) (hset : (Out.wait ⟨out, r.last, r.skip⟩ w c).set)
  (hq:∀ e h' r',cS h'→(Infl.bitP L r.input ⟨out,r.last,r.skip⟩ w c b).set→cM F L h F d r told (Infl.bitP L r.input ⟨out,r.last,r.skip⟩ w c b) e h' r'→Q (.i .i64 e) h'):C Y1.id [dp d,iN b] h Q:=by
 refine Y1.call ?_
 simp only [Y1.t,bI,bH, ← Y1.p1.eq_1]
 refine aE D.recd rfl rfl ?_
 cases w with
 | num need hv acc =>
  obtain ⟨hco,hcode,hneed,hhv,hacc,hclo⟩:=hw
  obtain ⟨f1,f2,f3,f4⟩:=hf
  have hset:0<need:=hset
  have hlt:hv<need:=f3.elim (fun h=>h) fun h=>by omega
  rw [hcode]
  refine aC4 (by kernel_rfl) (bE (aX rfl ?_))
  refine aE D.recd rfl rfl (aD (aE D.recd rfl rfl (aD ?_)))
  rw [hacc,hhv]
  have p1:2 ^ hv≤2 ^ 16:=Nat.pow_le_pow_right (by decide) (by omega)
  have p2:b * 2 ^ hv≤1 * 2 ^ 16:=Nat.mul_le_mul (by omega) p1
  have p3:acc+b * 2 ^ hv<2 ^ (hv+1):=by
   have:b * 2 ^ hv≤1 * 2 ^ hv:=Nat.mul_le_mul_right _ (by omega)
   rw [Nat.pow_succ]; omega
  have p4:2 ^ (hv+1)≤2 ^ need:=Nat.pow_le_pow_right (by decide) (by omega)
  refine mG (by omega) (by omega) ?_
  have hor:bQ .or .i64 ((acc:Nat):Int) ((b * 2 ^ hv:Nat):Int)=((acc+b * 2 ^ hv:Nat):Int):=by
   rw [yG (by omega) (by omega),aGH f2]
  refine aM hor ?_
  generalize hA:acc+b * 2 ^ hv=A at *
  refine aQ D.recd rfl (ltr rfl) (hk:=fun h1 l1 U1 R1=>?_)
  refine aE R1 rfl rfl (aD ?_)
  rw [hhv]
  refine inc (by omega) ?_
  refine aQ R1 rfl (ltr rfl) (hk:=fun h2 l2 U2 R2=>?_)
  have U:=U1.trans U2 fun _ _ h=>h
  have D2:Dec L h2 F d { r with acc:=A,have':=hv+1 } out told:=D.with U R2 rfl rfl rfl rfl
  have O2:cS h2:=O.upd U fun e=>hF0 (e ▸ D.f d (.inl rfl))
  have clo2:=hclo.upd (G':=Gd F d { r with acc:=A,have':=hv+1 }) U (fun i hi e=>hi.2 (.inl e)) fun _ _ h=>h
  refine aE R2 rfl rfl (aD (aE R2 rfl rfl (aD ?_)))
  rw [hneed]
  rw [Infl.bit_num] at hq
  refine aR ?_ ?_ <;> intro e
  ·have e : hv + 1 < need := by simp at e; omega
   rw [if_pos e,hA] at hq
   refine .inl (hq 0 h2 { r with acc:=A,have':=hv+1 } O2 hset ⟨U.mono fun i _ e=>D.f i (.inl e),fun _ _ h=>h,D2,rfl,rfl,rfl,rfl,rfl,rfl,hd,⟨hco,hcode,hneed,rfl,rfl,clo2⟩,f1,p3,.inl e,f4⟩)
  ·have e : ¬ hv + 1 < need := by simp at e; omega
   rw [if_neg e,hA] at hq
   refine aE R2 rfl rfl (aD ?_)
   exact zX (r0:=r) hF0 O2 D2 (fun i hi=>hF i (by omega)) hd hco clo2 (f4 A (by omega)) (U.mono fun i _ e=>D.f i (.inl e)) (fun _ _ h=>h) rfl rfl rfl hq
 | sym l n x =>
  obtain ⟨hco,ic,sym,hcode,A,hclo⟩:=hw
  obtain ⟨f1,f2,f3⟩:=hf
  rw [hcode]
  refine rG (by kernel_rfl) (bE (bA rfl ?_))
  refine aE D.recd rfl rfl ?_
  rw [hcode]
  rw [Infl.bit_sym] at hq
  refine aFP A f1 f2 hb fun h1 U1=>?_
  have hne:∀ i,Mut d r i→¬ i=ic:=fun i hm e=>A.g.2 (e ▸ hm)
  have D1:Dec L h1 F d r out told:=D.upd U1 hne
  have O1:cS h1:=O.upd U1 fun e=>hF0 (e ▸ A.g.1)
  have UF:Upd F h h1:=U1.mono fun i _ e=>e ▸ A.g.1
  have clo1:=hclo.upd (G':=fun i=>Gd F d r i∧i≠ic) U1 (fun i hi e=>hi.2 e) fun _ _ h=>h
  have A1:∀ {n' x'},bC h1 ic (cQ l sym n' x')→bZ h1 (Gd F d r) ic l sym n' x':=fun R=>{ A with recd:=R,syms:=A.syms.upd U1 fun i hi e=>(A.gs i hi).2.1 e,gs:=fun i hi=>⟨(A.gs i hi).1,(A.gs i hi).2.1,Nat.lt_of_lt_of_le (A.gs i hi).2.2 U1.1⟩ }
  have hF1:∀ i,h1.length≤i→F i:=fun i hi=>hF i (Nat.le_trans U1.1 hi)
  cases hs:Huff.stepP l (n+1) (2 * x+b) with
  | sym i =>
   simp only [hs] at hq ⊢
   intro R1 hi
   simp only [eD,eC,aFT]
   refine aD (bE (aD (aX rfl (aX rfl ?_))))
   exact z5 hF0 O1 D1 hF1 hd hco (A1 R1) clo1 (f3 i hi) UF (fun _ _ h=>h) rfl rfl rfl hq
  | more =>
   simp only [hs] at hq ⊢
   intro R1
   simp only [eD,eC,aFT]
   refine aD (bE (aD (aX rfl (bA rfl (.inl ?_)))))
   have hn1:n+1≤15:=by
    unfold Huff.stepP at hs
    split at hs
    ·cases hs
    ·split at hs
     ·have : Huff.longest l ≤ 15 := by
       rw [← iJ A.le]
       have:∀ n,lg l n≤n:=by
        intro n
        induction n with
        | zero=>exact Nat.le_refl _
        | succ n ih=>unfold lg; split <;> omega
       exact this 15
      omega
     ·cases hs
   exact hq 0 h1 r O1 trivial ⟨UF,fun _ _ h=>h,D1,rfl,rfl,rfl,rfl,rfl,rfl,hd,⟨hco,ic,sym,hcode,A1 R1,clo1⟩,hn1,by rw [Nat.pow_succ]; omega,f3⟩
  | bad =>
   simp only [hs] at hq ⊢
   intro R1
   simp only [eD,eC,aFT]
   refine aD (bE (aD (bA rfl (.inl ?_))))
   exact hq 2 h1 r O1 trivial ⟨UF,fun _ _ h=>h,D1,rfl,rfl,rfl,rfl,.inl rfl,hd⟩
end
end Go.Proofs.YtpaphfeihpgamaaDoor
namespace Go.Proofs.YtpaphfeihpgamaaDoor
open Go.GAM
open Go.Infl (bF dA bW Out Lim)
section
variable [XR] {h:aA} {Q:AV→aA→Prop} {L:Lim} {s:List UInt8} {d:Nat} {r:RS} {out:List UInt8} {F:Infl.Fin}
def lits (a b:List Nat) (kl:Bool) (out:List UInt8):Out:=Infl.litW ⟨out,kl,false⟩ a b
end
end Go.Proofs.YtpaphfeihpgamaaDoor
namespace Go.Proofs.YtpaphfeihpgamaaDoor
open Go.GAM
open Go.Infl (bF dA bW Out Lim)
section
variable [XR] {h:aA} {Q:AV→aA→Prop} {L:Lim} {s:List UInt8} {d:Nat} {r:RS} {out:List UInt8} {F:Infl.Fin}
end
end Go.Proofs.YtpaphfeihpgamaaDoor
namespace Go.Proofs.YtpaphfeihpgamaaDoor
open Go.GAM
open Go.Infl (bF dA bW Out Lim)
section
variable [XR] {h:aA} {Q:AV→aA→Prop} {L:Lim} {s:List UInt8} {d:Nat} {r:RS} {out:List UInt8} {F:Infl.Fin}
end
end Go.Proofs.YtpaphfeihpgamaaDoor
namespace Go.Proofs.YtpaphfeihpgamaaDoor
open Go.GAM
open Go.Infl (bF dA bW Out Lim)
structure DSt (L:Lim) (h:aA) (F:Nat→Prop) (d:Nat) (r:DR) (told:Nat) (o:Out) (inp:Nat) (rest:List UInt8):Prop where
 dec:Dec L h F d r o.core.out told
 ord:cS h
 rest:r.rest=rest
 st:match o with
  | .wait k w c=>r.input=inp∧r.last=k.last∧r.skip=k.skip∧r.done=false∧r.bad=false∧vH h F d r w c∧wA w c∧(Out.wait k w c).set
  | .done _=>r.done=true∧r.bad=false
  | .err e _=>r.done=false∧r.bad=true∧(e=1∨e=2)
def yH:Out→Int
 | .err e _=>eno e
 | _=>0
section
variable [XR] {h:aA} {Q:AV→aA→Prop} {L:Lim} {F:Nat→Prop} {d:Nat} {r:DR} {out:List UInt8} {told:Nat}
theorem Dec.text {l:List UInt8} (D:Dec L h F d r out told) {K:List UInt8→Prop} (hk:K (out.drop told)):cZ r.fresh h K:=by
 refine Byt.str (l:=out.drop told) ?_ hk
 have:=D.fresh.rd
 rw [List.length_map] at this
 exact this
theorem rW {w:dA} {c:bW} {k:bF} (hs:k.skip=true):∀ (bs:List Nat) (i:Nat),i % 8≠0→i % 8+bs.length=8→Infl.run L bs i (.wait k w c)=(i+bs.length,.wait k w c)
 | [],i,h1,h2=>by rw [Infl.run_nil] <;> rfl
 | b :: bs, i, h1, h2 => by
  rw [Infl.run_bit,if_pos ⟨hs,h1⟩]
  rw [List.length_cons] at h2 ⊢
  by_cases hb:bs=[]
  ·subst hb; rw [Infl.run_nil] <;> rfl
  ·have := List.length_pos_iff.2 hb
   rw [rW hs bs (i+1) (by omega) (by omega)]
   congr 1; omega
theorem sT:∀ (n x:Nat),(Huff.loBits x n).length=n
 | 0,_=>rfl
 | n+1,x=>by unfold Huff.loBits; rw [List.length_cons,sT n]
theorem aDH (c:UInt8) {k:Nat} (hk:k<8):bQ .and .i64 ((c.toNat / 2 ^ k:Nat):Int) 1=((c.toNat / 2 ^ k % 2:Nat):Int):=by
 have hc:=c.toNat_lt
 have:c.toNat / 2 ^ k≤c.toNat:=Nat.div_le_self _ _
 have:=i6 (x:=c.toNat / 2 ^ k) (y:=1) (by omega) (by decide)
 rw [Nat.and_one_is_mod] at this
 exact this
def Nxt (Q:AV→aA→Prop) (d:Nat) (s:List UInt8) (i:Nat) (told:Nat) (h':aA):Out→Prop
 | .wait ..=>Y0.p1 Q (dp d) s s.length ((i+1:Nat):Int) h'
 | .done _=>Y0.p4 Q (dp d) h'
 | .err e k=>Q (.tu [.s (k.out.drop told),.i .i64 (eno e)]) h'
theorem z8 {hb : aA} {s : List UInt8} {i : Nat} {ch : UInt8} (hc : s[i]? = some ch) (hslen : s.length < 1099511627776) (hF0 : ¬ F 0) {inp : Nat} (hinp : 0 < inp) :
    ∀ (m k:Nat) (h:aA) (r:DR) (kc:bF) (w:dA) (c:bW),k+m=8→(k=0→kc.skip=false)→DSt L h F d r told (.wait kc w c) inp []→(∀ i,h.length≤i→F i) →
    (∀ h' r',Upd F h h'→DSt L h' F d r' told (Infl.run L (Huff.loBits (ch.toNat / 2 ^ k) m) (8 * (inp - 1)+k) (.wait kc w c)).2 inp (match (Infl.run L (Huff.loBits (ch.toNat / 2 ^ k) m) (8 * (inp - 1)+k) (.wait kc w c)).2 with | .done _=>s.drop (i+1) | _=>[]) →
      Nxt (aK hb Q) d s i told h' (Infl.run L (Huff.loBits (ch.toNat / 2 ^ k) m) (8 * (inp - 1)+k) (.wait kc w c)).2) →
    Y0.p2 (aK hb Q) (dp d) s i k s.length i h:=by
  intro m
  induction m with
  | zero =>
    intro k h r kc w c hkm hk0 S hF hq
    obtain rfl:k=8:=by omega
    have hsi:=aI hc
    obtain ⟨s1,s2,s3,s4,s5,s6,s7,s8⟩:=S.st
    have P3:Y0.p3 (aK hb Q) (dp d) s i (8:Nat) s.length i false h:=by
      refine Y0.i3 ?_
      simp only [Y0.t3,bI,bH, ← Y0.p1.eq_1]
      refine aX rfl ?_
      refine aE S.dec.recd rfl rfl (bE ?_)
      rw [s4]
      refine aX rfl (inc (by omega) ?_)
      exact hq h r (Upd.refl _ _) S
    refine Y0.i2 ?_
    simp only [Y0.t2, ← Y0.p3.eq_1]
    exact aX (by decide) P3
  | succ m ih =>
    intro k h r kc w c hkm hk0 S hF hq
    have hsi:=aI hc
    obtain ⟨s1,s2,s3,s4,s5,s6,s7,s8⟩:=S.st
    have hch:=ch.toNat_lt
    refine Y0.i2 ?_
    simp only [Y0.t2,bI,bH, ← Y0.p3.eq_1]
    refine bA (by simp; omega) ?_
    refine aE S.dec.recd rfl rfl (bE ?_)
    cases hsk:kc.skip with
    | true =>
      rw [s3,hsk]
      refine aX rfl ?_
      have hk:k≠0:=fun e=>by rw [hk0 e] at hsk; cases hsk
      rw [rW hsk _ _ (by omega) (by rw [sT]; omega)] at hq
      refine Y0.i3 ?_
      simp only [Y0.t3,bI,bH, ← Y0.p1.eq_1]
      refine aX rfl ?_
      refine aE S.dec.recd rfl rfl (bE ?_)
      rw [s4]
      refine aX rfl (inc (by omega) ?_)
      exact hq h r (Upd.refl _ _) S
    | false =>
      rw [s3,hsk]
      refine bA rfl ?_
      refine aE S.dec.recd rfl rfl (bE ?_)
      rw [s4]
      refine Y0.i3 ?_
      simp only [Y0.t3,bI,bH, ← Y0.p2.eq_1]
      refine bA rfl ?_
      refine sC hc ?_
      rw [aV (by omega) (by omega)]
      refine s9 (a:=ch.toNat) (b:=k) (by show k≤64; omega) ?_
      rw [aDH ch (by omega)]
      have hb2:ch.toNat / 2 ^ k % 2<2:=Nat.mod_lt _ (by decide)
      have hcore:(⟨kc.out,r.last,r.skip⟩:bF)={ kc with skip:=false }:=by rw [s2,s3,hsk]
      have hpos:(8 * (inp - 1)+k) / 8+1=inp:=by omega
      have hlo:Huff.loBits (ch.toNat / 2 ^ k) (m+1)=ch.toNat / 2 ^ k % 2 :: Huff.loBits (ch.toNat / 2 ^ (k+1)) m:=by
        rw [Nat.pow_succ, ← Nat.div_div_eq_div_mul] <;> rfl
      rw [hlo,Infl.run_bit,if_neg (by rw [hsk]; simp),hpos] at hq
      refine aGB hb2 hF0 S.ord S.dec hF s4 s6 s7 (by cases w <;> exact s8) fun e h1 r1 O1 hset P=>aD ?_
      rw [s1] at P hset
      have hcore':(⟨(Out.wait kc w c).core.out,r.last,r.skip⟩:bF)={ kc with skip:=false }:=hcore
      rw [hcore'] at P hset
      generalize Infl.bitP L inp { kc with skip:=false } w c (ch.toNat / 2 ^ k % 2)=o at P hq hset
      have hF1:∀ i,h1.length≤i→F i:=fun i hi=>hF i (Nat.le_trans P.upd.1 hi)
      have hrest:=P.rest.trans S.rest
      have hbad:=P.bad.trans s5
      have hst:=P.st
      cases o with
      | err x kx =>
        obtain ⟨hx,hx2,hdn⟩:=hst
        rw [Infl.run_err] at hq
        refine bA (by rw [hx]; rcases hx2 with rfl | rfl <;> decide) ?_
        refine aQ P.dec.recd rfl (ltr rfl) (hk:=fun h2 l2 U2 R2=>?_)
        have D2:Dec L h2 F d { r1 with bad:=true } kx.out told:=P.dec.with U2 R2 rfl rfl rfl rfl
        refine aE R2 rfl rfl ?_
        refine D2.text (l:=kx.out) ?_
        have O2:cS h2:=O1.upd U2 fun e=>hF0 (e ▸ D2.f d (.inl rfl))
        have:=hq h2 { r1 with bad:=true } (P.upd.trans (U2.mono fun i _ e=>D2.f i (.inl e)) fun _ _ h=>h) ⟨D2,O2,hrest,hdn,rfl,hx2⟩
        rw [hx]
        exact this
      | done kx =>
        obtain ⟨hx,hdn⟩:=hst
        rw [Infl.run_done] at hq
        subst hx
        refine aX rfl (inc (by omega) ?_)
        refine Y0.i2 ?_
        simp only [Y0.t2,bI,bH, ← Y0.p3.eq_1]
        have P3:Y0.p3 (aK hb Q) (dp d) s i ((k+1:Nat):Int) s.length i false h1:=by
          refine Y0.i3 ?_
          simp only [Y0.t3,bI,bH, ← Y0.p4.eq_1]
          refine aX rfl ?_
          refine aE P.dec.recd rfl rfl (bE ?_)
          rw [hdn]
          refine bA rfl (inc (by omega) (yA (by omega) ?_))
          refine aQ P.dec.recd rfl (ltr rfl) (hk:=fun h2 l2 U2 R2=>?_)
          have D2:Dec L h2 F d { r1 with rest:=s.drop (i+1) } kx.out told:=P.dec.with U2 R2 rfl rfl rfl rfl
          have O2:cS h2:=O1.upd U2 fun e=>hF0 (e ▸ D2.f d (.inl rfl))
          exact hq h2 { r1 with rest:=s.drop (i+1) } (P.upd.trans (U2.mono fun i _ e=>D2.f i (.inl e)) fun _ _ h=>h) ⟨D2,O2,rfl,hdn,hbad⟩
        refine aR ?_ ?_ <;> intro e8
        · refine aE P.dec.recd rfl rfl (bE ?_)
          cases r1.skip with
          | true=>exact aX rfl P3
          | false =>
            refine bA rfl (aE P.dec.recd rfl rfl (bE ?_))
            rw [hdn]
            exact P3
        · exact P3
      | wait kx wx cx =>
        obtain ⟨hx,w1,w2,w3,w4,w5⟩:=hst
        subst hx
        refine aX rfl (inc (by omega) ?_)
        refine ih (k+1) h1 r1 kx wx cx (by omega) (fun e=>by omega) ⟨P.dec,O1,hrest,P.inp.trans s1,w1,w2,w3,hbad,w4,w5,by cases wx <;> exact hset⟩ hF1 fun h2 r2 U2 S2=>?_
        exact hq h2 r2 (P.upd.trans U2 fun _ _ h=>h) S2
theorem qE {o:Out} (c:UInt8) (t:List UInt8) (i:Nat):Infl.run L (Infl.bitsOf (c :: t)) i o=Infl.run L (Infl.bitsOf t) (Infl.run L (Huff.loBits c.toNat 8) i o).1 (Infl.run L (Huff.loBits c.toNat 8) i o).2:=by
 show Infl.run L (Huff.loBits c.toNat 8++Infl.bitsOf t) i o=_
 exact Infl.run_append _ _ _ _
omit [XR] in
theorem oO:∀ (bs:List Nat) (i:Nat) (o:Out),i≤(Infl.run L bs i o).1∧(Infl.run L bs i o).1≤i+bs.length
 | bs,i,.done k=>by rw [Infl.run_done]; exact ⟨Nat.le_refl _,Nat.le_add_right _ _⟩
 | bs,i,.err e k=>by rw [Infl.run_err]; exact ⟨Nat.le_refl _,Nat.le_add_right _ _⟩
 | [],i,.wait k w c=>by rw [Infl.run_nil]; exact ⟨Nat.le_refl _,Nat.le_refl _⟩
 | b :: bs, i, .wait k w c => by
  rw [Infl.run_bit,List.length_cons]
  split
  ·have:=oO bs (i+1) (.wait k w c); omega
  ·have:=oO bs (i+1) (Infl.bitP L (i / 8+1) { k with skip:=false } w c b); omega
theorem y9 {b:Nat} {bs:List Nat} {i:Nat} {k:bF} {w:dA} {c:bW}:i+1≤(Infl.run L (b :: bs) i (.wait k w c)).1:=by
 rw [Infl.run_bit]
 split
 ·exact (oO bs (i+1) _).1
 ·exact (oO bs (i+1) _).1
def mZ (s:List UInt8) (inp:Nat) (x:Nat × Out):List UInt8:=match x.2 with
 | .done _=>s.drop ((x.1+7) / 8 - inp)
 | _=>[]
theorem z9 {hb : aA} {s : List UInt8} (hslen : s.length < 1099511627776) (hF0 : ¬ F 0) {inp0 : Nat} (hin : inp0 + s.length ≤ 1099511627776) :
  ∀ (t:List UInt8) (i:Nat) (h:aA) (r:DR) (kc:bF) (w:dA) (c:bW),s.drop i=t→i≤s.length→DSt L h F d r told (.wait kc w c) (inp0+i) []→(∀ i,h.length≤i→F i) →
  (∀ h' r',Upd F h h'→DSt L h' F d r' told (Infl.run L (Infl.bitsOf t) (8 * (inp0+i)) (.wait kc w c)).2 (inp0+s.length) (mZ s inp0 (Infl.run L (Infl.bitsOf t) (8 * (inp0+i)) (.wait kc w c))) →
   Q (.tu [.s ((Infl.run L (Infl.bitsOf t) (8 * (inp0+i)) (.wait kc w c)).2.core.out.drop told),.i .i64 (yH (Infl.run L (Infl.bitsOf t) (8 * (inp0+i)) (.wait kc w c)).2)]) h') →
  Y0.p1 (aK hb Q) (dp d) s s.length i h:=by
 have tail:∀ (h:aA) (r:DR) (o:Out) (inp:Nat) (rest:List UInt8),DSt L h F d r told o inp rest→yH o=0→Q (.tu [.s (o.core.out.drop told),.i .i64 0]) h→Y0.p4 (aK hb Q) (dp d) h:=fun h r o inp rest S ho hq=>by
  refine Y0.i4 ?_
  simp only [Y0.t4,bI,bH]
  refine aE S.dec.recd rfl rfl (S.dec.text (l:=o.core.out) (.inl hq))
 intro t
 induction t with
 | nil =>
  intro i h r kc w c ht hi S hF hq
  have:i=s.length:=by have:=aCX ht; omega
  subst this
  rw [show Infl.bitsOf []=[] from rfl,Infl.run_nil] at hq
  refine Y0.i1 ?_
  simp only [Y0.t1, ← Y0.p4.eq_1]
  refine aX (by simp) (tail h r _ _ _ S rfl (hq h r (Upd.refl _ _) S))
 | cons ch t ih =>
  intro i h r kc w c ht hi S hF hq
  have hsi:=aEX ht
  have hat:=wE ht
  have htn:=zA ht
  obtain ⟨s1,s2,s3,s4,s5,s6,s7,s8⟩:=S.st
  refine Y0.i1 ?_
  simp only [Y0.t1,bI,bH, ← Y0.p2.eq_1]
  refine bA (by simp; omega) ?_
  refine aE S.dec.recd rfl rfl (aD ?_)
  rw [s1]
  refine inc (by omega) ?_
  refine aQ S.dec.recd rfl (ltr rfl) (hk:=fun h1 l1 U1 R1=>?_)
  refine aQ R1 rfl (ltr rfl) (hk:=fun h2 l2 U2 R2=>?_)
  have U:=U1.trans U2 fun _ _ h=>h
  have UF:Upd F h h2:=U.mono fun i _ e=>S.dec.f i (.inl e)
  have D2:Dec L h2 F d { r with input:=inp0+i+1,skip:=false } kc.out told:=by
   have D:=S.dec
   exact { recd:=R2,past:=D.past.upd U fun i hi e=>D.d1 (e ▸ hi),fresh:=D.fresh.upd U fun i hi e=>D.d2 (e ▸ hi),total:=D.total,told:=D.told,d1:=D.d1,d2:=D.d2,d3:=D.d3,lim:=D.lim,inp:=by show inp0+i+1≤_; omega,len:=D.len,f:=D.f }
  have O2:cS h2:=S.ord.upd U fun e=>hF0 (e ▸ D2.f d (.inl rfl))
  have W2:vH h2 F d { r with input:=inp0+i+1,skip:=false } w c:=by
   cases w with
   | num need hv acc =>
    obtain ⟨w1,w2,w3,w4,w5,w6⟩:=s6
    exact ⟨w1,w2,w3,w4,w5,w6.upd U (fun i hi e=>hi.2 (.inl e)) fun _ _ h=>h⟩
   | sym l n x =>
    obtain ⟨w1,ic,sym,w2,w3,w4⟩:=s6
    exact ⟨w1,ic,sym,w2,w3.upd U (fun i hi e=>hi.2 (.inl e)) fun _ _ h=>h,w4.upd U (fun i hi e=>hi.1.2 (.inl e)) fun _ _ h=>h⟩
  have S2:DSt L h2 F d { r with input:=inp0+i+1,skip:=false } told (.wait { kc with skip:=false } w c) (inp0+i+1) []:=⟨D2,O2,S.rest,rfl,s2,rfl,s4,s5,W2,s7,by cases w <;> exact s8⟩
  have hbits:Huff.loBits ch.toNat 8=ch.toNat % 2 :: Huff.loBits (ch.toNat / 2) 7:=rfl
  have hal:Infl.run L (Huff.loBits ch.toNat 8) (8 * (inp0+i)) (.wait kc w c)=Infl.run L (Huff.loBits ch.toNat 8) (8 * (inp0+i)) (.wait { kc with skip:=false } w c):=by
   rw [hbits]; exact Infl.run_aligned (by omega)
  have hrl:=oO (L:=L) (Huff.loBits ch.toNat 8) (8 * (inp0+i)) (.wait { kc with skip:=false } w c)
  have hrf:8 * (inp0+i)+1≤(Infl.run L (Huff.loBits ch.toNat 8) (8 * (inp0+i)) (.wait { kc with skip:=false } w c)).1:=by rw [hbits]; exact y9
  rw [sT] at hrl
  rw [qE,hal] at hq
  refine z8 (inp:=inp0+i+1) hat hslen hF0 (by omega) 8 0 h2 _ { kc with skip:=false } w c rfl (fun _=>rfl) S2 (fun i hi=>hF i (by omega)) fun h3 r3 U3 S3=>?_
  rw [Nat.pow_zero,Nat.div_one,show 8 * (inp0+i+1 - 1)+0=8 * (inp0+i) by omega] at S3 ⊢
  have hpos:=fun {k':bF} {w':dA} {c':bW} hh=>Infl.run_pos (L:=L) (Huff.loBits ch.toNat 8) (8 * (inp0+i)) (.wait { kc with skip:=false } w c) (k:=k') (w:=w') (c:=c') hh
  rw [sT] at hpos
  generalize hX:Infl.run L (Huff.loBits ch.toNat 8) (8 * (inp0+i)) (.wait { kc with skip:=false } w c)=X at S3 hq hrl hrf hpos ⊢
  obtain ⟨p,o⟩:=X
  simp only at S3 hq hrl hrf hpos ⊢
  have UF3:Upd F h h3:=UF.trans U3 fun _ _ h=>h
  cases o with
  | wait k' w' c' =>
   have hp:p=8 * (inp0+(i+1)):=by rw [hpos rfl]; omega
   subst hp
   refine ih (i+1) h3 r3 k' w' c' htn (by omega) S3 (fun i hi=>hF i (Nat.le_trans UF3.1 hi)) fun h4 r4 U4 S4=>?_
   exact hq h4 r4 (UF3.trans U4 fun _ _ h=>h) S4
  | done k' =>
   rw [Infl.run_done] at hq
   have hr:mZ s inp0 (p,.done k')=s.drop (i+1):=by
    unfold mZ
    simp only
    congr 1; omega
   rw [hr] at hq
   exact tail h3 r3 _ _ _ S3 rfl (hq h3 r3 UF3 ⟨S3.dec,S3.ord,S3.rest,S3.st⟩)
  | err e' k' =>
   rw [Infl.run_err] at hq
   exact .inl (hq h3 r3 UF3 ⟨S3.dec,S3.ord,S3.rest,S3.st⟩)
theorem aB7 {s:List UInt8} {kc:bF} {w:dA} {c:bW} {inp:Nat} (hF0:¬ F 0) (hs:inp+s.length<1099511627776) (S:DSt L h F d r told (.wait kc w c) inp []) (hF:∀ i,h.length≤i→F i)
  (hq:∀ h' r',Upd F h h'→DSt L h' F d r' kc.out.length (Infl.run L (Infl.bitsOf s) (8 * inp) (.wait kc w c)).2 (inp+s.length) (mZ s inp (Infl.run L (Infl.bitsOf s) (8 * inp) (.wait kc w c))) →
   Q (.tu [.s ((Infl.run L (Infl.bitsOf s) (8 * inp) (.wait kc w c)).2.core.out.drop kc.out.length),.i .i64 (yH (Infl.run L (Infl.bitsOf s) (8 * inp) (.wait kc w c)).2)]) h') :
  C Y0.id [dp d,.s s] h Q:=by
 obtain ⟨s1,s2,s3,s4,s5,s6,s7,s8⟩:=S.st
 refine Y0.call ?_
 simp only [Y0.t, ← Y0.p0.eq_1]
 refine fD (by kernel_rfl) (bE (aX rfl ?_))
 simp only [bI,bH]
 refine aE S.dec.recd rfl rfl (bE ?_)
 rw [s5]
 refine aX rfl (aE S.dec.recd rfl rfl (bE ?_))
 rw [s4]
 refine Y0.i0 ?_
 simp only [Y0.t0,bI,bH, ← Y0.p1.eq_1]
 refine aX rfl ?_
 refine aQ S.dec.recd rfl (ltr rfl) (hk:=fun h1 l1 U1 R1=>?_)
 have UF:Upd F h h1:=U1.mono fun i _ e=>S.dec.f i (.inl e)
 have D1:Dec L h1 F d { r with fresh:=.sl none 0 none } kc.out kc.out.length:=by
  have D:=S.dec
  exact { recd:=R1,past:=D.past.upd U1 fun i hi e=>D.d1 (e ▸ hi),fresh:=.inl ⟨rfl,by simp⟩,total:=D.total,told:=Nat.le_refl _,d1:=D.d1,d2:=fun h=>h,d3:=fun _ _ h=>h,lim:=D.lim,inp:=D.inp,len:=D.len,f:=fun i hi=>hi.elim (fun e=>D.f i (.inl e)) fun hi=>hi.elim (fun e=>D.f i (.inr (.inl e))) fun e=>e.elim }
 have O1:cS h1:=S.ord.upd U1 fun e=>hF0 (e ▸ D1.f d (.inl rfl))
 have hg:∀ i,Gd F d r i→Gd F d { r with fresh:=.sl none 0 none } i:=fun i hi=>⟨hi.1,fun m=>hi.2 (m.elim .inl fun m=>m.elim (fun e=>.inr (.inl e)) fun e=>e.elim)⟩
 have W1:vH h1 F d { r with fresh:=.sl none 0 none } w c:=by
  cases w with
  | num need hv acc =>
   obtain ⟨w1,w2,w3,w4,w5,w6⟩:=s6
   exact ⟨w1,w2,w3,w4,w5,w6.upd U1 (fun i hi e=>hi.2 (.inl e)) fun i _ h=>hg i h⟩
  | sym l n x =>
   obtain ⟨w1,ic,sym,w2,w3,w4⟩:=s6
   exact ⟨w1,ic,sym,w2,w3.upd U1 (fun i hi e=>hi.2 (.inl e)) fun i _ h=>hg i h,w4.upd U1 (fun i hi e=>hi.1.2 (.inl e)) fun i _ h=>⟨hg i h.1,h.2⟩⟩
 refine z9 (inp0:=inp) (by omega) hF0 (by omega) s 0 h1 { r with fresh:=.sl none 0 none } kc w c (List.drop_zero) (Nat.zero_le _) ⟨D1,O1,S.rest,s1,s2,s3,s4,s5,W1,s7,s8⟩ (fun i hi=>hF i (by omega)) fun h2 r2 U2 S2=>?_
 exact hq h2 r2 (UF.trans U2 fun _ _ h=>h) S2
theorem zI {s:List UInt8} {o:Out} {inp:Nat} {rest:List UInt8} (S:DSt L h F d r told o inp rest) (ho:∀ k w c,o ≠ .wait k w c) (hq:Q (.tu [.s [],.i .i64 10]) h):C Y0.id [dp d,.s s] h Q:=by
 refine Y0.call ?_
 simp only [Y0.t, ← Y0.p0.eq_1]
 refine fD (by kernel_rfl) (bE (aX rfl ?_))
 simp only [bI,bH]
 have P0:Y0.p0 (aK h Q) (dp d) s true h:=by
  refine Y0.i0 ?_
  simp only [Y0.t0]
  exact bA rfl (.inl hq)
 refine aE S.dec.recd rfl rfl (bE ?_)
 have hst:=S.st
 cases o with
 | wait k w c=>exact absurd rfl (ho k w c)
 | err e k=>rw [hst.2.1]; exact bA rfl P0
 | done k =>
  rw [hst.2]
  refine aX rfl (aE S.dec.recd rfl rfl (bE ?_))
  rw [hst.1]; exact P0
theorem aFW {o:Out} {inp:Nat} {rest:List UInt8} (S:DSt L h F d r told o inp rest) (hq:Q (.b (match o with | .done _=>true | _=>false)) h):C Y25.id [dp d] h Q:=by
 refine Y25.call ?_
 simp only [Y25.t, ← Y25.p0.eq_1]
 refine rG (by kernel_rfl) (bE (bA rfl ?_))
 simp only [bI,bH]
 refine aE S.dec.recd rfl rfl (bE ?_)
 refine Y25.i0 ?_
 simp only [Y25.t0]
 have hst:=S.st
 cases o with
 | wait k w c=>rw [hst.2.2.2.1]; exact .inl hq
 | err e k=>rw [hst.1]; exact .inl hq
 | done k=>rw [hst.1]; exact .inl hq
def bnd (n:Int) (lo hi:Nat):Nat:=(min (max n lo) hi).toNat
theorem aFS (n:Int) {lo hi:Nat} (h:lo≤hi):mmI false (mmI true n (lo:Int)) (hi:Int)=(bnd n lo hi:Int):=by
 unfold mmI bnd
 simp only [cond_true,cond_false]
 split <;> split <;> omega
def gZ (o ra:Int):Lim:=⟨bnd o 0 65536,bnd ra 1 1100⟩
theorem aE7 {o ra : Int} (O : cS h) (hq : ∀ h' d r, Upd (fun _ => False) h h' → h.length ≤ d → DSt (gZ o ra) h' (fun i => h.length ≤ i) d r 0 Infl.start 0 [] → Q (dp d) h') : C Y42.id [.ag [.i .i64 o, .i .i64 ra]] h Q := by
  have bb:∀ {n:Int} {lo hi:Nat} {h:aA} {Q:AV→aA→Prop},lo≤hi→Q (iN (bnd n lo hi)) h→C Y43.id [.i .i64 n,iN lo,iN hi] h Q:=fun {n lo hi h Q} hl hq=>by
    refine Y43.call ?_
    simp only [Y43.t]
    exact aM (aFS n hl) (.inl hq)
  refine Y42.call ?_
  simp only [Y42.t]
  refine bS (hk:=fun h1 l1 U1 R1=>?_)
  have R1:bC h1 h.length [.i .i64 o,.i .i64 ra]:=R1
  have e2:(AV.ag [.i .i64 o,.i .i64 ra]).parts.length=2:=rfl
  simp only [e2,bH]
  refine aE R1 rfl rfl (aD (aE R1 rfl rfl (aD ?_)))
  refine bb (lo:=0) (hi:=65536) (by decide) (aD ?_)
  refine aE R1 rfl rfl (aD ⟨rfl, ?_⟩)
  refine bb (lo:=1) (hi:=1100) (by decide) (aD ?_)
  refine aE5 (cs:=DR.cells (gZ o ra) ⟨.sl none 0 none,0,.sl none 0 none,0,false,false,false,false,[],0,0,0,.p none,.nf⟩) rfl ?_
  refine bS (hk:=fun h2 l2 U2 R2=>?_)
  have U:=U1.then U2
  have D2:Dec (gZ o ra) h2 (fun i=>h.length≤i) h1.length ⟨.sl none 0 none,0,.sl none 0 none,0,false,false,false,false,[],0,0,0,.p none,.nf⟩ [] 0:=
    { recd:=R2,past:=.inl ⟨rfl,rfl⟩,fresh:=.inl ⟨rfl,rfl⟩,total:=rfl,told:=Nat.le_refl _,d1:=fun h=>h,d2:=fun h=>h,d3:=fun _ h=>h.elim,lim:=⟨by show bnd o 0 65536≤_; unfold bnd; omega,by show bnd ra 1 1100≤_; unfold bnd; omega⟩,inp:=by decide,len:=by decide,f:=fun i hi=>by
        rcases hi with e | e | e
        · subst e; exact U1.1
        · exact e.elim
        · exact e.elim }
  refine sH D2 (fun i hi=>Nat.le_trans U.1 hi) rfl fun e h3 r3 P=>aD (.inl ?_)
  have hU3:Upd (fun _=>False) h h3:=U.own P.upd U1.1
  obtain ⟨w0,w1,w2,w3,w4,w5⟩:=P.st
  exact hq h3 h1.length r3 hU3 U1.1 ⟨P.dec,O.upd hU3 fun h=>h,P.rest,P.inp,w1,w2,w3,P.bad,w4,w5,by show 0<3; decide⟩
end
end Go.Proofs.YtpaphfeihpgamaaDoor
namespace Go.Proofs.YtpaphfeihpgamaaDoor
open Go.GAM
open Go.Infl (bF dA bW Out Lim)
def aGY (e:Nat):Int:=if e=3 then 1 else if e=0 then 0 else eno e
section
variable [XR] {h:aA} {Q:AV→aA→Prop} {L:Lim} {s:List UInt8} {d:Nat} {r:RS} {out:List UInt8} {F:Infl.Fin}
end
end Go.Proofs.YtpaphfeihpgamaaDoor
namespace Go.Proofs.YtpaphfeihpgamaaDoor
open Go.GAM
open Go.Infl (bF dA bW Out Lim)
def aBV (L:Lim) (s:List UInt8):List UInt8 × Int:=match Infl.run L (Infl.bitsOf s) 0 Infl.start with
 | (p,.done k)=>if s.drop ((p+7) / 8)=[] then (k.out,0) else ([],2)
 | (_,.err e _)=>([],eno e)
 | (_,.wait ..)=>([],1)
theorem aDS {e:Nat} (h:e=1∨e=2):aGY e=eno e∧eno e≠0:=by rcases h with rfl | rfl <;> exact ⟨rfl,by decide⟩
section
variable [XR] {h:aA} {Q:AV→aA→Prop} {L:Lim} {s:List UInt8} {o ra:Int}
theorem cS.lt (O:cS h):0<h.length:=by obtain ⟨b,hb,_⟩:=O; exact aI hb
def aGD:Out→Prop
 | .err e _=>e=1∨e=2
 | _=>True
theorem aEZ (O:cS h) (hs:s.length<1073741824) (hq:∀ h',Upd (fun _=>False) h h'→aGD (Infl.run (gZ o ra) (Infl.bitsOf s) 0 Infl.start).2→Q (.tu [.s (aBV (gZ o ra) s).1,.i .i64 (aBV (gZ o ra) s).2]) h'):C Y46.id [.s s,.ag [.i .i64 o,.i .i64 ra]] h Q:=by
 refine Y46.call ?_
 simp only [Y46.t]
 refine bS (hk:=fun h1 l1 U1 R1=>?_)
 have R1:bC h1 h.length [.i .i64 o,.i .i64 ra]:=R1
 have e2:(AV.ag [.i .i64 o,.i .i64 ra]).parts.length=2:=rfl
 rw [e2]
 refine jN R1 rfl ?_
 have O1:cS h1:=O.upd U1 fun h=>h
 refine aE7 O1 fun h2 d r U2 hd S2=>?_
 have hlt:=O1.lt
 refine aB7 (F:=fun i=>h1.length≤i) (by omega) (by omega) S2 (fun i hi=>Nat.le_trans U2.1 hi) fun h3 r3 U3 S3=>?_
 have U:Upd (fun _=>False) h h3:=(U1.then U2).ownP U3 fun i hi=>Nat.le_trans U1.1 hi
 simp only [eD,eC]
 unfold aBV at hq
 have e0:Infl.run (gZ o ra) (Infl.bitsOf s) (8 * 0) (.wait ⟨[],false,false⟩ (.num 3 0 0) .block)=Infl.run (gZ o ra) (Infl.bitsOf s) 0 Infl.start:=rfl
 rw [e0] at S3 ⊢
 generalize Infl.run (gZ o ra) (Infl.bitsOf s) 0 Infl.start=X at S3 hq ⊢
 obtain ⟨p,x⟩:=X
 have D3:=S3.dec
 have hst:=S3.st
 have hrs:=S3.rest
 refine cC (aD ?_)
 cases x with
 | err e k =>
  obtain ⟨h1',h2',h3'⟩:=hst
  have hne:=(aDS h3').2
  refine bA (by show (!decide (eno e=0))=true; simp [hne]) (.inl (hq h3 U h3'))
 | wait k w c =>
  obtain ⟨_,_,_,hdn,_⟩:=hst
  refine aX rfl ?_
  simp only [bI,bH]
  refine aE D3.recd rfl rfl (bE ?_)
  rw [hdn]
  exact bA rfl (.inl (hq h3 U trivial))
 | done k =>
  obtain ⟨hdn,_⟩:=hst
  refine aX rfl ?_
  simp only [bI,bH]
  refine aE D3.recd rfl rfl (bE ?_)
  rw [hdn]
  refine aX rfl (aE D3.recd rfl rfl (cC ?_))
  have hr:r3.rest=s.drop ((p+7) / 8):=by rw [hrs]; unfold mZ; simp
  rw [hr]
  refine aR ?_ ?_ <;> intro e
  ·have e : ¬ s.drop ((p + 7) / 8) = [] := by simpa using e
   have:=hq h3 U trivial
   simp only [if_neg e] at this
   exact .inl this
  ·have e : s.drop ((p + 7) / 8) = [] := by simpa using e
   have:=hq h3 U trivial
   simp only [if_pos e] at this
   exact .inl this
def aGV [XR]:Prop:=∀ {h:aA} {Q:AV→aA→Prop},cS h→(∀ h',Upd (fun _=>False) h h'→Q (.b true) h')→C Y21.id [] h Q
end
end Go.Proofs.YtpaphfeihpgamaaDoor
namespace Go.Proofs.YtpaphfeihpgamaaDoor
open Go.GAM
open Go.Infl (bF dA bW Out Lim)
theorem aDF (a b:List UInt8):Infl.bitsOf (a++b)=Infl.bitsOf a++Infl.bitsOf b:=List.flatMap_append
def mJ (L:Lim) (S:List UInt8):Nat × Out:=Infl.run L (Infl.bitsOf S) 0 Infl.start
theorem aA5 (L:Lim):mJ L []=(0,Infl.start):=Infl.run_nil
theorem aCQ {L:Lim} {S:List UInt8} {k:bF} {w:dA} {c:bW} (h:(mJ L S).2 = .wait k w c):mJ L S=(8 * S.length,.wait k w c):=by
 have:=Infl.run_pos _ _ _ h
 rw [Infl.bits_len,Nat.zero_add] at this
 exact Prod.ext this h
theorem aCA {L:Lim} {S s:List UInt8} {k:bF} {w:dA} {c:bW} (h:(mJ L S).2 = .wait k w c):mJ L (S++s)=Infl.run L (Infl.bitsOf s) (8 * S.length) (.wait k w c):=by
 have:=aCQ h
 unfold mJ at this ⊢
 rw [aDF,Infl.run_append,this]
theorem aD0 [XR] {h:aA} {Q:AV→aA→Prop} {L:Lim} {F:Nat→Prop} {d:Nat} {r:DR} {told:Nat} {S s:List UInt8} {k:bF} {w:dA} {c:bW} (hst:(mJ L S).2 = .wait k w c) (D:DSt L h F d r told (.wait k w c) S.length []) (hlen:S.length+s.length<1099511627776) (hF0:¬ F 0) (hF:∀ i,h.length≤i→F i)
  (hq:∀ h' r' told' inp' rest',Upd F h h'→DSt L h' F d r' told' (mJ L (S++s)).2 inp' rest'→(∀ k' w' c',(mJ L (S++s)).2 = .wait k' w' c'→inp'=(S++s).length∧rest'=[])→Q (.tu [.s ((mJ L (S++s)).2.core.out.drop k.out.length),.i .i64 (yH (mJ L (S++s)).2)]) h'):C Y0.id [dp d,.s s] h Q:=by
 refine aB7 hF0 hlen D hF fun h1 r1 U1 D1=>?_
 rw [← aCA hst] at D1 ⊢
 refine hq h1 r1 _ _ _ U1 D1 fun k' w' c' e=>⟨by rw [List.length_append], ?_⟩
 unfold mZ
 rw [e]
end Go.Proofs.YtpaphfeihpgamaaDoor
namespace Go.Proofs.YtpaphfeihpgamaaDoor
open Go.GAM
theorem aGL:∀ c:Fin 256,bQ .xor .u8 (IntKind.max .u8) ((c.1:Nat):Int)=((255 - c.1:Nat):Int):=by decide +kernel
theorem ofN {k:Nat} (hk:k<256):byteAV (UInt8.ofNat k) = .i .u8 (k:Int):=by
 unfold byteAV
 rw [UInt8.toNat_ofNat',Nat.mod_eq_of_lt hk]
theorem xI {n:Nat}:IntKind.wrap .u8 (n:Int)=((n % 256:Nat):Int):=by
 simp only [IntKind.wrap,IntKind.bits,IntKind.signed,Bool.false_and]
 have:(2:Int) ^ 8=256:=by decide
 rw [this]
 simp
def hdr (n:Nat):List UInt8:=[1,UInt8.ofNat (n % 256),UInt8.ofNat (n / 256),UInt8.ofNat (255 - n % 256),UInt8.ofNat (255 - n / 256)]
theorem aAT {n:Nat} (h:n<65536):(hdr n).map byteAV=[.i .u8 1,.i .u8 ((n % 256:Nat):Int),.i .u8 ((n / 256:Nat):Int),.i .u8 ((255 - n % 256:Nat):Int),.i .u8 ((255 - n / 256:Nat):Int)]:=by
 unfold hdr
 rw [List.map_cons,List.map_cons,List.map_cons,List.map_cons,List.map_cons,List.map_nil,ofN (by omega),ofN (by omega),ofN (by omega),ofN (by omega)]
 first | done | rfl
theorem aGE {n:Nat} {K:Int→Prop} (hk:K ((n / 256:Nat):Int)):lR .i64 (n:Int) 8 K:=by
 refine ⟨by decide, ?_⟩
 have e:(n:Int).fdiv (2 ^ (min (8:Int).toNat IntKind.i64.bits))=((n / 256:Nat):Int):=by
  show (n:Int).fdiv (2 ^ 8)=_
  rw [show (2:Int) ^ 8=((256:Nat):Int) by decide,Int.ofNat_fdiv]
 rw [e]; exact hk
section
variable [XR] {h:aA} {Q:AV→aA→Prop} {s:List UInt8}
theorem aAG (hG:s.length≤59∨vP) (hs:s.length≤65535) (hq:Q (.s (Infl.storedBytes s)) h):C Y17.id [.s s] h Q:=by
 refine Y17.call ?_
 simp only [Y17.t, ← Y17.p0.eq_1]
 refine cE fun h1 l1 U1 R1=>?_
 have R1:iQ h1 h.length nilS:=R1
 refine Y17.i0 ?_
 simp only [Y17.t0, ← Y17.p1.eq_1]
 have e0:mmI false (s.length:Int) 65535=((s.length:Nat):Int):=by unfold mmI; simp only [cond_false]; split <;> omega
 refine aM e0 (bA (decide_eq_true rfl) ?_)
 refine Y17.i1 ?_
 simp only [Y17.t1, ← Y17.p0.eq_1]
 have n8:s.length / 256<256:=by omega
 refine aGE ?_
 rw [xI,xI,Nat.mod_eq_of_lt n8]
 refine aM (aGL ⟨s.length % 256,Nat.mod_lt _ (by decide)⟩) (aGE ?_)
 rw [xI,Nat.mod_eq_of_lt n8]
 refine aM (aGL ⟨s.length / 256,n8⟩) ?_
 refine eN (cs:=(hdr s.length).map byteAV) (by rw [aAT (by omega)] <;> rfl) rfl fun x h2 l2 U2 R2 F2=>?_
 have hx:¬ aO x h.length:=fun e=>by have:=F2 _ e; have:=U1.1; omega
 refine uI (ns:=hdr s.length) (n0:=by show 0<5; decide) (R1.upd U2 fun h=>h) (by show 5≤64; decide) R2 hx fun h3 id U3 hid R3 B3=>?_
 have hl1:=R1.lt
 have hl2:=U2.1
 refine uM (Nat.le_refl _) ?_
 rw [List.take_length]
 refine wS (bs:=hdr s.length) (ns:=s) (hG.imp (fun h=>by show 5+s.length≤64; omega) fun h=>h) R3 B3 (by omega) (by show 0<5; decide) (by omega) fun h4 id' N ex U4 hid' R4 B4=>?_
 refine yA (Nat.le_refl _) (bA rfl ?_)
 have e1:(hdr s.length).length+s.length=(hdr s.length++s).length:=by simp
 rw [e1] at R4
 refine aGQ R4 B4 (cC ?_)
 have hl3:=U3.1
 refine gX rfl (Upd.ext ?_) hq
 exact (((U1.then U2).own U3 (Nat.le_refl _)).trans U4 fun i hi e=>by omega)
end
def X1:aS:=orR (aD3 aD4) (aFX prog (@C xr0) (dO prog))
theorem aCR:jC prog X1:=fun w0 Fz μ f args h K hk=>
 hk.elim (o9 w0 Fz μ f args h K) (z6 mixedOK sizeOK (t9 mixedOK sizeOK o9) (g9 _) (fun w0 Fz μb Y hY=>gG mixedOK sizeOK hY) w0 Fz μ f args h K)
noncomputable instance xr1:XR:=⟨X1⟩
theorem aFN {W:World}:b6 prog W (fun B=>B<W.heap.size) (fun _ _=>none) (@X xr1):=aCR _ _ _
theorem s0 {s:List UInt8} (hs:s.length<1073741824) : @oF xr1 s:=fun h Q i v hi S hq=>xW (.inr (aEN hs hi S hq))
theorem uV {h:aA} {Q:AV→aA→Prop} (hq:Q (.ag [.i .i64 65536,.i .i64 1100]) h):C Y40.id [] h Q:=by
 refine Y40.call ?_
 unfold Y40.t
 refine cE fun h1 l1 U1 R1=>g8 R1 rfl rfl rfl fun h2 l2 U2 R2=>jN R2 rfl ?_
 exact gX rfl (Upd.ext (U1.own U2 (Nat.le_refl _))) hq
theorem sJ : @aGV xr1:=by
 intro h Q O hq
 refine Y21.call ?_
 simp only [Y21.t, ← Y21.p0.eq_1]
 refine uV (aEZ O (by decide) fun h1 U1 _=>?_)
 have e1:aBV (gZ 65536 1100) [75,4,0]=([97],0):=by decide +kernel
 rw [e1]
 simp only [eD,eC]
 refine cC (aD (uV (aEZ (O.upd U1 fun h=>h) (by decide) fun h2 U2 _=>?_)))
 have e2:(aBV (gZ 65536 1100) [75,4]).2=1:=by decide +kernel
 simp only [eD,eC]
 rw [e2]
 refine cC (aD (bA (by decide) (bA (by decide) (bA (by decide) ?_))))
 refine aAG (.inl (by decide)) (by decide) (cC (bA (by decide +kernel) ?_))
 refine o5 (s0 (by decide)) (by decide) (cC (bA (by decide +kernel) ?_))
 refine o5 (s0 (by decide)) (by decide) (cC ?_)
 refine Y21.i0 ?_
 simp only [Y21.t0]
 have e3:decide (Infl.fixedText [97,97,97,97,97,97]=[75,4,3,0])=true:=by decide +kernel
 rw [e3]
 exact gX rfl (Upd.ext (U1.then U2)) (hq _ (Upd.refl _ _))
end Go.Proofs.YtpaphfeihpgamaaDoor
namespace Go.Proofs.YtpaphfeihpgamaaDoor
open Go.GAM Go.RowKit Go.ChangeShapes
section
variable {H:Type} {enc:TypeId × Value→H} {w:World}
theorem aES {g:Nat} {cs:Array Value} {n:String} (hg:prog.globalNamed n=some g) (hv:w.var? prog n=some cs):sD (gW w fun _=>1) g (cs.toList.map (tG w fun _=>1)):=by
 obtain ⟨t,fr,h⟩:=y8 hg hv
 have hlt:g<w.heap.size:=(Array.getElem?_eq_some_iff.1 h).1
 refine ⟨qR w (fun _=>1) g, ?_, ?_, ?_, ?_⟩
 ·unfold gW
  rw [List.getElem?_append_left (by simpa using hlt),List.getElem?_map,List.getElem?_range hlt] <;> rfl
 ·simp only [qR,h]
 ·simp only [qR,h]; simp
 ·simp only [qR,h]
theorem aFE {l : List (String × DataW Unit)} (h1 : ("intrusion/inflate.order", Rows.laid_intrusion_inflate_order) ∈ l) (hL : laidMet prog l w) : cS (gW w fun _ => 1) := by
 obtain ⟨g,t,cs,fuel,p,hg,ht,hv,hd⟩:=xD h1 hL
 obtain rfl:=Option.some.inj ((show prog.globalNamed "intrusion/inflate.order" = some 0 by kernel_rfl).symm.trans hg)
 obtain rfl:=Option.some.inj ((show (prog.globals[0]?).map (·.type)=some 90 by kernel_rfl).symm.trans ht)
 have hG:=aES hg hv
 obtain ⟨xs,m,rfl,hx,hlen,hl,hf⟩:=DataW.trod_array Tryd.underlying90 hd
 have c1:prog.cellsOf 3=1:=by kernel_rfl
 have c19:prog.cellsOf 90=19:=by kernel_rfl
 rw [c19] at hlen
 rw [c1] at hf
 have hxs:xs.map (·.1)=Infl.order.map fun n:Nat=>(.lit (.int .i64 (n:Int)):DataW Unit):=by
  have:=(congrArg Prod.fst hx).symm
  unfold Rows.laid_intrusion_inflate_order at this
  exact DataW.agg.inj this
 have e:cs.toList.map (tG w fun _=>1)=bB Infl.order:=by
  refine List.ext_getElem? fun i=>?_
  by_cases hi:i<19
  ·have h1 := hf i hi
   have h2:(xs.map (·.1))[i]? = (Infl.order.map fun n:Nat=>(.lit (.int .i64 (n:Int)):DataW Unit))[i]?:=by rw [hxs]
   obtain ⟨c,hc⟩:∃ c,cs.toList[i]? = some c:=⟨_,List.getElem?_eq_getElem (by omega)⟩
   have h3:(cs.toList.drop (i * 1)).take 1=[c]:=by
    rw [Nat.mul_one,List.drop_eq_getElem_cons (by omega)]
    simp only [List.take_succ_cons,List.take_zero]
    rw [List.getElem?_eq_getElem (by omega)] at hc
    rw [Option.some.inj hc]
   rw [h3] at h1
   obtain ⟨o,ho⟩:∃ o,Infl.order[i]? = some o:=⟨_,List.getElem?_eq_getElem (by show i<19; exact hi)⟩
   rw [List.getElem?_map,List.getElem?_map, ← h1,ho] at h2
   cases hy:DataW.trod (fun _=>()) prog w 0 (fun _=>true) false m 3 [c] with
   | none=>rw [hy] at h2; cases h2
   | some y =>
    rw [hy] at h2
    obtain ⟨n,e1,e2,_⟩:=DataW.trod_int (show prog.underlying 3=some (.int .i64) by kernel_rfl) hy
    have e1:=List.singleton_inj.1 e1
    subst e1 e2
    have e3:n=(o:Int):=by simpa using h2
    unfold bB
    rw [List.getElem?_map,List.getElem?_map,hc,ho]
    simp [tG,nG,e3]
  ·have h0 : Infl.order.length = 19 := rfl
   rw [List.getElem?_eq_none (by simp at hlen ⊢; omega),List.getElem?_eq_none (by unfold bB; rw [List.length_map,h0]; omega)]
 rw [e] at hG
 exact hG
theorem aFV {n:Int} (h:(Lit.int .u16 n).wf=true):0≤n∧n<65536:=by
 simp [Lit.wf,IntKind.min,IntKind.max,IntKind.signed,IntKind.bits] at h
 omega
end
end Go.Proofs.YtpaphfeihpgamaaDoor
namespace Go.Proofs.YtpaphfeihpgamaaDoor
open Go.GAM
theorem rA {s:List UInt8}:∀ (f i:Nat),i≤s.length→(Infl.encItems Infl.fixedL Infl.fixedD (Infl.itemsR s f i)).length≤64 * f
 | 0, i, hi => by
  show ([]:List Nat).length≤_
  simp
 | f + 1, i, hi => by
  by_cases hc:i<s.length
  ·obtain ⟨c, hch⟩ : ∃ c, s[i]? = some c := ⟨_, List.getElem?_eq_getElem hc⟩
   rw [qX hch]
   obtain ⟨h1,h2⟩:=yK (c:=c) hc
   have h3:=rA f _ h2
   have h4:=yU (a:=Infl.fixedL) (b:=Infl.fixedD) m6 mS h1
   show (Infl.encItem _ _ _++Infl.encItems _ _ _).length≤_
   rw [List.length_append]
   omega
  ·rw [Infl.itemsR_none _ _ (by omega)]
   show ([]:List Nat).length≤_
   simp
theorem qS (s:List UInt8):(Infl.fixedText s).length≤16 * s.length+100:=by
 unfold Infl.fixedText
 rw [Infl.pack_len (Infl.fixed_two _)]
 have h:=rA (s:=s) (s.length+1) 0 (Nat.zero_le _)
 unfold Infl.fixedBits
 have h2:(Huff.codeBits Infl.fixedL 256).length≤20:=by decide +kernel
 have h3:(Huff.loBits 3 3).length=3:=rfl
 simp only [List.length_append]
 rw [h3]
 omega
end Go.Proofs.YtpaphfeihpgamaaDoor
namespace Go.Proofs.YtpaphfeihpgamaaDoor
open Go.GAM Go.RowKit Go.ChangeShapes
open Go.Infl (bF dA bW Out Lim)
section
variable {h:aA} {Q:AV→aA→Prop} {s:List UInt8} {o:Nat}
theorem aD8 {o:Nat} (h:o<65536):gZ (o:Int) 1100=⟨o,1100⟩:=by
 unfold gZ bnd
 simp only [Lim.mk.injEq]
 constructor <;> omega
theorem yT {o n:Nat} {l:List UInt8} (hn:n≤o) (h3:n≤3000) {inp:Nat} (h2:2≤inp) (hl:l.length<n):Infl.full ⟨o,1100⟩ inp l=false:=by
 unfold Infl.full
 simp only [Bool.or_eq_false_iff,decide_eq_false_iff_not]
 constructor <;> omega
theorem tO (O:cS h) (ho:o<65536) (hq:∀ h',Q (.b true) h'):C Y18.id [.s s,.i .u16 (o:Int)] h Q:=by
 refine Y18.call ?_
 simp only [Y18.t, ← Y18.p0.eq_1, ← Y18.p1.eq_1]
 refine aR ?_ ?_ <;> intro e
 ·exact sJ O fun h2 U2=>bE (.inl (hq h2))
 ·have e : s.length ≤ 3000 := by simp at e; omega
  have ew:IntKind.wrap .i64 (o:Int)=(o:Int):=aV (by omega) (by omega)
  rw [ew]
  refine aE7 O fun h1 d r U1 hd D1=>?_
  refine fD (by kernel_rfl) (bE (aX rfl ?_))
  have O1:=O.upd U1 fun h=>h
  have hlt:=O.lt
  have hU1:=U1.1
  refine o5 (s0 (by omega)) (by omega) (cC ?_)
  have hlen:=qS s
  refine aD0 (S:=[]) (by rw [aA5] <;> rfl) D1 (by simp; omega) (by omega) (fun i hi=>by omega) fun h2 r2 told inp rest U2 D2 _=>?_
  have O2:=O1.upd U2 (by omega)
  rw [List.nil_append] at D2 ⊢
  simp only [eD,eC]
  refine cC (aD ?_)
  have e0:(Infl.start.core.out).length=0:=rfl
  rw [aD8 ho] at D2 ⊢
  refine uG (n:=decide ((s.length:Int)≤(o:Int))) rfl ?_
  have nil:∀ l:List UInt8,l.drop (⟨[],false,false⟩:bF).out.length=l:=fun l=>rfl
  refine aR (fun hc=>?_) fun hc=>?_
  ·have hc : s.length ≤ o := by have := of_decide_eq_true hc; omega
   obtain ⟨i,hr,_⟩:=Infl.fixedText_reads (L:=⟨o,1100⟩) (s:=s) (rest:=[]) (fun l inp h2 hl=>yT hc e h2 hl)
   rw [List.append_nil] at hr
   have hst:mJ ⟨o,1100⟩ (Infl.fixedText s)=(i,.done ⟨s,true,false⟩):=hr
   rw [hst] at D2 ⊢
   refine bA (decide_eq_true rfl) (bA rfl ?_)
   refine aFW D2 (bE (bA rfl ?_))
   refine sJ O2 fun h3 U3=>bE (Y18.i0 ?_)
   simp only [Y18.t0]
   exact .inl (hq h3)
  ·have hc : o < s.length := by have := of_decide_eq_false hc; omega
   obtain ⟨k,hr,hk⟩:=Infl.fixedText_limited (L:=⟨3000,1100⟩) (m:=o) (s:=s) (rest:=[]) (by show o≤3000; omega) hc (fun l inp h2 hl=>yT e e h2 hl)
   rw [List.append_nil] at hr
   have hst:(mJ ⟨o,1100⟩ (Infl.fixedText s)).2 = .err 2 k:=hr
   rw [hst] at D2 ⊢
   have hk':(Out.err 2 k).core.out=s.take o:=hk
   rw [hk',nil]
   refine zI D2 (fun k w c h=>by cases h) ?_
   simp only [eD,eC]
   refine cC (aD (bA rfl ?_))
   refine uG (n:=true) (decide_eq_true (by rw [List.length_take]; omega)) (bA rfl ?_)
   refine uM (by rw [List.length_take]; omega) (bA (decide_eq_true (by rw [List.length_take,Nat.min_eq_left (by omega)])) (bA rfl ?_))
   refine sJ O2 fun h3 U3=>bE (Y18.i1 ?_)
   simp only [Y18.t1]
   exact .inl (hq h3)
end
theorem walk_InflateBudgets {H:Type} {enc:TypeId × Value→H} {s:ByteArray} {n:Int} (W:World) (hL:laidMet Tryd.prog Rows.inflateBudgetsRow.laid W) (k0:InW enc Tryd.prog W 9 (Value.string s).cells.toList)
  (k2:InW enc Tryd.prog W 31 (Value.int .u16 n).cells.toList):Calls Tryd.prog Y18.id #[.string s,.int .u16 n] W fun e w'=>e = .returned (.bool true)∧Below W.heap.size W w':=by
 obtain ⟨m,hm,hw⟩:=k2.int (show prog.underlying 31=some (.int .u16) by kernel_rfl)
 have hm:n=m:=by simpa [Value.cells] using hm
 subst hm
 have hb:=aFV hw
 obtain ⟨k,rfl⟩:∃ k:Nat,n=(k:Int):=⟨n.toNat,by omega⟩
 exact vE mixedOK sizeOK aFN (by kernel_rfl) (szOf:=fun _=>1) (.cons _ _ _ _ (.s _ _ rfl) (.cons _ _ _ _ (.i _ _) .nil)) (tO (aFE (l:=Rows.inflateBudgetsRow.laid) (List.mem_of_getElem? (i:=1) rfl) hL) (by omega) fun _=>rfl)
end Go.Proofs.YtpaphfeihpgamaaDoor
