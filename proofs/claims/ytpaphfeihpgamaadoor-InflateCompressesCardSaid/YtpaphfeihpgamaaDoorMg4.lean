/- Lemmas (several texts in one). -/
import Derived.Test.YtpaphfeihpgamaaDoorMg3
set_option linter.unusedVariables false
set_option linter.unusedSimpArgs false
set_option linter.unusedSectionVars false
set_option maxRecDepth 20000
namespace Go.Proofs.YtpaphfeihpgamaaDoor
open Go.GAM
open Go.Infl (cA d6 cH Out Lim)
section
variable [XR] {h:aA} {Q:AV→aA→Prop} {L:Lim} {F:Nat→Prop} {d:Nat} {r:DR} {out:List UInt8} {told:Nat}
theorem Stk.kind {h:aA} {v:AV} {l:List AV} (S:Stk h v l):v.parts=[v]∧v.sizeOK=true∧v.cellOK=true:=by
 rcases S with ⟨rfl,_⟩ | ⟨id,b,rfl,_⟩ <;> exact ⟨rfl,rfl,rfl⟩
theorem aCM (D : Dec L h F d r out told) (hF : ∀ i, h.length ≤ i → F i) {c : UInt8} (hq0 : Infl.full L r.input out = true → Q (.i .i64 16) h)
    (hq1:Infl.full L r.input out=false→∀ p f h',Upd (Mut d r) h h'→(∀ i,i<h.length→Mut d { r with past:=p,total:=r.total+1,fresh:=f } i→Mut d r i)→Dec L h' F d { r with past:=p,total:=r.total+1,fresh:=f } (out++[c]) told→Q (.i .i64 0) h') :
    C Y22.id [dp d,.i .u8 (c.toNat:Int)] h Q:=by
  have ht:=D.total
  have hi:=D.inp
  obtain ⟨hl1,hl2⟩:=D.lim
  have hmul:L.ratio * r.input≤1100 * 1099511627776:=Nat.mul_le_mul hl2 hi
  have hld:=D.recd.lt
  have P0 : ∀ b, b = Infl.full L r.input out → Y22.p0 (aK h Q) (dp d) (c.toNat : Int) b h := by
    intro b hb
    refine Y22.i0 ?_
    simp only [Y22.t0,bJ,bE, ← Y22.p1.eq_1]
    refine aM (fun e=>?_) fun e=>?_
    · exact .inl (hq0 (hb ▸ e))
    · have hfull : Infl.full L r.input out = false := hb ▸ e
      have hlen:out.length<65536:=by
        unfold Infl.full at hfull
        simp at hfull
        omega
      refine aE D.recd rfl rfl (aD (cQ (n:=((r.total+1:Nat):Int)) (by omega) (by omega) (by omega) ?_))
      refine aT D.recd rfl (ltr rfl) (hk:=fun h1 l1 U1 R1=>?_)
      refine aE R1 rfl rfl ?_
      have S1:=D.fresh.upd U1 fun i hi e=>D.d2 (e ▸ hi)
      refine S1.push rfl rfl (by simp; have:=D.told; omega) (by simp; have:=D.told; omega) fun f h2 U2 S2 N2=>?_
      have R2:=R1.upd U2 D.d2
      refine aT R2 rfl (ltr rfl) (hv:=(Stk.kind S2).1) (hs:=(Stk.kind S2).2.1) (hc:=(Stk.kind S2).2.2) (hk:=fun h3 l3 U3 R3=>?_)
      refine aE R3 rfl rfl ?_
      have T1:=D.past.upd U1 fun i hi e=>D.d1 (e ▸ hi)
      have T2:=T1.upd U2 D.d3
      have T3:=T2.upd U3 fun i hi e=>D.d1 (e ▸ hi)
      refine T3.rd.len ?_
      refine aX (by simp; omega) ?_
      refine Y22.i1 ?_
      simp only [Y22.t1,bJ,bE]
      refine aE R3 rfl rfl ?_
      refine T3.push rfl rfl (by simp; omega) (by simp; omega) fun p h4 U4 S4 N4=>?_
      have R4:=R3.upd U4 D.d1
      refine aT R4 rfl (ltr rfl) (hv:=(Stk.kind S4).1) (hs:=(Stk.kind S4).2.1) (hc:=(Stk.kind S4).2.2) (hk:=fun h5 l5 U5 R5=>?_)
      have hl12:=U2.1
      have hl34:=U4.1
      have fd:¬ aS f d:=fun hs=>by rcases N2 d hs with g | g; exact D.d2 g; omega
      have pd:¬ aS p d:=fun hs=>by rcases N4 d hs with g | g; exact D.d1 g; omega
      have S3:=S2.upd U3 fun i hi e=>fd (e ▸ hi)
      have pf:∀ i,aS p i→¬ aS f i:=by
        intro i hp hf
        have hfl:=S2.rd.lt hf
        rcases N4 i hp with g | g
        · rcases N2 i hf with g2 | g2
          · exact D.d3 i g g2
          · have:=D.past.rd.lt g; omega
        · omega
      have S4':=S3.upd U4 fun i hi e=>by
        rcases N2 i hi with g2 | g2
        · exact D.d3 i e g2
        · have:=D.past.rd.lt e; omega
      have S5:=S4'.upd U5 fun i hi e=>fd (e ▸ hi)
      have T5:=S4.upd U5 fun i hi e=>pd (e ▸ hi)
      refine .inl (hq1 hfull p f h5 ?_ ?_ ?_)
      · have a1 := (U1.mono (M' := Mut d r) fun i _ e => .inl e).trans U2 fun i _ e => .inr (.inr e)
        exact ((a1.trans U3 fun i _ e=>.inl e).trans U4 fun i _ e=>.inr (.inl e)).trans U5 fun i _ e=>.inl e
      · rintro i hi (e | e | e)
        · exact .inl e
        · rcases N4 i e with g | g
          · exact .inr (.inl g)
          · omega
        · rcases N2 i e with g | g
          · exact .inr (.inr g)
          · omega
      · have hto := D.told
        exact { recd := R5, past := by rw [List.map_append]; exact T5, fresh := by rw [List.drop_append_of_le_length hto, List.map_append]; exact S5, total := by simp [ht], told := by simp; omega, d1 := pd, d2 := fd, d3 := pf, lim := D.lim, inp := D.inp, len := by simp; omega,
                f := by
                  rintro i (e | e | e)
                  · exact D.f i (.inl e)
                  · rcases N4 i e with g | g
                    · exact D.f i (.inr (.inl g))
                    · exact hF i (by omega)
                  · rcases N2 i e with g | g
                    · exact D.f i (.inr (.inr g))
                    · exact hF i (by omega) }
  refine Y22.call ?_
  simp only [Y22.t,bJ,bE, ← Y22.p0.eq_1]
  refine aE D.recd rfl rfl (aD (aE D.recd rfl rfl (aD ?_)))
  refine aM (fun e=>?_) fun e=>?_
  · refine P0 true ?_
    unfold Infl.full
    simp at e
    simp; omega
  · refine aE D.recd rfl rfl (aD (aE D.recd rfl rfl (aD (aE D.recd rfl rfl (aD ?_)))))
    refine cQ (n:=((L.ratio * r.input:Nat):Int)) (by rw [Int.natCast_mul]) (by omega) (by omega) ?_
    refine cQ (n:=((L.ratio * r.input+1024:Nat):Int)) (by omega) (by omega) (by omega) ?_
    refine P0 _ ?_
    unfold Infl.full
    simp at e
    have:¬ L.output≤out.length:=by omega
    simp only [this,decide_false,Bool.false_or]
    congr 1
    simp; omega
end
end Go.Proofs.YtpaphfeihpgamaaDoor
namespace Go.Proofs.YtpaphfeihpgamaaDoor
open Go.GAM
open Go.Infl (cA d6 cH Out Lim)
theorem aED {x:Nat} (h:x<256):IntKind.wrap .u8 (x:Int)=((UInt8.ofNat x).toNat:Int):=by
 rw [tA (by omega) (by omega)]; simp; omega
section
variable [XR] {h:aA} {Q:AV→aA→Prop} {L:Lim} {F:Nat→Prop} {d:Nat} {r:DR} {out:List UInt8} {told:Nat}
theorem eS {r r':DR} (hk:∀ i,i<h.length→Mut d r' i→Mut d r i):∀ i,i<h.length→Gd F d r i→Gd F d r' i:=fun i hl hi=>⟨hi.1,fun m=>hi.2 (hk i hl m)⟩
theorem aDR {h0' : aA} {far : Nat} (h0 : 0 < far) {n : Nat} (hn : n ≤ 300) : ∀ (m i : Nat) (h : aA) (r : DR) (k : cA), i + m = n → Dec L h F d r k.out told → (∀ i, h.length ≤ i → F i) → far ≤ k.out.length →
  (∀ e h' p f t,Upd (Mut d r) h h'→(∀ i,i<h.length→Mut d { r with past:=p,total:=t,fresh:=f } i→Mut d r i)→Dec L h' F d { r with past:=p,total:=t,fresh:=f } (Infl.copyP L r.input far m k).1.out told→((Infl.copyP L r.input far m k).2=true∧e=0∨(Infl.copyP L r.input far m k).2=false∧e=16)→Q (.i .i64 e) h') →
  Y28.p0 (aK h0' Q) (dp d) far n i h:=by
 intro m
 induction m with
 | zero =>
  intro i h r k hi D hF hf hq
  obtain rfl:i=n:=by omega
  refine Y28.i0 ?_
  simp only [Y28.t0]
  exact aX (by simp) (.inl (hq 0 h r.past r.fresh r.total (Upd.refl _ _) (fun _ _ h=>h) D (.inl ⟨rfl,rfl⟩)))
 | succ m ih =>
  intro i h r k hi D hF hf hq
  refine Y28.i0 ?_
  simp only [Y28.t0,bJ,bE, ← Y28.p0.eq_1]
  refine bA (by simp; omega) ?_
  refine aE D.recd rfl rfl (aE D.recd rfl rfl (D.past.rd.len ?_))
  have hlen:=D.len
  simp only [List.length_map]
  refine cQ (n:=((k.out.length - far:Nat):Int)) (by omega) (by omega) (by omega) ?_
  obtain ⟨c,hc⟩:∃ c,k.out[k.out.length - far]? = some c:=⟨_,List.getElem?_eq_getElem (by omega)⟩
  refine D.past.rd.byte (i:=k.out.length - far) hc ?_
  have hg:k.out.getD (k.out.length - far) 0=c:=by rw [List.getD_eq_getElem?_getD,hc] <;> rfl
  refine aCM D hF (fun hfull=>?_) fun hfull p f h1 U1 K1 D1=>?_
  ·refine aD (bA rfl (.inl (hq 16 h r.past r.fresh r.total (Upd.refl _ _) (fun _ _ h => h) ?_ (.inr ?_))))
   ·unfold Infl.copyP Infl.putP
    rw [if_pos hfull]
    exact D
   ·unfold Infl.copyP Infl.putP
    rw [if_pos hfull]
    exact ⟨rfl,rfl⟩
  ·refine aD (aX rfl (inc (by omega) ?_))
   refine ih (i+1) h1 _ { k with out:=k.out++[c] } (by omega) D1 (fun i hi=>hF i (Nat.le_trans U1.1 hi)) (by simp; omega) fun e h2 p2 f2 t2 U2 K2 D2 he=>?_
   have hcp:Infl.copyP L r.input far (m+1) k=Infl.copyP L r.input far m { k with out:=k.out++[c] }:=by
    rw [Infl.copyP]
    unfold Infl.putP
    rw [if_neg (by simp [hfull]),hg]
   refine hq e h2 p2 f2 t2 (U1.trans U2 K1) (fun i hi hm=>K1 i hi (K2 i (Nat.lt_of_lt_of_le hi U1.1) hm)) (by rw [hcp]; exact D2) (by rw [hcp]; exact he)
theorem pI {input far:Nat}:∀ (m:Nat) (k:cA),(Infl.copyP L input far m k).1=⟨(Infl.copyP L input far m k).1.out,k.last,k.skip⟩
 | 0,k=>by rfl
 | m + 1, k => by
  rw [Infl.copyP]
  unfold Infl.putP
  by_cases hf:Infl.full L input k.out
  ·rw [if_pos hf]
  ·rw [if_neg hf]
   exact pI m _
theorem aFL {far n:Nat} (h0:0<far) (hn:n≤300) (hfar:far≤32768) (D:Dec L h F d r out told) (hF:∀ i,h.length≤i→F i) (hq0:out.length<far→Q (.i .i64 2) h)
  (hq:far≤out.length→∀ e h' p f t,Upd (Mut d r) h h'→(∀ i,i<h.length→Mut d { r with past:=p,total:=t,fresh:=f } i→Mut d r i)→Dec L h' F d { r with past:=p,total:=t,fresh:=f } (Infl.copyP L r.input far n ⟨out,r.last,r.skip⟩).1.out told→((Infl.copyP L r.input far n ⟨out,r.last,r.skip⟩).2=true∧e=0∨(Infl.copyP L r.input far n ⟨out,r.last,r.skip⟩).2=false∧e=16)→Q (.i .i64 e) h') :
  C Y28.id [dp d,iN n,iN far] h Q:=by
 have ht:=D.total
 refine Y28.call ?_
 simp only [Y28.t,bJ,bE, ← Y28.p0.eq_1]
 refine aE D.recd rfl rfl (aD ?_)
 refine aM (fun e=>?_) fun e=>?_
 ·exact .inl (hq0 (by simp at e; omega))
 ·have e : far ≤ out.length := by simp at e; omega
  exact aDR h0 hn n 0 h r ⟨out,r.last,r.skip⟩ (by omega) D hF e (hq e)
theorem aF3 {x n:Nat} {v:AV} (D:Dec L h F d r out told) (hF:∀ i,h.length≤i→F i) (hd:r.done=false) (hc:Clo h (Gd F d r) d 0 (.p none) (.raw n) v) (hf:fit (.raw n) x)
  (hq:∀ e h' r',cK F L h F d r told (Infl.apply L r.input ⟨out,r.last,r.skip⟩ x (.raw n)) e h' r'→Q (.i .i64 e) h'):bV C v [iN x] h Q:=by
 obtain ⟨bd,bn,rfl,B,Bn⟩:=hc
 obtain ⟨hn0,hn,hx⟩:=hf
 refine cR (by decide) (Y64.call ?_)
 simp only [Y64.t,B.ld,aED hx]
 refine aCM D hF (fun hfull=>?_) fun hfull p f h1 U1 K1 D1=>?_
 ·refine aD (bA rfl (.inl (hq 16 h r ?_)))
  simp only [Infl.apply,Infl.putP]
  rw [if_pos hfull]
  exact ⟨Upd.refl _ _,fun _ _ h=>h,D,rfl,rfl,rfl,rfl,.inr rfl,hd⟩
 ·refine aD (aX rfl ?_)
  have B1:=B.upd U1 (fun i hi hm=>hi.2 hm) (eS K1)
  have Bn1:=Bn.upd U1 (fun i hi hm=>hi.2 hm) (eS K1)
  rw [B1.ld,Bn1.ld]
  refine aD (cQ (n:=((n - 1:Nat):Int)) (by omega) (by omega) (by omega) ?_)
  refine aEM (by omega) D1 (fun i hi=>hF i (Nat.le_trans U1.1 hi)) hd fun e h2 r2 P=>aD (.inl (hq e h2 r2 ?_))
  simp only [Infl.apply,Infl.putP]
  rw [if_neg (by simp [hfull])]
  exact (P.mono fun i _ e=>D1.f i (.inl e)).from U1 (fun i _ hm=>D.f i hm) K1 rfl rfl rfl
end
end Go.Proofs.YtpaphfeihpgamaaDoor
namespace Go.Proofs.YtpaphfeihpgamaaDoor
open Go.GAM
theorem dT {h:aA} {v:AV} {l:List Nat} (R:RdI 1 h v (bB l) l.length) {k:IntKind} {i x:Nat} (hx:l[i]? = some x) {K:Int→Prop} (hk:K (x:Int)):aP 1 v (.i k (i:Int)) h fun a=>aB a h fun y=>asI .i64 y K:=by
 have hi:=aN hx
 rw [aF8 R (by omega) (by omega),Int.toNat_natCast,aGJ R hi Nat.one_pos (c:=.i .i64 (x:Int)) (by unfold bB; rw [Nat.mul_one,Nat.add_zero,List.getElem?_map,hx] <;> rfl)]
 exact hk
theorem aW (l:List Nat):(bB l).length=l.length:=by simp [bB]
theorem g9 {l:List Nat} {i x:Nat} (hx:l[i]? = some x):(bB l)[i]? = some (iN x):=by unfold bB; rw [List.getElem?_map,hx] <;> rfl
theorem jB (l:List Nat) (i x:Nat):(bB l).set i (iN x)=bB (l.set i x):=by unfold bB; rw [List.map_set]
theorem eT (a b:List Nat):bB (a++b)=bB a++bB b:=by unfold bB; rw [List.map_append]
theorem j7 (l:List Nat):(bB l).all AV.cellOK=true:=by
 rw [List.all_eq_true]; intro x hx
 obtain ⟨i,_,rfl⟩:=List.mem_map.1 hx
 rfl
theorem aBB (a b:Nat):mmI true (a:Int) (b:Int)=((max a b:Nat):Int):=by
 unfold mmI
 rw [cond_true]
 by_cases h:(b:Int) > a
 ·have : max a b = b := by omega
  rw [this,if_pos h]
 ·have : max a b = a := by omega
  rw [this,if_neg h]
theorem sO (x L:Nat):∀ l:List Nat,Huff.kr (l++[x]) L=Huff.kr l L+(if 0<x∧x≤L then 2 ^ (L - x) else 0)
 | []=>by simp [Huff.kr]
 | y :: l => by
  show _+Huff.kr (l++[x]) L=_+Huff.kr l L+_
  rw [sO x L l,Nat.add_assoc]
theorem aBW {L:Nat}:∀ l:List Nat,Huff.kr l L≤l.length * 2 ^ L
 | []=>by simp [Huff.kr]
 | y :: l => by
  have:=aBW (L:=L) l
  have h2:(if 0<y∧y≤L then 2 ^ (L - y) else 0)≤2 ^ L:=by
   split
   ·exact Nat.pow_le_pow_right (by decide) (by omega)
   ·exact Nat.zero_le _
  unfold Huff.kr
  rw [List.length_cons,Nat.succ_mul]
  omega
theorem rJ (x:Nat) (l:List Nat):Huff.used (l++[x])=Huff.used l+(if 0<x then 1 else 0):=by
 unfold Huff.used
 rw [List.countP_append]
 by_cases h:0<x <;> simp [h]
theorem sB (x:Nat) (l:List Nat):Huff.longest (l++[x])=max (Huff.longest l) x:=by
 unfold Huff.longest
 rw [List.foldl_append] <;> rfl
theorem yE (l:List Nat):Huff.used l≤l.length:=List.countP_le_length
def gI (l:List Nat):Int:=match Huff.checkP l with
 | 0=>0
 | 1=>2
 | _=>1
section
variable [XR] {h:aA} {Q:AV→aA→Prop} {v:AV} {l:List Nat}
theorem kB {e:Bool} (he:e=decide (Huff.kr l 15<32768∧0<Huff.used l∧(1<Huff.used l∨1<Huff.longest l))) (hk:Huff.kr l 15≤32768) (hq:Q (.i .i64 (gI l)) h):Y6.p3 (aK h Q) e h:=by
 refine Y6.i3 ?_
 simp only [Y6.t3]
 unfold gI Huff.checkP at hq
 rw [if_neg (show ¬ 2 ^ 15<Huff.kr l 15 by omega)] at hq
 by_cases hc:Huff.kr l 15<2 ^ 15∧0<Huff.used l∧(1<Huff.used l∨1<Huff.longest l)
 ·rw [if_pos hc] at hq
  exact bA (by rw [he]; exact decide_eq_true hc) (.inl hq)
 ·rw [if_neg hc] at hq
  exact aX (by rw [he]; exact decide_eq_false hc) (.inl hq)
theorem vO (R : RdI 1 h v (bB l) l.length) (hl : l.length ≤ 320) (h15 : ∀ x ∈ l, x ≤ 15) (hq : Q (.i .i64 (gI l)) h) : ∀ (m i : Nat), i + m = l.length →
    Y6.p0 (aK h Q) (Huff.kr (l.take i) 15) (Huff.used (l.take i)) (Huff.longest (l.take i)) v l.length i h:=by
  intro m
  induction m with
  | zero =>
    intro i hi
    obtain rfl:i=l.length:=by omega
    rw [List.take_length]
    refine Y6.i0 ?_
    simp only [Y6.t0, ← Y6.p3.eq_1]
    refine aX (by simp) ?_
    refine aM (fun e=>?_) fun e=>?_
    · have e : 32768 < Huff.kr l 15 := by simp at e; omega
      unfold gI Huff.checkP at hq
      rw [if_pos (show 2 ^ 15<Huff.kr l 15 from e)] at hq
      exact .inl hq
    · have e : Huff.kr l 15 ≤ 32768 := by simp at e; omega
      refine aM ?_ ?_ <;> intro e1
      · refine aM (fun e2 => ?_) fun e2 => ?_
        · refine aM (fun e3 => ?_) fun e3 => ?_
          · refine kB ?_ e hq
            simp at e1 e2 e3 ⊢; omega
          · refine kB ?_ e hq
            simp only [decide_eq_true_eq,decide_eq_false_iff_not] at e1 e2 e3
            rw [decide_eq_decide]; omega
        · refine kB ?_ e hq
          simp at e1 e2 ⊢; omega
      · refine kB ?_ e hq
        simp at e1 ⊢; omega
  | succ m ih =>
    intro i hi
    obtain ⟨x,hx⟩:∃ x,l[i]? = some x:=⟨_,List.getElem?_eq_getElem (by omega)⟩
    have hx15:x≤15:=h15 x (List.mem_of_getElem? hx)
    have nxt:=ih (i+1) (by omega)
    rw [dK hx,sO,rJ,sB] at nxt
    have k1:=aBW (L:=15) (l.take i)
    have k2:=yE (l.take i)
    rw [List.length_take] at k1 k2
    have k3:min i l.length * 2 ^ 15≤320 * 32768:=Nat.mul_le_mul (by omega) (by decide)
    refine Y6.i0 ?_
    simp only [Y6.t0, ← Y6.p1.eq_1]
    refine bA (by simp; omega) (dT R hx ?_)
    refine aX (by simp) ?_
    refine Y6.i1 ?_
    simp only [Y6.t1, ← Y6.p2.eq_1]
    refine aX (by simp; omega) ?_
    refine aM (fun e=>?_) fun e=>?_
    · have e : 0 < x := by simp at e; omega
      rw [if_pos ⟨e,hx15⟩,if_pos e] at nxt
      have hp:2 ^ (15 - x)≤32768:=Nat.pow_le_pow_right (n:=2) (by decide) (show 15 - x≤15 by omega)
      have sh:∀ K:Int→Prop,K ((2 ^ (15 - x):Nat):Int)→jS .i64 1 ((15 - x:Nat):Int) K:=fun K hk=>iR (a:=1) (b:=15 - x) (by omega) (by rw [Nat.one_mul]; omega) (by rw [Nat.one_mul]; exact hk)
      generalize 2 ^ (15 - x)=pw at hp nxt sh
      refine cQ (n:=((15 - x:Nat):Int)) (by omega) (by omega) (by omega) ?_
      refine sh _ ?_
      refine cQ (n:=((Huff.kr (l.take i) 15+pw:Nat):Int)) (by omega) (by omega) (by omega) (inc (by omega) ?_)
      rw [aBB]
      refine Y6.i2 ?_
      simp only [Y6.t2, ← Y6.p0.eq_1]
      exact inc (by omega) nxt
    · have e : x = 0 := by simp at e; omega
      subst e
      rw [if_neg (by omega),if_neg (by omega),Nat.add_zero,Nat.add_zero,Nat.max_zero] at nxt
      refine Y6.i2 ?_
      simp only [Y6.t2, ← Y6.p0.eq_1]
      exact inc (by omega) nxt
theorem xJ (R:RdI 1 h v (bB l) l.length) (hl:l.length≤320) (h15:∀ x∈l,x≤15) (hq:Q (.i .i64 (gI l)) h):C Y6.id [v] h Q:=by
 refine Y6.call ?_
 simp only [Y6.t, ← Y6.p0.eq_1]
 refine R.len (aX (by simp; omega) (R.len ?_))
 exact vO R hl h15 hq l.length 0 (by omega)
end
def eK (l:List Nat):List Nat:=(List.range 16).map (Huff.cnt l)
def kE (l:List Nat) (n:Nat):List Nat:=(List.range 16).map fun j=>if j<n then Huff.fst l j else 0
theorem b6 (l:List Nat):(eK l).length=16:=by simp [eK]
theorem iE (l:List Nat) (n:Nat):(kE l n).length=16:=by simp [kE]
theorem lS (l:List Nat) {n:Nat} (h:n<16):(eK l)[n]? = some (Huff.cnt l n):=by simp [eK,h]
theorem sR (l:List Nat) {n k:Nat} (h:k<16) (h2:k<n):(kE l n)[k]? = some (Huff.fst l k):=by simp [kE,h,h2]
theorem lI (l:List Nat) (x n:Nat):Huff.cnt (l++[x]) n=if 0<x∧n=x then Huff.cnt l n+1 else Huff.cnt l n:=by
 cases n with
 | zero =>
  rw [if_neg (by omega)] <;> rfl
 | succ n =>
  show List.countP _ _=if _ then List.countP _ _+1 else List.countP _ _
  rw [List.countP_append]
  by_cases h:x=n+1
  ·rw [if_pos ⟨by omega,h.symm⟩]; simp [h]
  ·rw [if_neg (by omega)]; simp [h]
theorem zS {l:List Nat} {x:Nat} (h0:0<x) (h:x<16):(eK l).set x (Huff.cnt l x+1)=eK (l++[x]):=by
 refine List.ext_getElem? fun j=>?_
 rw [List.getElem?_set]
 by_cases hj:j<16
 ·have a1 := lS (l ++ [x]) hj
  have a2:=lS l hj
  rw [a1,a2,lI]
  by_cases e:x=j
  ·subst e; rw [if_pos rfl,if_pos (by rw [b6]; exact h),if_pos ⟨h0,rfl⟩]
  ·rw [if_neg e,if_neg (by omega)]
 ·have e1 : (eK (l ++ [x]))[j]? = none := by rw [List.getElem?_eq_none]; rw [b6]; omega
  have e2:(eK l)[j]? = none:=by rw [List.getElem?_eq_none]; rw [b6]; omega
  rw [if_neg (by omega),e1,e2]
theorem vM {l:List Nat}:eK (l++[0])=eK l:=by
 unfold eK
 exact List.map_congr_left fun j _=>by rw [lI,if_neg (by omega)]
theorem aCL {l:List Nat} {n:Nat} (h:n<16):(kE l n).set n (Huff.fst l n)=kE l (n+1):=by
 refine List.ext_getElem? fun j=>?_
 rw [List.getElem?_set]
 by_cases hj:j<16
 ·by_cases e : n = j
  ·subst e; rw [if_pos rfl,if_pos (by rw [iE]; exact h),sR _ h (by omega)]
  ·rw [if_neg e]
   simp [kE,hj]
   by_cases hjn:j<n
   ·rw [if_pos hjn,if_pos (by omega)]
   ·rw [if_neg hjn,if_neg (by omega)]
 ·have e1 : (kE l (n + 1))[j]? = none := by rw [List.getElem?_eq_none]; rw [iE]; omega
  have e2:(kE l n)[j]? = none:=by rw [List.getElem?_eq_none]; rw [iE]; omega
  rw [if_neg (by omega),e1,e2]
theorem aCU (l:List Nat):kE l 16=(List.range 16).map (Huff.fst l):=List.map_congr_left fun j hj=>by rw [if_pos (List.mem_range.1 hj)]
theorem aBJ (l:List Nat):kE l 1=List.replicate 16 0:=by
 refine List.ext_getElem? fun j=>?_
 by_cases hj:j<16
 ·by_cases e : j = 0
  ·subst e; rw [sR _ (by omega) (by omega)] <;> rfl
  ·rw [show (kE l 1)[j]? = some 0 from by simp [kE,hj,e]]; rw [List.getElem?_replicate,if_pos hj]
 ·rw [List.getElem?_eq_none (by rw [iE]; omega),List.getElem?_eq_none (by simp; omega)]
theorem lA (l:List Nat):∀ n,Huff.cnt l n≤l.length
 | 0=>Nat.zero_le _
 | n+1=>List.countP_le_length
theorem aBP (l:List Nat):∀ n,Huff.fst l n≤l.length * (2 ^ (n+1) - 2)
 | 0=>Nat.zero_le _
 | n + 1 => by
  have:=aBP l n
  have h2:=lA l n
  have hp:2≤2 ^ (n+1):=by rw [Nat.pow_succ]; have:=Nat.pow_pos (n:=n) (show 0<2 by decide); omega
  show 2 * (Huff.fst l n+Huff.cnt l n)≤_
  have e:2 ^ (n+1+1) - 2=2 * (2 ^ (n+1) - 2)+2:=by rw [Nat.pow_succ]; omega
  rw [e]
  generalize 2 ^ (n+1) - 2=P at *
  have:l.length * (2 * P+2)=2 * (l.length * P)+2 * l.length:=by rw [Nat.mul_add,Nat.mul_left_comm,Nat.mul_comm l.length 2]
  omega
theorem mW {l:List Nat} (hl:l.length≤320) {n:Nat} (hn:n≤15):Huff.fst l n≤320 * 65536:=by
 refine Nat.le_trans (aBP l n) (Nat.mul_le_mul hl ?_)
 have:2 ^ (n+1)≤65536:=Nat.pow_le_pow_right (n:=2) (by decide) (show n+1≤16 by omega)
 omega
def tab (c f:List Nat):List AV:=bB c++bB f
theorem dV {c f:List Nat} (hc:c.length=16) (hf:f.length=16):32=(tab c f).length:=by simp [tab,aW,hc,hf]
theorem sP {c f:List Nat} (hc:c.length=16) {n x:Nat} (hx:c[n]? = some x):(tab c f)[n]? = some (iN x):=by
 have:=aN hx
 unfold tab
 rw [List.getElem?_append_left (by rw [aW]; omega)]; exact g9 hx
theorem xY {c f:List Nat} (hc:c.length=16) {n x:Nat} (hx:f[n]? = some x):(tab c f)[16+n]? = some (iN x):=by
 unfold tab
 rw [List.getElem?_append_right (by rw [aW]; omega),aW,hc,Nat.add_sub_cancel_left]; exact g9 hx
theorem aAQ {c f:List Nat} (hc:c.length=16) {n x:Nat} (hn:n<16):(tab c f).set n (iN x)=tab (c.set n x) f:=by
 unfold tab
 rw [List.set_append_left _ _ (by rw [aW]; omega),jB]
theorem aBG {c f:List Nat} (hc:c.length=16) {n x:Nat}:(tab c f).set (16+n) (iN x)=tab c (f.set n x):=by
 unfold tab
 rw [List.set_append_right _ _ (by rw [aW]; omega),aW,hc,Nat.add_sub_cancel_left,jB]
theorem aE6 (c f:List Nat):(tab c f).all AV.cellOK=true:=by unfold tab; rw [List.all_append,j7,j7] <;> rfl
section
variable [XR] {h:aA} {Q:AV→aA→Prop} {v:AV} {l:List Nat}
theorem zB (hl : l.length ≤ 320) {h0 : aA} {a b : Nat} (hab : a ≠ b) (ha : h0.length ≤ a) (hb : h0.length ≤ b) (hq : ∀ h', Upd (fun _ => False) h0 h' → Q (.ag (tab (eK l) ((List.range 16).map (Huff.fst l)))) h') :
  ∀ (m n:Nat) (h:aA) (ca:List AV),n+m=16→1≤n→Upd (fun _=>False) h0 h→bD h a ca→ca.length=32→bD h b (tab (eK l) (kE l n))→Y10.p2 (aK h0 Q) (.p (some ⟨a,32,0⟩)) (.p (some ⟨b,32,0⟩)) n h:=by
 intro m
 induction m with
 | zero =>
  intro n h ca hn h1 U Ra hca Rb
  obtain rfl:n=16:=by omega
  rw [aCU] at Rb
  refine Y10.i2 ?_
  simp only [Y10.t2]
  refine aX (by simp) ?_
  have tl:=dV (b6 l) (f:=(List.range 16).map (Huff.fst l)) (by simp)
  refine jJ Rb tl (hP Ra hca.symm tl.symm (aE6 _ _) fun h1 l1 U1 R1=>jJ R1 tl ?_)
  exact .inl (hq h1 (U.own U1 ha))
 | succ m ih =>
  intro n h ca hn h1 U Ra hca Rb
  refine Y10.i2 ?_
  simp only [Y10.t2,bE, ← Y10.p2.eq_1]
  refine bA (by simp; omega) ?_
  have tl:=dV (b6 l) (iE l n)
  have c1:=lA l (n - 1)
  have f1:=mW hl (n:=n - 1) (by omega)
  refine cQ (n:=((n - 1:Nat):Int)) (by omega) (by omega) (by omega) ?_
  refine ⟨by omega,by omega, ?_⟩
  refine aE Rb tl (o:=0+16+((n - 1:Nat):Int).toNat * 1) (v:=iN (Huff.fst l (n - 1))) ?_ (aD ?_)
  ·rw [Int.toNat_natCast,Nat.mul_one,Nat.zero_add]; exact xY (b6 l) (sR l (by omega) (by omega))
  refine cQ (n:=((n - 1:Nat):Int)) (by omega) (by omega) (by omega) ?_
  refine ⟨by omega,by omega, ?_⟩
  refine aE Rb tl (o:=0+0+((n - 1:Nat):Int).toNat * 1) (v:=iN (Huff.cnt l (n - 1))) ?_ (aD ?_)
  ·rw [Int.toNat_natCast,Nat.mul_one,Nat.zero_add]; exact sP (b6 l) (lS l (by omega))
  refine cQ (n:=((Huff.fst l (n - 1)+Huff.cnt l (n - 1):Nat):Int)) (by omega) (by omega) (by omega) ?_
  have sh:∀ K:Int→Prop,K ((Huff.fst l n:Nat):Int)→jS .i64 ((Huff.fst l (n - 1)+Huff.cnt l (n - 1):Nat):Int) 1 K:=fun K hk=>by
   obtain ⟨k,rfl⟩:∃ k,n=k+1:=⟨n - 1,by omega⟩
   refine iR (b:=1) (by omega) (by simp at c1 f1 ⊢; omega) ?_
   have:(Huff.fst l (k+1 - 1)+Huff.cnt l (k+1 - 1)) * 2 ^ 1=Huff.fst l (k+1):=by
    show _=2 * (Huff.fst l k+Huff.cnt l k)
    simp; omega
   rw [this]; exact hk
  refine sh _ ?_
  refine ⟨by omega,by omega, ?_⟩
  refine aT Rb tl (o:=0+16+(n:Int).toNat * 1) (by rw [← tl]; simp; omega) (hk:=fun h1 l1 U1 R1=>?_)
  refine inc (by omega) (ih (n+1) h1 ca (by omega) (by omega) (U.own U1 hb) (Ra.upd U1 hab) hca ?_)
  rw [Int.toNat_natCast,Nat.mul_one,Nat.zero_add,aBG (b6 l),aCL (by omega)] at R1
  exact R1
theorem aAM (hl:l.length≤320) (h15:∀ x∈l,x≤15) {h0:aA} (R0:RdI 1 h0 v (bB l) l.length) {a b:Nat} (hab:a≠b) (ha:h0.length≤a) (hb:h0.length≤b) (hq:∀ h',Upd (fun _=>False) h0 h'→Q (.ag (tab (eK l) ((List.range 16).map (Huff.fst l)))) h') :
  ∀ (m i:Nat) (h:aA) (ca:List AV),i+m=l.length→Upd (fun _=>False) h0 h→bD h a ca→ca.length=32→bD h b (tab (eK (l.take i)) (kE l 1))→Y10.p0 (aK h0 Q) (.p (some ⟨a,32,0⟩)) (.p (some ⟨b,32,0⟩)) v l.length i h:=by
 intro m
 induction m with
 | zero =>
  intro i h ca hi U Ra hca Rb
  obtain rfl:i=l.length:=by omega
  rw [List.take_length] at Rb
  refine Y10.i0 ?_
  simp only [Y10.t0, ← Y10.p2.eq_1]
  exact aX (by simp) (zB hl hab ha hb hq 15 1 h ca (by omega) (by omega) U Ra hca Rb)
 | succ m ih =>
  intro i h ca hi U Ra hca Rb
  obtain ⟨x,hx⟩:∃ x,l[i]? = some x:=⟨_,List.getElem?_eq_getElem (by omega)⟩
  have hx15:x≤15:=h15 x (List.mem_of_getElem? hx)
  have c1:=lA (l.take i) x
  rw [List.length_take] at c1
  have nxt:∀ h',Upd (fun _=>False) h0 h'→bD h' a ca→bD h' b (tab (eK (l.take (i+1))) (kE l 1))→Y10.p1 (aK h0 Q) (.p (some ⟨a,32,0⟩)) (.p (some ⟨b,32,0⟩)) v l.length i h':=fun h' U' Ra' Rb'=>by
   refine Y10.i1 ?_
   simp only [Y10.t1, ← Y10.p0.eq_1]
   exact inc (by omega) (ih (i+1) h' ca (by omega) U' Ra' hca Rb')
  rw [dK hx] at nxt
  refine Y10.i0 ?_
  simp only [Y10.t0,bE, ← Y10.p1.eq_1]
  refine bA (by simp; omega) (dT (R0.ext U) hx ?_)
  have tl:=dV (b6 (l.take i)) (iE l 1)
  refine aM (fun e=>?_) fun e=>?_
  ·have e : 0 < x := by simp at e; omega
   refine ⟨by omega,by omega, ?_⟩
   refine aE Rb tl (o:=0+0+(x:Int).toNat * 1) (v:=iN (Huff.cnt (l.take i) x)) ?_ (aD (inc (by omega) ?_))
   ·rw [Int.toNat_natCast,Nat.mul_one,Nat.zero_add]; exact sP (b6 _) (lS _ (by omega))
   refine ⟨by omega,by omega, ?_⟩
   refine aT Rb tl (o:=0+0+(x:Int).toNat * 1) (by rw [← tl]; simp; omega) (hk:=fun h1 l1 U1 R1=>?_)
   refine nxt h1 (U.own U1 hb) (Ra.upd U1 hab) ?_
   rw [Int.toNat_natCast,Nat.mul_one,Nat.zero_add,Nat.zero_add,aAQ (b6 _) (by omega),zS e (by omega)] at R1
   exact R1
  ·have e : x = 0 := by simp at e; omega
   subst e
   rw [vM] at nxt
   exact nxt h U Ra Rb
theorem xU (hl:l.length≤320) (h15:∀ x∈l,x≤15) (R:RdI 1 h v (bB l) l.length) (hq:∀ h',Upd (fun _=>False) h h'→Q (.ag (tab (eK l) ((List.range 16).map (Huff.fst l)))) h'):C Y10.id [v] h Q:=by
 refine Y10.call ?_
 simp only [Y10.t, ← Y10.p0.eq_1]
 refine cB fun h1 l1 U1 R1=>cB fun h2 l2 U2 R2=>R.len ?_
 have U:=U1.then U2
 refine aAM hl h15 R (by omega) (Nat.le_refl _) (by omega) hq l.length 0 h2 _ (by omega) U (R1.upd U2 fun h=>h) rfl ?_
 rw [aBJ]
 exact R2
end
end Go.Proofs.YtpaphfeihpgamaaDoor
namespace Go.Proofs.YtpaphfeihpgamaaDoor
open Go.GAM
theorem nB (n x:Nat):∀ (r:List Nat) (i:Nat),jA n (r++[x]) i=jA n r i++(if x=n then [i+r.length] else [])
 | [], i => by
  by_cases h:x=n <;> simp [jA,h]
 | y :: r, i => by
  have:=nB n x r (i+1)
  have e:i+1+r.length=i+(r.length+1):=by omega
  rw [e] at this
  simp only [List.cons_append,jA,List.length_cons]
  by_cases h:y=n
  ·rw [if_pos h,if_pos h,this] <;> rfl
  ·rw [if_neg h,if_neg h,this]
theorem lU (n:Nat):∀ (r:List Nat) (i:Nat),(jA n r i).length=r.countP (· == n)
 | [],i=>rfl
 | y :: r, i => by
  unfold jA
  rw [List.countP_cons]
  by_cases h:y=n
  ·rw [if_pos h,List.length_cons,lU n r]; simp [h]
  ·rw [if_neg h,lU n r]; simp [h]
theorem jN (n:Nat):∀ (r:List Nat) (i k:Nat),Huff.pickFrom n r i k=(jA n r i)[k]?
 | [],i,k=>by simp [Huff.pickFrom,jA]
 | y :: r, i, k => by
  unfold Huff.pickFrom jA
  by_cases h:y=n
  ·rw [if_pos h, if_pos h]
   cases k with
   | zero=>rfl
   | succ k=>rw [if_neg (by omega),jN n r] <;> rfl
  ·rw [if_neg h,if_neg h,jN n r]
theorem aDP (l:List Nat) (n k:Nat):Huff.pick l n k=(wR l n)[k]?:=jN n l 0 k
theorem uA (l:List Nat) (n:Nat):(wR l (n+1)).length=Huff.cnt l (n+1):=lU _ _ _
theorem fY (l:List Nat) (n:Nat):eP l (n+1)=eP l n++wR l (n+1):=by simp [eP,List.range_succ]
theorem nK (l:List Nat) (n:Nat):cU l (n+1)=cU l n+Huff.cnt l n:=by simp [cU,List.range_succ]
theorem fM (l:List Nat):∀ n,(eP l n).length=cU l (n+1)
 | 0=>rfl
 | n+1=>by rw [fY,List.length_append,fM l n,uA,nK l (n+1)]
theorem mX (l:List Nat):∀ n,cU l n≤n * l.length
 | 0=>Nat.zero_le _
 | n + 1 => by
  have:=mX l n
  have:=lA l n
  rw [nK,Nat.succ_mul]; omega
theorem p9 (l:List Nat) (n:Nat):∀ m, ∃ t,eP l (n+m)=eP l n++t
 | 0=>⟨[],by simp⟩
 | m + 1 => by
  obtain ⟨t,ht⟩:=p9 l n m
  exact ⟨t++wR l (n+m+1),by rw [show n+(m+1)=n+m+1 by omega,fY,ht,List.append_assoc]⟩
theorem aEB {l:List Nat} {n k j:Nat} (h0:0<n) (h:n≤15) (hp:Huff.pick l n k=some j):(eP l 15)[cU l n+k]? = some j:=by
 obtain ⟨n,rfl⟩:∃ m,n=m+1:=⟨n - 1,by omega⟩
 obtain ⟨t,ht⟩:=p9 l (n+1) (15 - (n+1))
 rw [show n+1+(15 - (n+1))=15 by omega,fY l n] at ht
 rw [aDP] at hp
 have hlt:=aN hp
 rw [ht,List.append_assoc,List.getElem?_append_right (by rw [fM]; omega),fM,Nat.add_sub_cancel_left,List.getElem?_append_left hlt]
 exact hp
def lg (l:List Nat):Nat→Nat
 | 0=>0
 | n+1=>if wR l (n+1)=[] then lg l n else n+1
theorem iJ {l : List Nat} (h15 : ∀ x ∈ l, x ≤ 15) : lg l 15 = Huff.longest l := by
 have key:∀ n,lg l n≤n∧(∀ x∈l,x≤n→x≤lg l n)∧(lg l n=0∨lg l n∈l):=by
  intro n
  induction n with
  | zero=>exact ⟨Nat.le_refl _,fun x _ h=>h,.inl rfl⟩
  | succ n ih =>
   unfold lg
   have hc:=uA l n
   by_cases he:wR l (n+1)=[]
   ·rw [if_pos he]
    rw [he] at hc
    have h0:List.countP (· == n+1) l=0:=hc.symm
    refine ⟨by omega,fun x hx hxn=>?_,ih.2.2⟩
    have:¬ x=n+1:=by have:=List.countP_eq_zero.1 h0 x hx; simpa using this
    exact ih.2.1 x hx (by omega)
   ·rw [if_neg he]
    refine ⟨Nat.le_refl _,fun x _ h=>h,.inr ?_⟩
    have:0<List.countP (· == n+1) l:=by
     have e:Huff.cnt l (n+1)=List.countP (· == n+1) l:=rfl
     rw [← e, ← hc]
     exact List.length_pos_iff.2 he
    obtain ⟨x,hx,hxe⟩:=List.countP_pos_iff.1 this
    have:x=n+1:=by simpa using hxe
    exact this ▸ hx
 obtain ⟨h1,h2,h3⟩:=key 15
 have a:Huff.longest l≤lg l 15:=by
  have:∀ (r:List Nat) (a b:Nat),a≤b→(∀ x∈r,x≤b)→r.foldl max a≤b:=by
   intro r
   induction r with
   | nil=>intro a b h _; exact h
   | cons y r ih=>intro a b h hr; exact ih _ _ (by have:=hr y (by simp); omega) fun x hx=>hr x (by simp [hx])
  exact this l 0 _ (Nat.zero_le _) fun x hx=>h2 x hx (h15 x hx)
 have b:lg l 15≤Huff.longest l:=by
  rcases h3 with h | h
  ·rw [h]; exact Nat.zero_le _
  ·exact Huff.le_longest h
 omega
def eJ (l:List Nat) (n:Nat):List Nat:=(List.range 16).map fun j=>if j<n then cU l j else 0
theorem d4 (l:List Nat) (n:Nat):(eJ l n).length=16:=by simp [eJ]
theorem rV (l:List Nat) {n k:Nat} (h:k<16) (h2:k<n):(eJ l n)[k]? = some (cU l k):=by simp [eJ,h,h2]
theorem wB {l:List Nat} {n:Nat} (h:n<16):(eJ l n).set n (cU l n)=eJ l (n+1):=by
 refine List.ext_getElem? fun j=>?_
 rw [List.getElem?_set]
 by_cases hj:j<16
 ·by_cases e : n = j
  ·subst e; rw [if_pos rfl,if_pos (by rw [d4]; exact h),rV _ h (by omega)]
  ·rw [if_neg e]
   simp [eJ,hj]
   by_cases hjn:j<n
   ·rw [if_pos hjn,if_pos (by omega)]
   ·rw [if_neg hjn,if_neg (by omega)]
 ·rw [if_neg (by omega),List.getElem?_eq_none (by rw [d4]; omega),List.getElem?_eq_none (by rw [d4]; omega)]
theorem vW (l:List Nat):eJ l 16=(List.range 16).map (cU l):=List.map_congr_left fun j hj=>by rw [if_pos (List.mem_range.1 hj)]
theorem vY (l:List Nat):eJ l 1=List.replicate 16 0:=by
 refine List.ext_getElem? fun j=>?_
 by_cases hj:j<16
 ·by_cases e : j = 0
  ·subst e; rw [rV _ (by omega) (by omega)] <;> rfl
  ·rw [show (eJ l 1)[j]? = some 0 from by simp [eJ,hj,e]]; rw [List.getElem?_replicate,if_pos hj]
 ·rw [List.getElem?_eq_none (by rw [d4]; omega),List.getElem?_eq_none (by simp; omega)]
def d5 (c f:List Nat) (sym:AV) (s:List Nat) (g x n:Nat):List AV:=(tab c f++[sym])++(bB s++[iN g,iN x,iN n])
section
variable {c f s:List Nat} {sym:AV} {g x n:Nat}
theorem iC (hc:c.length=16) (hf:f.length=16):(tab c f++[sym]).length=33:=by rw [List.length_append, ← dV hc hf] <;> rfl
theorem cI (hc:c.length=16) (hf:f.length=16) (hs:s.length=16):52=(d5 c f sym s g x n).length:=by
 unfold d5
 rw [List.length_append,iC hc hf,List.length_append,aW,hs] <;> rfl
theorem aDE (hc:c.length=16) (hf:f.length=16) {i y:Nat} (hx:c[i]? = some y):(d5 c f sym s g x n)[i]? = some (iN y):=by
 have:=aN hx
 unfold d5
 rw [List.getElem?_append_left (by rw [iC hc hf]; omega),List.getElem?_append_left (by rw [← dV hc hf]; omega)]; exact sP hc hx
theorem sY (hc:c.length=16) (hf:f.length=16) {i y:Nat} (hx:f[i]? = some y):(d5 c f sym s g x n)[16+i]? = some (iN y):=by
 have:=aN hx
 unfold d5
 rw [List.getElem?_append_left (by rw [iC hc hf]; omega),List.getElem?_append_left (by rw [← dV hc hf]; omega)]; exact xY hc hx
theorem sU (hc:c.length=16) (hf:f.length=16):(d5 c f sym s g x n)[32]? = some sym:=by
 unfold d5
 rw [List.getElem?_append_left (by rw [iC hc hf]; omega),List.getElem?_append_right (by rw [← dV hc hf]; omega), ← dV hc hf] <;> rfl
theorem y3 (hc:c.length=16) (hf:f.length=16) {i y:Nat} (hx:s[i]? = some y):(d5 c f sym s g x n)[33+i]? = some (iN y):=by
 have:=aN hx
 unfold d5
 rw [List.getElem?_append_right (by rw [iC hc hf]; omega),iC hc hf,Nat.add_sub_cancel_left,List.getElem?_append_left (by rw [aW]; omega)]; exact g9 hx
theorem eU (hc:c.length=16) (hf:f.length=16) (hs:s.length=16) {i:Nat}:(d5 c f sym s g x n)[49+i]? = [iN g,iN x,iN n][i]?:=by
 unfold d5
 rw [List.getElem?_append_right (by rw [iC hc hf]; omega),iC hc hf,List.getElem?_append_right (by rw [aW]; omega),aW,hs]
 congr 1
 omega
theorem zJ (hc:c.length=16) (hf:f.length=16) {v:AV}:(d5 c f sym s g x n).set 32 v=d5 c f v s g x n:=by
 unfold d5
 rw [List.set_append_left _ _ (by rw [iC hc hf]; omega),List.set_append_right _ _ (by rw [← dV hc hf]; omega), ← dV hc hf] <;> rfl
theorem aBC (hc:c.length=16) (hf:f.length=16) {i y:Nat} (hi:i<s.length):(d5 c f sym s g x n).set (33+i) (iN y)=d5 c f sym (s.set i y) g x n:=by
 unfold d5
 rw [List.set_append_right _ _ (by rw [iC hc hf]; omega),iC hc hf,Nat.add_sub_cancel_left,List.set_append_left _ _ (by rw [aW]; exact hi),jB]
theorem j2 (hc:c.length=16) (hf:f.length=16) (hs:s.length=16) {i:Nat} {v:AV}:(d5 c f sym s g x n).set (49+i) v=(tab c f++[sym])++(bB s++[iN g,iN x,iN n].set i v):=by
 unfold d5
 rw [List.set_append_right _ _ (by rw [iC hc hf]; omega),iC hc hf,List.set_append_right _ _ (by rw [aW]; omega),aW,hs,show 49+i - 33 - 16=i by omega]
end
theorem tH:∀ (cs pre z1 z2:List AV),z1.length=cs.length→(cs.zipIdx pre.length).foldl (fun a (p:AV × Nat)=>a.set (0+p.2) p.1) (pre++(z1++z2))=pre++(cs++z2)
 | [], pre, z1, z2, h => by
  have:z1=[]:=List.eq_nil_of_length_eq_zero h
  subst this; rfl
 | c :: cs,pre,[],z2,h=>by simp at h
 | c :: cs, pre, z :: z1, z2, h => by
  rw [List.zipIdx_cons,List.foldl_cons]
  have e:(pre++(z :: z1++z2)).set (0+pre.length) c=(pre++[c])++(z1++z2):=by
   rw [Nat.zero_add,List.set_append_right _ _ (Nat.le_refl _)]; simp
  have:=tH cs (pre++[c]) z1 z2 (by simpa using h)
  simp only at this ⊢
  rw [e]
  rw [show (pre++[c]).length=pre.length+1 by simp] at this
  rw [this]; simp
theorem wG {z1 z2 cs:List AV} (h:z1.length=cs.length):e6 (z1++z2) [(0,cs.length,.ag cs)]=some (cs++z2):=by
 unfold e6
 have hc:((AV.ag cs).sizeOK&&(AV.ag cs).parts.length == cs.length&&decide (0+(AV.ag cs).parts.length≤(z1++z2).length))=true:=by
  have e1:(AV.ag cs).parts=cs:=rfl
  have e2:(AV.ag cs).sizeOK=true:=rfl
  rw [e1,e2]; simp; omega
 simp only [hc,if_true]
 unfold e6
 congr 1
 exact tH cs [] z1 z2 h
theorem aE5 {c f:List Nat} (hc:c.length=16) (hf:f.length=16):e6 (List.replicate 32 (iN 0)++([.sl none 0 none]++List.replicate 19 (iN 0))) [(0,32,.ag (tab c f))]=some (d5 c f (.sl none 0 none) (List.replicate 16 0) 0 0 0):=by
 have:=wG (z1:=List.replicate 32 (iN 0)) (z2:=[.sl none 0 none]++List.replicate 19 (iN 0)) (cs:=tab c f) (by rw [← dV hc hf]; simp)
 rw [← dV hc hf] at this
 rw [this]
 unfold d5
 rw [List.append_assoc] <;> rfl
theorem d9 (l:List Nat) (sym:AV) (n x:Nat):cS l sym n x=d5 (eK l) ((List.range 16).map (Huff.fst l)) sym ((List.range 16).map (cU l)) (Huff.longest l) x n:=by
 simp [cS,d5,tab,eK]
section
variable [XR] {h:aA} {Q:AV→aA→Prop} {v:AV} {l:List Nat}
theorem z4:((List.range 16).map (Huff.fst l)).length=16:=by simp
theorem aD1 (hl : l.length ≤ 320) (h15 : ∀ x ∈ l, x ≤ 15) (hok : Huff.checkP l = 0) {h0 : aA} (R0 : RdI 1 h0 v (bB l) l.length) {id : Nat} (hid : h0.length ≤ id) (hq : ∀ h' sym, Upd (fun _ => False) h0 h' → bZ h' (fun i => h0.length ≤ i) id l sym 0 0 → Q (.tu [cp id, iN 0]) h') :
  ∀ (m n:Nat) (h:aA) (sym:AV),n+1+m=16→Upd (fun _=>False) h0 h→bD h id (d5 (eK l) ((List.range 16).map (Huff.fst l)) sym (eJ l (n+1)) (lg l n) 0 0)→Stk h sym (bB (eP l n))→(∀ i,aS sym i→h0.length≤i∧i≠id) →
  Y9.p0 (aK h0 Q) v (cp id) ((n+1:Nat):Int) h:=by
 intro m
 induction m with
 | zero =>
  intro n h sym hn U R S N
  obtain rfl:n=15:=by omega
  refine Y9.i0 ?_
  simp only [Y9.t0]
  refine aX (by simp) (.inl (hq h sym U ?_))
  refine ⟨?_, ?_,hid,fun i hi=>⟨(N i hi).1,(N i hi).2,S.rd.lt hi⟩,hok,hl,h15⟩
  ·rw [d9, ← iJ h15, ← vW]; exact R
  ·have := S.rd.i
   rw [aW] at this
   exact this
 | succ m ih =>
  intro n h sym hn U R S N
  have hst:=mX l (n+1)
  have hst2:(n+1) * l.length≤15 * 320:=Nat.mul_le_mul (by omega) hl
  refine Y9.i0 ?_
  simp only [Y9.t0,bJ,bE, ← Y9.p1.eq_1]
  refine bA (by simp; omega) ?_
  have cl:=b6 l
  have fl:=z4 (l:=l)
  have sl:=d4 l (n+1)
  refine aE R (cI cl fl sl) (sU cl fl) (S.rd.len ?_)
  refine ⟨by omega,by omega, ?_⟩
  refine aT R (cI cl fl sl) (o:=0+33+((n+1:Nat):Int).toNat * 1) (by rw [← cI cl fl sl]; simp; omega) (hk:=fun h1 l1 U1 R1=>?_)
  rw [Int.toNat_natCast,Nat.mul_one,Nat.zero_add,aW,fM,aBC cl fl (by rw [d4]; omega),wB (by omega)] at R1
  have inn:∀ (k i:Nat) (h:aA) (sym:AV),i+k=l.length→Upd (fun _=>False) h0 h→bD h id (d5 (eK l) ((List.range 16).map (Huff.fst l)) sym (eJ l (n+2)) (if jA (n+1) (l.take i) 0=[] then lg l n else n+1) 0 0) →
    Stk h sym (bB (eP l n++jA (n+1) (l.take i) 0))→(∀ i,aS sym i→h0.length≤i∧i≠id)→Y9.p1 (aK h0 Q) v (cp id) ((n+1:Nat):Int) v l.length i h:=by
   intro k
   induction k with
   | zero =>
    intro i h sym hi U R S N
    obtain rfl:i=l.length:=by omega
    rw [List.take_length] at R S
    refine Y9.i1 ?_
    simp only [Y9.t1, ← Y9.p0.eq_1]
    refine aX (by simp) (inc (by omega) (ih (n+1) h sym (by omega) U R ?_ N))
    rw [fY]; exact S
   | succ k ihk =>
    intro i h sym hi U R S N
    obtain ⟨x,hx⟩:∃ x,l[i]? = some x:=⟨_,List.getElem?_eq_getElem (by omega)⟩
    have sl:=d4 l (n+2)
    have nxt:∀ h' sym',Upd (fun _=>False) h0 h'→bD h' id (d5 (eK l) ((List.range 16).map (Huff.fst l)) sym' (eJ l (n+2)) (if jA (n+1) (l.take i++[x]) 0=[] then lg l n else n+1) 0 0) →
      Stk h' sym' (bB (eP l n++jA (n+1) (l.take i++[x]) 0))→(∀ i,aS sym' i→h0.length≤i∧i≠id)→Y9.p2 (aK h0 Q) v (cp id) ((n+1:Nat):Int) v l.length i h':=fun h' sym' U' R' S' N'=>by
     refine Y9.i2 ?_
     simp only [Y9.t2, ← Y9.p1.eq_1]
     rw [← dK hx] at R' S'
     exact inc (by omega) (ihk (i+1) h' sym' (by omega) U' R' S' N')
    refine Y9.i1 ?_
    simp only [Y9.t1,bJ,bE, ← Y9.p2.eq_1]
    refine bA (by simp; omega) (dT (R0.ext U) hx ?_)
    refine aM ?_ ?_ <;> intro e
    ·have e : x = n + 1 := by simp at e; omega
     rw [nB,if_pos e] at nxt
     have hil:(jA (n+1) (l.take i) 0).length≤320:=by rw [lU]; refine Nat.le_trans List.countP_le_length ?_; simp; omega
     have hll:(eP l n).length≤4800:=by rw [fM]; omega
     refine aE R (cI cl fl sl) (sU cl fl) ?_
     refine S.push rfl rfl (by rw [aW]; simp; omega) (by rw [aW]; simp; omega) fun sym' h2 U2 S2 N2=>?_
     have R2:=R.upd U2 fun hh=>(N id hh).2 rfl
     refine aT R2 (cI cl fl sl) (by rw [← cI cl fl sl]; omega) (hv:=by rcases S2 with ⟨rfl,_⟩ | ⟨id,b,rfl,_⟩ <;> rfl) (hs:=by rcases S2 with ⟨rfl,_⟩ | ⟨id,b,rfl,_⟩ <;> rfl) (hc:=by rcases S2 with ⟨rfl,_⟩ | ⟨id,b,rfl,_⟩ <;> rfl) (hk:=fun h3 l3 U3 R3=>?_)
     rw [Nat.zero_add,zJ cl fl] at R3
     refine aT R3 (cI cl fl sl) (by rw [← cI cl fl sl]; omega) (hk:=fun h4 l4 U4 R4=>?_)
     rw [Nat.zero_add,show 49=49+0 from rfl,j2 cl fl sl] at R4
     have hidh:=R.lt
     have ne:∀ i,aS sym' i→h0.length≤i∧i≠id:=fun i hi=>by
      rcases N2 i hi with g | g
      ·exact N i g
      ·have:=U.1; exact ⟨by omega,by omega⟩
     refine nxt h4 sym' (((U.ownP U2 fun i hi=>(N i hi).1).own U3 hid).own U4 hid) ?_ ?_ ne
     ·rw [if_neg (by simp)]; exact R4
     ·rw [← List.append_assoc, eT, show bB [0 + (l.take i).length] = [iN i] by simp [bB]; omega]
      exact (S2.upd U3 fun i hi e=>(ne i hi).2 e).upd U4 fun i hi e=>(ne i hi).2 e
    ·have e : ¬ x = n + 1 := by simp at e; omega
     rw [nB,if_neg e,List.append_nil] at nxt
     exact nxt h sym U R S N
  refine R0.len ?_
  refine inn l.length 0 h1 sym (by omega) (U.own U1 hid) ?_ ?_ N
  ·exact R1
  ·rw [show jA (n+1) (l.take 0) 0=[] from rfl,List.append_nil]; exact S.upd U1 fun i hi e=>(N i hi).2 e
theorem o3 (R:RdI 1 h v (bB l) l.length) (hl:l.length≤320) (h15:∀ x∈l,x≤15) (hq0:Huff.checkP l≠0→∀ e:Int,e≠0→Q (.tu [.p none,.i .i64 e]) h)
  (hq:Huff.checkP l=0→∀ h' id sym,Upd (fun _=>False) h h'→bZ h' (fun i=>h.length≤i) id l sym 0 0→Q (.tu [cp id,iN 0]) h'):C Y9.id [v] h Q:=by
 refine Y9.call ?_
 simp only [Y9.t, ← Y9.p0.eq_1]
 refine xJ R hl h15 (aD ?_)
 by_cases hok:Huff.checkP l=0
 ·have e : gI l = 0 := by simp only [gI, hok]
  rw [e]
  refine aX rfl (xU hl h15 R fun h1 U1=>?_)
  refine aEJ (aE5 (c:=eK l) (f:=(List.range 16).map (Huff.fst l)) (b6 l) z4) ?_
  refine bT (hk:=fun h2 l2 U2 R2=>?_)
  have U:=U1.then U2
  have hlen:(AV.ag (d5 (eK l) ((List.range 16).map (Huff.fst l)) (.sl none 0 none) (List.replicate 16 0) 0 0 0)).parts.length=52:=(cI (b6 l) z4 (by simp)).symm
  rw [hlen]
  refine aD1 hl h15 hok R (id:=h1.length) U1.1 (fun h' sym=>hq hok h' _ sym) 15 0 h2 _ (by omega) U ?_ (.inl ⟨rfl,rfl⟩) fun i hi=>hi.elim
  rw [vY]
  exact R2
 ·have e : gI l ≠ 0 := by
   unfold gI
   split
   ·contradiction
   ·decide
   ·decide
  refine bA (by simp [e]) (.inl (hq0 hok _ e))
theorem aE9 (x:Nat) {b:Nat} (hb:b<2):2 * x ||| b=2 * x+b:=(Nat.two_pow_add_eq_or_of_lt (i:=1) hb x).symm
theorem aD5 {b:Nat} (hb:b<2):b &&& 1=b:=by
 obtain rfl | rfl:b=0∨b=1:=by omega
 ·rfl
 ·rfl
theorem step_end {h0':aA} {G:Nat→Prop} {id n x s:Nat} {sym:AV} {b:Bool} {e:Int} {ca:List AV} (hc:cS l sym 0 0=(ca.set 50 (iN 0)).set 51 (iN 0)) (hl:ca.length=52) (R:bD h id ca) (hq:∀ h',Upd (· = id) h h'→bD h' id (cS l sym 0 0)→Q (.tu [iN s,.b b,.i .i64 e]) h') :
  Y20.p1 (aK h0' Q) (cp id) s b e h:=by
 refine Y20.i1 ?_
 simp only [Y20.t1,bJ,bE]
 refine aT R hl.symm (by rw [hl]; omega) (hk:=fun h1 l1 U1 R1=>?_)
 refine aT R1 (by simp [hl]) (by simp [hl]) (hk:=fun h2 l2 U2 R2=>?_)
 refine .inl (hq h2 (U1.trans U2 fun _ _ h=>h) ?_)
 rw [hc]
 exact R2
end
end Go.Proofs.YtpaphfeihpgamaaDoor
namespace Go.Proofs.YtpaphfeihpgamaaDoor
open Go.GAM
section
variable [XR] {h:aA} {Q:AV→aA→Prop} {l:List Nat}
omit [XR] in
theorem xR {f:Nat→Nat} {n:Nat} (h:n<16):((List.range 16).map f)[n]? = some (f n):=by simp [h]
theorem aDD {h0' : aA} {G : Nat → Prop} {id N X : Nat} {sym : AV} {t : Bool} (A : bZ h G id l sym N X) (hN0 : 0 < N) (hN : N ≤ 16) (hX : X < 2 ^ 16) (ht : t = decide (N ≤ Huff.longest l ∧ X - Huff.fst l N < Huff.cnt l N ∧ Huff.fst l N ≤ X))
  (hq:∀ h',Upd (· = id) h h'→match Huff.stepP l N X with
   | .sym i=>bD h' id (cS l sym 0 0)→i<l.length→Q (.tu [iN i,.b true,iN 0]) h'
   | .more=>bD h' id (cS l sym N X)→Q (.tu [iN 0,.b false,iN 0]) h'
   | .bad=>bD h' id (cS l sym 0 0)→Q (.tu [iN 0,.b false,iN 2]) h'):Y20.p0 (aK h0' Q) (cp id) 0 false 0 N t h:=by
 have R:=A.recd
 have hlong:Huff.longest l≤15:=by
  rw [← iJ A.le]
  have:∀ n,lg l n≤n:=by
   intro n
   induction n with
   | zero=>exact Nat.le_refl _
   | succ n ih=>unfold lg; split <;> omega
  exact this 15
 have cl:=b6 l
 have fl:=z4 (l:=l)
 have sl:((List.range 16).map (cU l)).length=16:=by simp
 rw [d9] at R
 have tl:=cI (sym:=sym) (g:=Huff.longest l) (x:=X) (n:=N) cl fl sl
 have fin:∀ {s:Nat} {b:Bool} {e:Int},(∀ h',Upd (· = id) h h'→bD h' id (cS l sym 0 0)→Q (.tu [iN s,.b b,.i .i64 e]) h')→Y20.p1 (aK h0' Q) (cp id) s b e h:=fun {s b e} hf=>by
  refine step_end (l:=l) (sym:=sym) (G:=G) (n:=N) (x:=X) ?_ tl.symm R hf
  rw [d9,show 50=49+1 from rfl,show 51=49+2 from rfl,j2 cl fl sl]
  have:=j2 (c:=eK l) (f:=(List.range 16).map (Huff.fst l)) (sym:=sym) (s:=(List.range 16).map (cU l)) (g:=Huff.longest l) (x:=0) (n:=N) (i:=2) (v:=iN 0) cl fl sl
  unfold d5 at this ⊢
  exact this.symm
 refine Y20.i0 ?_
 simp only [Y20.t0,bJ,bE, ← Y20.p1.eq_1]
 by_cases hc:N≤Huff.longest l∧X - Huff.fst l N<Huff.cnt l N∧Huff.fst l N≤X
 ·rw [decide_eq_true hc] at ht
  refine bA ht ?_
  obtain ⟨hc1,hc2,hc3⟩:=hc
  obtain ⟨j,hj,_,hjl,_⟩:=Huff.pick_some hN0 hc2
  have hst:Huff.stepP l N X = .sym j:=by
   unfold Huff.stepP
   rw [if_pos ⟨hc1,hc2,hc3⟩,hj] <;> rfl
  rw [hst] at hq
  have hsy:=aEB hN0 (by omega) hj
  have hsl:=aN hsy
  have b1:=mX l N
  have b2:N * l.length≤16 * 320:=Nat.mul_le_mul hN A.len
  have b3:=lA l N
  have b4:=A.len
  refine aE R tl (sU cl fl) ?_
  refine ⟨by omega,by omega, ?_⟩
  refine aE R tl (o:=33+(N:Int).toNat * 1) (v:=iN (cU l N)) ?_ (aD ?_)
  ·rw [Int.toNat_natCast,Nat.mul_one]; exact y3 cl fl (xR (by omega))
  refine aE R tl (o:=49+1) (eU cl fl sl) (aD ?_)
  refine cQ (n:=((cU l N+X:Nat):Int)) (by omega) (by omega) (by omega) ?_
  refine ⟨by omega,by omega, ?_⟩
  refine aE R tl (o:=16+(N:Int).toNat * 1) (v:=iN (Huff.fst l N)) ?_ (aD ?_)
  ·rw [Int.toNat_natCast,Nat.mul_one]; exact sY cl fl (xR (by omega))
  refine cQ (n:=((cU l N+(X - Huff.fst l N):Nat):Int)) (by omega) (by omega) (by omega) ?_
  refine dT A.syms hsy ?_
  exact fin fun h' U R'=>hq h' U R' hjl
 ·rw [decide_eq_false hc] at ht
  refine aX ht ?_
  refine aE R tl (o:=49+0) (eU cl fl sl) (aD ?_)
  refine aM ?_ ?_ <;> intro e
  ·have e : N < Huff.longest l := by simp at e; omega
   have hst:Huff.stepP l N X = .more:=by
    unfold Huff.stepP
    rw [if_neg hc,if_pos e]
   rw [hst] at hq
   exact .inl (hq h (Upd.refl _ _) A.recd)
  ·have e : ¬ N < Huff.longest l := by simp at e; omega
   have hst:Huff.stepP l N X = .bad:=by
    unfold Huff.stepP
    rw [if_neg hc,if_neg e]
   rw [hst] at hq
   exact fin (s:=0) (b:=false) (e:=2) fun h' U R'=>hq h' U R'
theorem aET {G:Nat→Prop} {id n x b:Nat} {sym:AV} (A:bZ h G id l sym n x) (hn:n≤15) (hx:x<2 ^ n) (hb:b<2)
  (hq:∀ h',Upd (· = id) h h'→match Huff.stepP l (n+1) (2 * x+b) with
   | .sym i=>bD h' id (cS l sym 0 0)→i<l.length→Q (.tu [iN i,.b true,iN 0]) h'
   | .more=>bD h' id (cS l sym (n+1) (2 * x+b))→Q (.tu [iN 0,.b false,iN 0]) h'
   | .bad=>bD h' id (cS l sym 0 0)→Q (.tu [iN 0,.b false,iN 2]) h'):C Y20.id [cp id,iN b] h Q:=by
 have R:=A.recd
 have cl:=b6 l
 have fl:=z4 (l:=l)
 have sl:((List.range 16).map (cU l)).length=16:=by simp
 rw [d9] at R
 have tl:=cI (sym:=sym) (g:=Huff.longest l) (x:=x) (n:=n) cl fl sl
 have hx15:x<2 ^ 15:=Nat.lt_of_lt_of_le hx (Nat.pow_le_pow_right (by decide) hn)
 refine Y20.call ?_
 simp only [Y20.t, ← Y20.p0.eq_1]
 refine j9 (by kernel_rfl) (bP (aX rfl ?_))
 simp only [bJ,bE]
 refine aE R tl (o:=49+1) (eU cl fl sl) (aD ?_)
 have sh:∀ K:Int→Prop,K ((2 * x:Nat):Int)→jS .i64 (x:Int) 1 K:=fun K hk=>iR (b:=1) (by omega) (by omega) (by rw [show x * 2 ^ 1=2 * x by omega]; exact hk)
 refine sh _ ?_
 have hand:bK .and .i64 (b:Int) 1=(b:Int):=by
  have:=hZ (x:=b) (y:=1) (by omega) (by decide)
  rw [aD5 hb] at this
  exact this
 rw [hand]
 have hor:bK .or .i64 ((2 * x:Nat):Int) (b:Int)=((2 * x+b:Nat):Int):=by
  rw [xI (by omega) (by omega),aE9 x hb]
 refine aG hor ?_
 refine aE R tl (o:=49+2) (eU cl fl sl) (aD (inc (by omega) ?_))
 refine aT R tl (o:=49+1) (by rw [← tl]; omega) (hk:=fun h1 l1 U1 R1=>?_)
 rw [j2 cl fl sl] at R1
 have R1:bD h1 id (d5 (eK l) ((List.range 16).map (Huff.fst l)) sym ((List.range 16).map (cU l)) (Huff.longest l) (2 * x+b) n):=R1
 refine aT R1 (cI cl fl sl) (o:=49+2) (by rw [← cI cl fl sl]; omega) (hk:=fun h2 l2 U2 R2=>?_)
 rw [j2 cl fl sl] at R2
 have R2:bD h2 id (d5 (eK l) ((List.range 16).map (Huff.fst l)) sym ((List.range 16).map (cU l)) (Huff.longest l) (2 * x+b) (n+1)):=R2
 have U:=U1.trans U2 fun _ _ h=>h
 have A2:bZ h2 G id l sym (n+1) (2 * x+b):={ A with recd:=by rw [d9]; exact R2,syms:=A.syms.upd U fun i hi e=>(A.gs i hi).2.1 e,gs:=fun i hi=>⟨(A.gs i hi).1,(A.gs i hi).2.1,Nat.lt_of_lt_of_le (A.gs i hi).2.2 U.1⟩ }
 have tl2:=cI (sym:=sym) (g:=Huff.longest l) (x:=2 * x+b) (n:=n+1) cl fl sl
 have fb:=mW A.len (n:=n+1)
 have hlong:Huff.longest l≤15:=by
  rw [← iJ A.le]
  have:∀ n,lg l n≤n:=by
   intro n
   induction n with
   | zero=>exact Nat.le_refl _
   | succ n ih=>unfold lg; split <;> omega
  exact this 15
 have P0:∀ t,t=decide (n+1≤Huff.longest l∧2 * x+b - Huff.fst l (n+1)<Huff.cnt l (n+1)∧Huff.fst l (n+1)≤2 * x+b)→Y20.p0 (aK h Q) (cp id) 0 false 0 ((n+1:Nat):Int) t h2:=fun t ht=>
  aDD A2 (by omega) (by omega) (by omega) ht fun h' U'=>hq h' (U.trans U' fun _ _ h=>h)
 refine aE R2 tl2 (o:=49+2) (eU cl fl sl) (aD ?_)
 refine aE R2 tl2 (o:=49+0) (eU cl fl sl) (aD ?_)
 refine aM ?_ ?_ <;> intro e
 ·have e : n + 1 ≤ Huff.longest l := by simp at e; omega
  have fb:=fb (by omega)
  have b3:=lA l (n+1)
  have b4:=A.len
  refine aE R2 tl2 (o:=49+1) (eU cl fl sl) (aD ?_)
  refine ⟨by omega,by omega, ?_⟩
  refine aE R2 tl2 (o:=16+((n+1:Nat):Int).toNat * 1) (v:=iN (Huff.fst l (n+1))) ?_ (aD ?_)
  ·rw [Int.toNat_natCast,Nat.mul_one]; exact sY cl fl (xR (by omega))
  refine cQ (n:=((2 * x+b:Nat):Int) - (Huff.fst l (n+1):Nat)) rfl (by omega) (by omega) ?_
  refine ⟨by omega,by omega, ?_⟩
  refine aE R2 tl2 (o:=0+((n+1:Nat):Int).toNat * 1) (v:=iN (Huff.cnt l (n+1))) ?_ (aD ?_)
  ·rw [Int.toNat_natCast,Nat.mul_one,Nat.zero_add]; exact aDE cl fl (lS l (by omega))
  refine aM ?_ ?_ <;> intro e2
  ·refine aE R2 tl2 (o := 49 + 1) (eU cl fl sl) (aD ?_)
   refine ⟨by omega,by omega, ?_⟩
   refine aE R2 tl2 (o:=16+((n+1:Nat):Int).toNat * 1) (v:=iN (Huff.fst l (n+1))) ?_ (aD ?_)
   ·rw [Int.toNat_natCast,Nat.mul_one]; exact sY cl fl (xR (by omega))
   refine P0 _ ?_
   simp only [decide_eq_true_eq] at e2
   rw [decide_eq_decide]; omega
  ·refine P0 _ ?_
   simp only [decide_eq_false_iff_not] at e2
   refine (decide_eq_false ?_).symm
   omega
 ·have e : ¬ n + 1 ≤ Huff.longest l := by simp at e; omega
  refine P0 _ (decide_eq_false fun hh=>e hh.1).symm
end
end Go.Proofs.YtpaphfeihpgamaaDoor
namespace Go.Proofs.YtpaphfeihpgamaaDoor
open Go.GAM
theorem cM.mono {h:aA} {G G':Nat→Prop} {v:AV} {l:List Nat} (A:cM h G v l) (hG:∀ i,i<h.length→G i→G' i):cM h G' v l:=A.upd (Upd.refl (fun _=>False) h) (fun _ _ h=>h) hG
theorem cM.rd {h:aA} {G:Nat→Prop} {v:AV} {l:List Nat} (A:cM h G v l):Rd 1 h v (bB l) l.length:=by
 obtain ⟨id,b,rfl,h1,h2,h3,h4,h5,g⟩:=A
 have e:b.cells.length=l.length:=by rw [h2,aW]
 exact .inr ⟨id,_,0,none,b,rfl,h1,.inl h5,by omega,by omega,by omega,by rw [h2,List.drop_zero,Nat.mul_one, ← aW l,List.take_length]⟩
theorem mG {h:aA} {K:AV→aA→Prop} {n:Nat} (hn:n≤1000) (hk:∀ v h',Upd (fun _=>False) h h'→cM h' (fun i=>h.length≤i) v (List.replicate n 0)→K v h'):lT 1 8 [.i .i64 0] (.i .i64 (n:Int)) (.i .i64 (n:Int)) h K:=by
 refine ⟨by omega,by omega,by omega,by omega,rfl,Nat.one_pos, ?_⟩
 refine hk _ _ (Upd.app _ _) ⟨h.length,aY (List.replicate n (.i .i64 0)) 1 true, ?_, ?_, ?_, ?_,rfl,rfl,Nat.le_refl _⟩
 ·rw [Int.toNat_natCast,Nat.mul_one,List.length_replicate]
 ·rw [Int.toNat_natCast,pY,List.getElem?_append_right (Nat.le_refl _),Nat.sub_self] <;> rfl
 ·simp [aY,bB]
 ·simp [aY]
theorem pF:∀ (ws pre cs:List AV),ws.length≤cs.length→wr (pre++cs) pre.length ws=pre++(ws++cs.drop ws.length)
 | [],pre,cs,h=>by simp [wr]
 | w :: ws,pre,[],h=>by simp at h
 | w :: ws, pre, c :: cs, h => by
  simp only [wr]
  have e:(pre++c :: cs).set pre.length w=(pre++[w])++cs:=by simp
  rw [e]
  have:=pF ws (pre++[w]) cs (by simpa using h)
  simpa using this
theorem aEH:∀ n:Fin 300,bK .and .u64 ((n.1:Nat):Int) 4294967295=(n.1:Int)∧((n.1:Nat):Int).fdiv (2 ^ (min (32:Int).toNat IntKind.u64.bits))=0∧IntKind.wrap .u64 (1 * ((n.1:Nat):Int))=(n.1:Int):=by decide +kernel
section
variable [XR] {h:aA} {Q:AV→aA→Prop}
theorem aGF {n:Nat} (hn:n<300) (hq:Q (.tu [.i .u64 0,.i .u64 (n:Int)]) h):C Y70.id [.i .u64 1,.i .u64 (n:Int)] h Q:=by
 obtain ⟨m1,m2,m3⟩:=aEH ⟨n,hn⟩
 simp only at m1 m2 m3
 refine Y70.call ?_
 simp only [Y70.t]
 refine Y79.call ?_
 simp only [Y79.t]
 have z:Int.fdiv 0 (2 ^ (min (32:Int).toNat IntKind.u64.bits))=0:=by decide
 have o:Int.fdiv 1 (2 ^ (min (32:Int).toNat IntKind.u64.bits))=0:=by decide
 refine aG (n:=1) (by decide) ⟨by decide, ?_⟩
 rw [o]
 refine aG m1 ⟨by decide, ?_⟩
 rw [m2]
 refine aG m3 (aG (n:=0) (by rw [Int.zero_mul]; decide) ⟨by decide, ?_⟩)
 rw [m2]
 refine aG (n:=0) (by decide) (aG (n:=0) (by decide) ⟨by decide, ?_⟩)
 rw [z]
 refine aG (n:=0) (by decide) (aG (n:=0) (by decide) (aG (n:=0) (by decide) (aG (n:=0) (by decide) ⟨by decide, ?_⟩)))
 rw [z]
 refine aG (n:=0) (by decide) (aG m3 (.inl ?_))
 exact ⟨by simp,iQ ⟨by simp,iQ (.inl hq)⟩⟩
theorem aBS {h0 : aA} {n y : Nat} (hn : n < 300) (hq : ∀ h' v, Upd (fun _ => False) h0 h' → cM h' (fun i => h0.length ≤ i) v (List.replicate n y) → Q v h') :
  ∀ (f m:Nat) (h:aA) (v:AV),0<m→m+f=n→Upd (fun _=>False) h0 h→cM h (fun i=>h0.length≤i) v (List.replicate m y++List.replicate f 0)→Y21.p1 (aK h0 Q) v m h:=by
 intro f
 induction f using Nat.strongRecOn with
 | _ f ih =>
  intro m h v hm hmf U A
  refine Y21.i1 ?_
  simp only [Y21.t1, ← Y21.p1.eq_1]
  refine A.rd.len ?_
  have hlen:(List.replicate m y++List.replicate f 0).length=n:=by simp; omega
  rw [hlen]
  by_cases hf:f=0
  ·subst hf
   refine aX (by simp; omega) (.inl (hq h v U ?_))
   rw [List.replicate_zero,List.append_nil,show m=n by omega] at A
   exact A
  ·refine bA (by simp; omega) ?_
   obtain ⟨id,b,rfl,h1,h2,h3,h4,h5,g⟩:=A
   have hbl:b.cells.length=n:=by rw [h2,aW,hlen]
   rw [hlen] at h3 ⊢
   refine ⟨Nat.one_pos,(fun hh=>by cases hh),⟨by omega,by simp; omega,b,h1,by omega,by show b.floor≤n; omega,.inl h5,.inl (Nat.le_refl _), ?_⟩⟩
   refine ⟨Nat.one_pos,(fun hh=>by cases hh),⟨by omega,Nat.zero_le _,b,h1,by omega,by show b.floor≤n; omega,.inl h5,.inl (by simp; omega), ?_⟩⟩
   rw [Int.toNat_natCast]
   have hnews:∀ K:List AV→Nat→Prop,K (bB (List.replicate m y)) m→eI 1 (.sl (some ⟨id,n,0+0 * 1⟩) (m - 0) (Option.map (fun x=>x - 0) (none:Option Nat))) h K:=fun K hk=>by
    refine .inr ⟨b,h1,⟨by simp only; omega,by simp only; omega,by simp only; omega⟩, ?_⟩
    rw [h2,eT]
    have:((bB (List.replicate m y)++bB (List.replicate f 0)).drop (0+0 * 1)).take ((m - 0) * 1)=bB (List.replicate m y):=by
     rw [show 0+0 * 1=0 from rfl,List.drop_zero,show (m - 0) * 1=m by omega]
     exact List.take_left' (by simp [bB])
    simp only [this]
    exact hk
   refine ⟨Nat.one_pos,hnews _ ?_⟩
   refine ⟨b,h1,h5,⟨by simp only; omega,by simp only; omega,by simp only; omega⟩,h4,by simp only; omega, ?_, ?_⟩
   ·rw [List.all_eq_true]
    intro x hx
    exact List.all_eq_true.1 (j7 (List.replicate m y)) x (List.mem_of_mem_take hx)
   refine aD ?_
   refine cQ (n:=((m+min m f:Nat):Int)) (by omega) (by omega) (by omega) ?_
   refine ih (f - min m f) (by omega) (m+min m f) _ _ (by omega) (by omega) (U.own (Upd.set _ _ _) g) ?_
   have hl2:(List.replicate (m+min m f) y++List.replicate (f - min m f) 0).length=n:=by simp; omega
   have hcells:wr b.cells (0+m * 1) ((bB (List.replicate m y)).take (min m (n - m) * 1))=bB (List.replicate (m+min m f) y++List.replicate (f - min m f) 0):=by
    rw [h2,eT]
    have:=pF ((bB (List.replicate m y)).take (min m (n - m) * 1)) (bB (List.replicate m y)) (bB (List.replicate f 0)) (by rw [List.length_take,aW,aW]; simp; omega)
    rw [aW,List.length_replicate] at this
    rw [show 0+m * 1=m by omega,this]
    rw [List.length_take,aW,List.length_replicate,show n - m=f by omega]
    unfold bB
    rw [← List.map_take, ← List.map_drop,List.take_replicate,List.drop_replicate, ← List.map_append, ← List.map_append]
    congr 1
    rw [show min (min m f * 1) m=min m f by omega, ← List.append_assoc,List.replicate_append_replicate]
   refine ⟨id,{ b with cells:=wr b.cells (0+m * 1) ((bB (List.replicate m y)).take (min m (n - m) * 1)),floor:=b.cells.length }, ?_, ?_,hcells, ?_,h4,h5,g⟩
   ·rw [hl2]
   ·rw [List.getElem?_set_self (aN h1)]
   ·show b.cells.length≤_; rw [hl2]; omega
theorem tQ {x:AV} {n y:Nat} (R:RdI 1 h x (bB [y]) 1) (h0:0<n) (hn:n<300) (hq:∀ h' v,Upd (fun _=>False) h h'→cM h' (fun i=>h.length≤i) v (List.replicate n y)→Q v h') :
  C Y21.id [x,iN n] h Q:=by
 refine Y21.call ?_
 simp only [Y21.t, ← Y21.p0.eq_1]
 refine aX (by simp) (R.len ?_)
 have e1:IntKind.wrap .u64 ((1:Nat):Int)=1:=by decide
 have e2:IntKind.wrap .u64 (n:Int)=(n:Int):=by have:=(aEH ⟨n,hn⟩).2.2; rw [Int.one_mul] at this; exact this
 rw [e1,e2]
 refine aGF hn ⟨by simp,iQ ⟨by simp,iQ ?_⟩⟩
 refine aX rfl ?_
 refine Y21.i0 ?_
 simp only [Y21.t0, ← Y21.p1.eq_1]
 refine aX (by simp; omega) ?_
 rw [aL (by omega) (by omega)]
 refine mG (by omega) fun v h1 U1 A1=>?_
 have R1:=R.ext U1
 refine ⟨Nat.one_pos,R1.news ?_⟩
 obtain ⟨id,b,rfl,k1,k2,k3,k4,k5,g⟩:=A1
 have hbl:b.cells.length=n:=by rw [k2,aW]; simp
 rw [List.length_replicate] at k3 ⊢
 refine ⟨b,k1,k5,⟨by simp only; omega,by simp only; omega,by simp only; omega⟩,k4,by simp only; omega, ?_, ?_⟩
 ·rw [List.all_eq_true]
  intro x hx
  exact List.all_eq_true.1 (j7 [y]) x (List.mem_of_mem_take hx)
 refine aD ?_
 rw [show min 1 n=1 by omega]
 refine aBS hn hq (n - 1) 1 _ _ (by omega) (by omega) (U1.own (Upd.set _ _ _) g) ?_
 refine ⟨id,{ b with cells:=wr b.cells 0 ((bB [y]).take (1 * 1)),floor:=b.cells.length }, ?_,by rw [List.getElem?_set_self (aN k1)], ?_, ?_,k4,k5,g⟩
 ·simp; omega
 ·show wr b.cells 0 (bB [y]) = _
  rw [k2]
  have:=pF (bB [y]) [] (bB (List.replicate n 0)) (by rw [aW,aW]; simp; omega)
  simp only [List.nil_append,List.length_nil] at this
  rw [this,eT,aW]
  unfold bB
  rw [← List.map_drop,List.drop_replicate] <;> rfl
 ·show b.cells.length≤_; simp; omega
theorem yV:∀ i,i<288→Infl.fixedL[i]? = some (if i<144∨280≤i then 8 else if i<256 then 9 else 7):=by decide +kernel
theorem wP {h0 : aA} (hq : ∀ h' v w, Upd (fun _ => False) h0 h' → RdI 1 h' v (bB Infl.fixedL) Infl.fixedL.length → RdI 1 h' w (bB Infl.fixedD) Infl.fixedD.length → (∀ j, aS v j → h0.length ≤ j) → (∀ j, aS w j → h0.length ≤ j) → Q (.tu [v, w]) h') :
  ∀ (m i:Nat) (h:aA) (v:AV),i+m=288→Upd (fun _=>False) h0 h→Stk h v (bB (Infl.fixedL.take i))→(∀ j,aS v j→h0.length≤j)→Y12.p0 (aK h0 Q) v i h:=by
 intro m
 induction m with
 | zero =>
  intro i h v hi U S N
  obtain rfl:i=288:=by omega
  refine Y12.i0 ?_
  simp only [Y12.t0]
  refine aX (by decide) ?_
  refine dG (cs:=bB [5]) rfl rfl fun y h1 l1 U1 R1 F1=>?_
  have S1:=S.upd U1 fun _ _ h=>h
  refine tQ (n:=32) (y:=5) R1.i (by decide) (by decide) fun h2 w U2 A2=>?_
  have S2:=S1.upd U2 fun _ _ h=>h
  refine .inl (hq h2 v w ((U.then U1).then U2) ?_ A2.rd.i N fun j hj=>?_)
  rotate_left
  ·obtain ⟨id, b, rfl, _, _, _, _, _, g⟩ := A2
   cases hj
   have g:h1.length≤id:=g
   have:=U.1
   show h0.length≤id
   omega
  have:=S2.rd.i
  rw [aW,show Infl.fixedL.take 288=Infl.fixedL from by decide +kernel] at this
  exact this
 | succ m ih =>
  intro i h v hi U S N
  have hil:(Infl.fixedL.take i).length≤288:=by rw [List.length_take]; omega
  have hL:=yV i (by omega)
  have push:∀ (c:Nat),Infl.fixedL[i]? = some c→∀ (K:AV→aA→Prop),(∀ v' h',Y12.p2 (aK h0 Q) v' i h'→K v' h')→(bF 1 1 [.i .i64 0] [(0,1,iN c)] h fun y h1=>bM none 1 8 v y h1 K):=fun c hc K hk=>by
   refine S.push rfl rfl (by rw [aW]; omega) (by rw [aW]; omega) fun v' h' U' S' N'=>hk v' h' ?_
   refine Y12.i2 ?_
   simp only [Y12.t2, ← Y12.p0.eq_1]
   refine inc (by omega) (ih (i+1) h' v' (by omega) (U.ownP U' N) ?_ fun j hj=>?_)
   ·rw [dK hc,eT]; exact S'
   ·rcases N' j hj with g | g
    ·exact N j g
    ·have:=U.1; omega
  have P1:∀ t,t=decide (i<144∨280≤i)→Y12.p1 (aK h0 Q) v i i t h:=fun t ht=>by
   refine Y12.i1 ?_
   simp only [Y12.t1, ← Y12.p2.eq_1]
   by_cases hc:i<144∨280≤i
   ·rw [decide_eq_true hc] at ht
    rw [if_pos hc] at hL
    exact bA ht (push 8 hL _ fun v' h' hp=>hp)
   ·rw [decide_eq_false hc] at ht
    rw [if_neg hc] at hL
    refine aX ht ?_
    refine aM ?_ ?_ <;> intro e
    ·rw [if_pos (by simp at e; omega)] at hL
     exact push 9 hL _ fun v' h' hp=>hp
    ·rw [if_neg (by simp at e; omega)] at hL
     exact push 7 hL _ fun v' h' hp=>hp
  refine Y12.i0 ?_
  simp only [Y12.t0, ← Y12.p1.eq_1]
  refine bA (by simp; omega) ?_
  refine aM ?_ ?_ <;> intro e
  ·exact P1 _ (decide_eq_true (by simp at e; omega)).symm
  ·refine P1 _ ?_
   simp only [decide_eq_false_iff_not] at e
   rw [decide_eq_decide]; omega
theorem jO (hq:∀ h' v w,Upd (fun _=>False) h h'→RdI 1 h' v (bB Infl.fixedL) Infl.fixedL.length→RdI 1 h' w (bB Infl.fixedD) Infl.fixedD.length→(∀ j,aS v j→h.length≤j)→(∀ j,aS w j→h.length≤j)→Q (.tu [v,w]) h'):C Y12.id [] h Q:=by
 refine Y12.call ?_
 simp only [Y12.t, ← Y12.p0.eq_1]
 exact wP hq 288 0 h _ rfl (Upd.refl _ _) (.inl ⟨rfl,rfl⟩) fun _ h=>h.elim
end
end Go.Proofs.YtpaphfeihpgamaaDoor
namespace Go.Proofs.YtpaphfeihpgamaaDoor
open Go.GAM
open Go.Infl (cA d6 cH Out Lim)
theorem qO:∀ x,x<286→257≤x→(Infl.least x).1+2 ^ (Infl.least x).2≤300∧(Infl.least x).2≤16:=by decide +kernel
theorem vI:∀ x,x<30→0<(Infl.farOf x).1∧(Infl.farOf x).1+2 ^ (Infl.farOf x).2≤32769∧(Infl.farOf x).2≤16:=by decide +kernel
section
variable [XR] {h:aA} {Q:AV→aA→Prop} {L:Lim} {F:Nat→Prop} {d:Nat} {r:DR} {out:List UInt8} {told:Nat}
theorem pP {x:Nat} (h1:257≤x) (h2:x≤285) (hq:Q (.tu [iN (Infl.least x).1,iN (Infl.least x).2]) h):C Y41.id [iN x] h Q:=by
 refine Y41.call ?_
 simp only [Y41.t]
 unfold Infl.least at hq
 refine aM ?_ ?_ <;> intro e
 ·have e : x ≤ 264 := by simp at e; omega
  rw [if_pos e] at hq
  exact cQ (n:=((x - 254:Nat):Int)) (by omega) (by omega) (by omega) (.inl hq)
 ·have e : ¬ x ≤ 264 := by simp at e; omega
  rw [if_neg e] at hq
  refine aM ?_ ?_ <;> intro e2
  ·have e2 : x = 285 := by simp at e2; omega
   rw [if_pos e2] at hq
   exact .inl hq
  ·have e2 : ¬ x = 285 := by simp at e2; omega
   rw [if_neg e2] at hq
   refine cQ (n:=((x - 261:Nat):Int)) (by omega) (by omega) (by omega) ?_
   refine iH (n:=(((x - 261) / 4:Nat):Int)) (by decide) (by rw [Int.tdiv_eq_ediv_of_nonneg (by omega),aL (by omega) (by omega)]; omega) ?_
   refine cQ (n:=((x - 265:Nat):Int)) (by omega) (by omega) (by omega) ?_
   refine jD (n:=(((x - 265) % 4:Nat):Int)) (by decide) (by rw [Int.tmod_eq_emod_of_nonneg (by omega)]; omega) ?_
   refine cQ (n:=((4+(x - 265) % 4:Nat):Int)) (by omega) (by omega) (by omega) ?_
   have hp:2 ^ ((x - 261) / 4)≤2 ^ 6:=Nat.pow_le_pow_right (by decide) (by omega)
   have hm:(4+(x - 265) % 4) * 2 ^ ((x - 261) / 4)≤8 * 2 ^ 6:=Nat.mul_le_mul (by omega) hp
   refine iR (by omega) (by omega) ?_
   generalize (4+(x - 265) % 4) * 2 ^ ((x - 261) / 4)=y at *
   exact cQ (n:=((y+3:Nat):Int)) (by omega) (by omega) (by omega) (.inl hq)
theorem lC {x:Nat} (h2:x≤29) (hq:Q (.tu [iN (Infl.farOf x).1,iN (Infl.farOf x).2]) h):C Y47.id [iN x] h Q:=by
 refine Y47.call ?_
 simp only [Y47.t]
 unfold Infl.farOf at hq
 refine aM ?_ ?_ <;> intro e
 ·have e : x < 4 := by simp at e; omega
  rw [if_pos e] at hq
  exact inc (by omega) (.inl hq)
 ·have e : ¬ x < 4 := by simp at e; omega
  rw [if_neg e] at hq
  refine iH (n:=((x / 2:Nat):Int)) (by decide) (by rw [Int.tdiv_eq_ediv_of_nonneg (by omega),aL (by omega) (by omega)]; omega) ?_
  refine cQ (n:=((x / 2 - 1:Nat):Int)) (by omega) (by omega) (by omega) ?_
  refine jD (n:=((x % 2:Nat):Int)) (by decide) (by rw [Int.tmod_eq_emod_of_nonneg (by omega)]; omega) ?_
  refine cQ (n:=((2+x % 2:Nat):Int)) (by omega) (by omega) (by omega) ?_
  have hp:2 ^ (x / 2 - 1)≤2 ^ 13:=Nat.pow_le_pow_right (by decide) (by omega)
  have hm:(2+x % 2) * 2 ^ (x / 2 - 1)≤4 * 2 ^ 13:=Nat.mul_le_mul (by omega) hp
  refine iR (by omega) (by omega) ?_
  generalize (2+x % 2) * 2 ^ (x / 2 - 1)=y at *
  exact inc (by omega) (.inl hq)
theorem nI {a b:List Nat} {ia ib:Nat} {syma symb:AV} (D:Dec L h F d r out told) (hF:∀ i,h.length≤i→F i) (hd:r.done=false) (T:Two h (Gd F d r) ia syma a ib symb b)
  (hq:∀ e h' r',cK (· = d) L h F d r told (Infl.litW ⟨out,r.last,r.skip⟩ a b) e h' r'→Q (.i .i64 e) h'):C Y43.id [dp d,cp ia,cp ib] h Q:=by
 refine Y43.call ?_
 simp only [Y43.t]
 refine bT (hk:=fun h1 l1 U1 R1=>?_)
 refine bT (hk:=fun h2 l2 U2 R2=>?_)
 refine bT (hk:=fun h3 l3 U3 R3=>?_)
 have U:=(U1.then U2).then U3
 have R1:=(R1.upd U2 fun h=>h).upd U3 fun h=>h
 have R2:=R2.upd U3 fun h=>h
 have ha:=T.1.recd.lt
 have hb:=T.2.recd.lt
 have G:∀ {i},h.length≤i→Gd F d r i∧i≠ia:=fun hi=>⟨D.gd hF hi,by omega⟩
 have B1:Bx h3 (fun i=>Gd F d r i∧i≠ia) (.p (some ⟨h.length,1,0⟩)) (dp d):=⟨_,rfl,R1,G (Nat.le_refl _)⟩
 have B2:Bx h3 (fun i=>Gd F d r i∧i≠ia) (.p (some ⟨h1.length,1,0⟩)) (cp ia):=⟨_,rfl,R2,G (by omega)⟩
 have B3:Bx h3 (fun i=>Gd F d r i∧i≠ia) (.p (some ⟨h2.length,1,0⟩)) (cp ib):=⟨_,rfl,R3,G (by omega)⟩
 refine aE R1 rfl rfl (aE R2 rfl rfl ?_)
 refine o4 (D.ext U) hd (l:=a) (ic:=ia) (sym:=syma) (c:=.lit a b) (T.1.upd U (fun _ _ h=>h) fun i _ hi=>hi.1) ⟨_,_,_,ib,symb,rfl,B1,B2,B3,T.2.upd U (fun _ _ h=>h) fun i _ hi=>hi,fun hs=>(T.1.gs ib hs).1.2 rfl⟩ ⟨by decide,by decide,fun v hv=>Nat.lt_of_lt_of_le hv (by have:=T.1.len; omega)⟩ fun h4 r4 P=>aD (.inl (hq 0 h4 r4 ?_))
 exact P.from U (fun _ _ h=>h.elim) (fun _ _ h=>h) rfl rfl rfl
theorem xG {a b : List Nat} {va vb : AV} (D : Dec L h F d r out told) (hF : ∀ i, h.length ≤ i → F i) (hd : r.done = false) (Ra : RdI 1 h va (bB a) a.length) (Rb : RdI 1 h vb (bB b) b.length) (la : a.length ≤ 320) (lb : b.length ≤ 320) (a15 : ∀ x ∈ a, x ≤ 15) (b15 : ∀ x ∈ b, x ≤ 15)
  (hq:∀ e h' r',cK (· = d) L h F d r told (Infl.codes ⟨out,r.last,r.skip⟩ a b) e h' r'→Q (.i .i64 e) h'):C Y57.id [dp d,va,vb] h Q:=by
 refine Y57.call ?_
 simp only [Y57.t]
 refine o3 Ra la a15 (fun hn e he=>?_) fun ha h1 ia syma U1 A1=>?_
 ·simp only [d7, dW]
  refine aD (bA (by simp [he]) (.inl (hq 2 h r ?_)))
  unfold Infl.codes
  rw [if_neg fun hh=>hn hh.1]
  exact ⟨Upd.refl _ _,fun _ _ h=>h,D,rfl,rfl,rfl,rfl,.inl rfl,hd⟩
 ·simp only [d7, dW]
  refine aD (aX rfl ?_)
  refine o3 (Rb.ext U1) lb b15 (fun hn e he=>?_) fun hb h2 ib symb U2 A2=>?_
  ·simp only [d7, dW]
   refine aD (bA (by simp [he]) (.inl (hq 2 h1 r ?_)))
   unfold Infl.codes
   rw [if_neg fun hh=>hn hh.2]
   exact ⟨U1.mono fun _ _ h=>h.elim,fun _ _ h=>h,D.ext U1,rfl,rfl,rfl,rfl,.inl rfl,hd⟩
  ·simp only [d7, dW]
   refine aD (aX rfl ?_)
   have U:=U1.then U2
   have hlt:=A1.recd.lt
   have hge:=A2.g
   have hU1:=U1.1
   have T:Two h2 (Gd F d r) ia syma a ib symb b:=by
    refine ⟨{ A1.upd (G':=fun i=>h.length≤i) U2 (fun _ _ h=>h) (fun i hl hi=>hi) with g:=⟨D.gd hF A1.g,by omega⟩,gs:=fun i hi=>?_ },{ A2 with g:=⟨D.gd hF (by omega),by omega⟩,gs:=fun i hi=>?_ }⟩
    ·obtain ⟨g1, g2, g3⟩ := A1.gs i hi
     exact ⟨⟨D.gd hF g1,by omega⟩,g2,Nat.lt_of_lt_of_le g3 U2.1⟩
    ·obtain ⟨g1, g2, g3⟩ := A2.gs i hi
     exact ⟨⟨D.gd hF (by omega),by omega⟩,g2,g3⟩
   refine nI (D.ext U) (fun i hi=>hF i (Nat.le_trans U.1 hi)) hd T fun e h3 r3 P=>aD (.inl (hq e h3 r3 ?_))
   unfold Infl.codes
   rw [if_pos ⟨ha,hb⟩]
   exact P.from U (fun _ _ h=>h.elim) (fun _ _ h=>h) rfl rfl rfl
theorem eM:∀ x∈Infl.fixedL,x≤15:=by decide +kernel
theorem nC:∀ x∈Infl.fixedD,x≤15:=by decide +kernel
theorem aDF (D:Dec L h F d r out told) (hF:∀ i,h.length≤i→F i) (hd:r.done=false)
  (hq:∀ e h' r',cK (· = d) L h F d r told (Infl.codes ⟨out,r.last,r.skip⟩ Infl.fixedL Infl.fixedD) e h' r'→Q (.i .i64 e) h'):C Y68.id [dp d] h Q:=by
 refine Y68.call ?_
 simp only [Y68.t]
 refine jO fun h1 v w U1 Rv Rw _ _=>?_
 simp only [d7,dW]
 refine xG (D.ext U1) (fun i hi=>hF i (Nat.le_trans U1.1 hi)) hd Rv Rw (by decide +kernel) (by decide +kernel) eM nC fun e h2 r2 P=>aD (.inl (hq e h2 r2 ?_))
 exact P.from U1 (fun _ _ h=>h.elim) (fun _ _ h=>h) rfl rfl rfl
theorem aDO {x : Nat} {v : AV} (D : Dec L h F d r out told) (hF : ∀ i, h.length ≤ i → F i) (hd : r.done = false) (hc : Clo h (Gd F d r) d 0 (.p none) .block v) (hf : fit .block x)
  (hq:∀ e h' r',cK F L h F d r told (Infl.apply L r.input ⟨out,r.last,r.skip⟩ x .block) e h' r'→Q (.i .i64 e) h'):bV C v [iN x] h Q:=by
 obtain ⟨bd,rfl,B⟩:=hc
 have hf:x<8:=hf
 refine cR (by decide) (Y61.call ?_)
 simp only [Y61.t,B.ld,bJ,bE]
 have hand:bK .and .i64 (x:Int) 1=((x % 2:Nat):Int):=by
  have:=hZ (x:=x) (y:=1) (by omega) (by decide)
  rw [Nat.and_one_is_mod] at this
  exact this
 rw [hand]
 have hlast:decide (((x % 2:Nat):Int)=1)=(x % 2 == 1):=by
  rw [Bool.eq_iff_iff]; simp; omega
 rw [hlast]
 refine aT D.recd rfl (ltr rfl) (hk:=fun h1 l1 U1 R1=>?_)
 have D1:Dec L h1 F d { r with last:=x % 2 == 1 } out told:=D.with U1 R1 rfl rfl rfl rfl
 have B1:Bx h1 (Gd F d { r with last:=x % 2 == 1 }) bd (dp d):=B.upd U1 (fun i hi e=>hi.2 (.inl e)) fun _ _ h=>h
 have hF1:∀ i,h1.length≤i→F i:=fun i hi=>hF i (by omega)
 refine pA (a:=x) (b:=1) (by decide) ?_
 rw [B1.ld]
 have hx4:x / 2 ^ 1=x / 2:=rfl
 have hm:∀ {o:Out} {e:Int} {h':aA} {r':DR},cK (· = d) L h1 F d { r with last:=x % 2 == 1 } told o e h' r'→cK F L h F d r told o e h' r':=fun {o e h' r'} P=>by
  have P':cK F L h1 F d { r with last:=x % 2 == 1 } told o e h' r':=P.mono fun i _ e=>D.f i (.inl e)
  exact P'.from U1 (fun i _ e=>D.f i (.inl e)) (fun _ _ h=>h) rfl rfl rfl
 simp only [Infl.apply] at hq
 refine aM ?_ ?_ <;> intro e0
 ·have e0 : x / 2 = 0 := by simp at e0; omega
  simp only [e0] at hq
  simp only [bJ,bE]
  refine aT D1.recd rfl (ltr rfl) (hk:=fun h2 l2 U2 R2=>?_)
  have D2:Dec L h2 F d { r with last:=x % 2 == 1,skip:=true } out told:=D1.with U2 R2 rfl rfl rfl rfl
  have B2:Bx h2 (Gd F d { r with last:=x % 2 == 1,skip:=true }) bd (dp d):=B1.upd U2 (fun i hi e=>hi.2 (.inl e)) fun _ _ h=>h
  rw [B2.ld]
  refine aCG D2 (fun i hi=>hF i (by omega)) hd fun e h3 r3 P=>aD (.inl (hq e h3 r3 ?_))
  refine hm (P.from U2 (fun i _ e=>e) (fun _ _ h=>h) rfl rfl rfl)
 ·refine aM ?_ ?_ <;> intro e1
  ·have e1 : x / 2 = 1 := by simp at e1; omega
   simp only [e1] at hq
   rw [B1.ld]
   refine aDF D1 hF1 hd fun e h3 r3 P=>aD (.inl (hq e h3 r3 (hm P)))
  ·refine aM ?_ ?_ <;> intro e2
   ·have e2 : x / 2 = 2 := by simp at e2; omega
    simp only [e2] at hq
    rw [B1.ld]
    refine zQ D1 hF1 hd fun e h3 r3 P=>aD (.inl (hq e h3 r3 (hm P)))
   ·have e3 : x / 2 = 3 := by simp at e0 e1 e2; omega
    simp only [e3] at hq
    exact .inl (hq 2 h1 { r with last:=x % 2 == 1 } ⟨U1.mono fun i _ e=>D.f i (.inl e),fun _ _ h=>h,D1,rfl,rfl,rfl,rfl,.inl rfl,hd⟩)
theorem xM {a b:List Nat} {ic ib:Nat} {sym symb:AV} (A:bZ h (Gd F d r) ic a sym 0 0) (Bc:bZ h (fun i=>Gd F d r i∧i≠ic) ib b symb 0 0) (hs:¬ aS sym ib):Two h (Gd F d r) ic sym a ib symb b:=
 ⟨{ A with g:=⟨A.g,fun e=>Bc.g.2 e.symm⟩,gs:=fun i hi=>⟨⟨(A.gs i hi).1,fun e=>hs (e ▸ hi)⟩,(A.gs i hi).2⟩ },Bc⟩
theorem aGG {x ic : Nat} {sym : AV} {a b : List Nat} {v : AV} (D : Dec L h F d r out told) (hF : ∀ i, h.length ≤ i → F i) (hd : r.done = false) (A : bZ h (Gd F d r) ic a sym 0 0) (hc : Clo h (fun i => Gd F d r i ∧ i ≠ ic) d ic sym (.lit a b) v) (hf : fit (.lit a b) x)
  (hq:∀ e h' r',cK F L h F d r told (Infl.apply L r.input ⟨out,r.last,r.skip⟩ x (.lit a b)) e h' r'→Q (.i .i64 e) h'):bV C v [iN x] h Q:=by
 obtain ⟨bd,ba,bb,ib,symb,rfl,B,Ba,Bb,Bc,hs⟩:=hc
 have hf:x<320:=hf
 have T:=xM A Bc hs
 have w:∀ {y z},Bx h (fun i=>Gd F d r i∧i≠ic) y z→Bx h (Gd F d r) y z:=fun B=>B.upd (Upd.refl (fun _=>False) h) (fun _ _ h=>h) fun i _ hi=>hi.1
 have B:=w B
 have Ba:=w Ba
 have Bb:=w Bb
 refine cR (by decide) (Y72.call ?_)
 simp only [Y72.t,B.ld]
 simp only [Infl.apply,Infl.putP] at hq
 refine aM ?_ ?_ <;> intro e0
 ·have e0 : x < 256 := by simp at e0; omega
  rw [if_pos e0] at hq
  rw [aED e0]
  refine aCM D hF (fun hfull=>?_) fun hfull p f h1 U1 K1 D1=>?_
  ·refine aD (bA rfl (.inl (hq 16 h r ?_)))
   rw [if_pos hfull]
   exact ⟨Upd.refl _ _,fun _ _ h=>h,D,rfl,rfl,rfl,rfl,.inr rfl,hd⟩
  ·refine aD (aX rfl ?_)
   have B1:=B.upd U1 (fun i hi hm=>hi.2 hm) (eS K1)
   have Ba1:=Ba.upd U1 (fun i hi hm=>hi.2 hm) (eS K1)
   have Bb1:=Bb.upd U1 (fun i hi hm=>hi.2 hm) (eS K1)
   rw [B1.ld,Ba1.ld,Bb1.ld]
   refine nI D1 (fun i hi=>hF i (Nat.le_trans U1.1 hi)) hd (T.upd U1 (fun i hi hm=>hi.2 hm) (eS K1)) fun e h2 r2 P=>aD (.inl (hq e h2 r2 ?_))
   rw [if_neg (by simp [hfull])]
   exact (P.mono fun i _ e=>D1.f i (.inl e)).from U1 (fun i _ hm=>D.f i hm) K1 rfl rfl rfl
 ·have e0 : ¬ x < 256 := by simp at e0; omega
  rw [if_neg e0] at hq
  refine aM ?_ ?_ <;> intro e1
  ·have e1 : x = 256 := by simp at e1; omega
   rw [if_pos e1] at hq
   exact rW D hF hd fun e h1 r1 P=>aD (.inl (hq e h1 r1 (P.mono fun i _ e=>D.f i (.inl e))))
  ·have e1 : ¬ x = 256 := by simp at e1; omega
   rw [if_neg e1] at hq
   refine aM ?_ ?_ <;> intro e2
   ·have e2 : 285 < x := by simp at e2; omega
    rw [if_pos e2] at hq
    exact .inl (hq 2 h r ⟨Upd.refl _ _,fun _ _ h=>h,D,rfl,rfl,rfl,rfl,.inl rfl,hd⟩)
   ·have e2 : ¬ 285 < x := by simp at e2; omega
    rw [if_neg e2] at hq
    obtain ⟨b1,b2⟩:=qO x (by omega) (by omega)
    refine pP (by omega) (by omega) ?_
    simp only [d7,dW]
    refine aD (aD (cB fun h1 l1 U1 R1=>?_))
    refine aT R1 rfl (ltr rfl) (hk:=fun h2 l2 U2 R2=>?_)
    have U:Upd (fun _=>False) h h2:=U1.own U2 (Nat.le_refl _)
    have up:∀ {y z},Bx h (Gd F d r) y z→Bx h2 (Gd F d r) y z:=fun B=>B.upd U (fun _ _ h=>h) fun _ _ h=>h
    have Bn:Bx h2 (Gd F d r) (.p (some ⟨h.length,1,0⟩)) (iN (Infl.least x).1):=⟨_,rfl,R2,D.gd hF (Nat.le_refl _)⟩
    rw [(up B).ld]
    refine dH (D.ext U) hd (c:=.more a b (Infl.least x).1) ⟨_,_,_,_,ic,sym,ib,symb,rfl,up B,up Bb,Bn,up Ba,T.upd U (fun _ _ h=>h) fun _ _ h=>h⟩ ⟨b2,by simp, ?_,fun v hv=>?_⟩ fun h3 r3 P=>aD (.inl (hq 0 h3 r3 ?_))
    ·by_cases hz : (Infl.least x).2 = 0
     ·exact .inr ⟨hz,rfl,trivial⟩
     ·exact .inl (by omega)
    ·show (Infl.least x).1+v≤300; omega
    ·exact (P.from U (fun _ _ h=>h.elim) (fun _ _ h=>h) rfl rfl rfl).mono fun i _ e=>D.f i (.inl e)
theorem aFI {x n:Nat} {a b:List Nat} {v:AV} (D:Dec L h F d r out told) (hF:∀ i,h.length≤i→F i) (hd:r.done=false) (hc:Clo h (Gd F d r) d 0 (.p none) (.more a b n) v) (hf:fit (.more a b n) x)
  (hq:∀ e h' r',cK F L h F d r told (Infl.apply L r.input ⟨out,r.last,r.skip⟩ x (.more a b n)) e h' r'→Q (.i .i64 e) h'):bV C v [iN x] h Q:=by
 obtain ⟨bd,bb,bn,ba,ia,syma,ib,symb,rfl,B,Bb,Bn,Ba,T⟩:=hc
 have hf:n+x≤300:=hf
 refine cR (by decide) (Y65.call ?_)
 simp only [Y65.t]
 refine bT (hk:=fun h1 l1 U1 R1=>?_)
 have hib:=T.2.recd.lt
 have up:∀ {y z},Bx h (Gd F d r) y z→Bx h1 (Gd F d r) y z:=fun B=>B.upd U1 (fun _ _ h=>h) fun _ _ h=>h
 rw [(up B).ld,(up Bb).ld]
 have sep:∀ {y z},Bx h1 (Gd F d r) y z→Bx h1 (fun i=>Gd F d r i∧i≠ib) y z:=fun {y z} B=>by
  obtain ⟨id,e,R,g⟩:=B
  refine ⟨id,e,R,g, ?_⟩
  rintro rfl
  have R':=(T.2.recd.upd U1 fun h=>h)
  obtain ⟨b1,p1,p2,_⟩:=R
  obtain ⟨b2,q1,q2,_⟩:=R'
  rw [p1] at q1
  cases q1
  rw [p2] at q2
  have:=congrArg List.length q2
  rw [d9, ← cI (b6 b) z4 (by simp)] at this
  simp at this
 refine o4 (D.ext U1) hd (l:=b) (ic:=ib) (sym:=symb) (c:=.far a b (n+x)) (T.2.upd U1 (fun _ _ h=>h) fun i _ hi=>hi.1) ⟨bd,bn,_,ba,bb,n,x,ia,syma,rfl,rfl,sep (up B),sep (up Bn),sep (Bx.new R1 (D.gd hF (Nat.le_refl _))),sep (up Ba),sep (up Bb),T.1.upd U1 (fun _ _ h=>h) fun i _ hi=>hi,fun hs=>(T.2.gs ia hs).1.2 rfl⟩ ⟨by decide,by decide,fun v hv=>⟨hf,by have:=T.2.len; omega⟩⟩ fun h2 r2 P=>aD (.inl (hq 0 h2 r2 ?_))
 exact (P.from U1 (fun _ _ h=>h.elim) (fun _ _ h=>h) rfl rfl rfl).mono fun i _ e=>D.f i (.inl e)
theorem aGE {x n ic:Nat} {sym:AV} {a b:List Nat} {v:AV} (D:Dec L h F d r out told) (hF:∀ i,h.length≤i→F i) (hd:r.done=false) (A:bZ h (Gd F d r) ic b sym 0 0) (hc:Clo h (fun i=>Gd F d r i∧i≠ic) d ic sym (.far a b n) v) (hf:fit (.far a b n) x)
  (hq:∀ e h' r',cK F L h F d r told (Infl.apply L r.input ⟨out,r.last,r.skip⟩ x (.far a b n)) e h' r'→Q (.i .i64 e) h'):bV C v [iN x] h Q:=by
 obtain ⟨bd,bn,bm,ba,bb,n0,m,ia,syma,rfl,hn,B,Bn,Bm,Ba,Bb,Ac,hs⟩:=hc
 obtain ⟨hf1,hf2⟩:=hf
 have T:Two h (Gd F d r) ia syma a ic sym b:=by
  have:=xM A Ac hs
  exact ⟨this.2,this.1⟩
 have w:∀ {y z},Bx h (fun i=>Gd F d r i∧i≠ic) y z→Bx h (Gd F d r) y z:=fun B=>B.upd (Upd.refl (fun _=>False) h) (fun _ _ h=>h) fun i _ hi=>hi.1
 refine cR (by decide) (Y59.call ?_)
 simp only [Y59.t]
 simp only [Infl.apply] at hq
 refine aM ?_ ?_ <;> intro e0
 ·have e0 : 29 < x := by simp at e0; omega
  rw [if_pos e0] at hq
  exact .inl (hq 2 h r ⟨Upd.refl _ _,fun _ _ h=>h,D,rfl,rfl,rfl,rfl,.inl rfl,hd⟩)
 ·have e0 : ¬ 29 < x := by simp at e0; omega
  rw [if_neg e0] at hq
  obtain ⟨b0,b1,b2⟩:=vI x (by omega)
  refine lC (by omega) ?_
  simp only [d7,dW]
  refine aD (aD (cB fun h1 l1 U1 R1=>?_))
  refine aT R1 rfl (ltr rfl) (hk:=fun h2 l2 U2 R2=>?_)
  have U:Upd (fun _=>False) h h2:=U1.own U2 (Nat.le_refl _)
  have up:∀ {y z},Bx h (fun i=>Gd F d r i∧i≠ic) y z→Bx h2 (Gd F d r) y z:=fun B=>(w B).upd U (fun _ _ h=>h) fun _ _ h=>h
  have Bf:Bx h2 (Gd F d r) (.p (some ⟨h.length,1,0⟩)) (iN (Infl.farOf x).1):=⟨_,rfl,R2,D.gd hF (Nat.le_refl _)⟩
  rw [(up B).ld]
  refine dH (D.ext U) hd (c:=.farMore a b n (Infl.farOf x).1) ⟨_,_,_,_,_,_,n0,m,ia,syma,ic,sym,rfl,hn,up B,up Bn,up Bm,Bf,up Ba,up Bb,T.upd U (fun _ _ h=>h) fun _ _ h=>h⟩ ⟨b2,by simp, ?_,fun v hv=>⟨hf1,b0,by omega⟩⟩ fun h3 r3 P=>aD (.inl (hq 0 h3 r3 ?_))
  ·by_cases hz : (Infl.farOf x).2 = 0
   ·exact .inr ⟨hz,rfl,trivial⟩
   ·exact .inl (by omega)
  ·exact (P.from U (fun _ _ h=>h.elim) (fun _ _ h=>h) rfl rfl rfl).mono fun i _ e=>D.f i (.inl e)
theorem y7 {x n f : Nat} {a b : List Nat} {v : AV} (D : Dec L h F d r out told) (hF : ∀ i, h.length ≤ i → F i) (hd : r.done = false) (hc : Clo h (Gd F d r) d 0 (.p none) (.farMore a b n f) v) (hf : fit (.farMore a b n f) x)
  (hq:∀ e h' r',cK F L h F d r told (Infl.apply L r.input ⟨out,r.last,r.skip⟩ x (.farMore a b n f)) e h' r'→Q (.i .i64 e) h'):bV C v [iN x] h Q:=by
 obtain ⟨bd,bn,bm,bf,ba,bb,n0,m,ia,syma,ib,symb,rfl,hn,B,Bn,Bm,Bf,Ba,Bb,T⟩:=hc
 obtain ⟨hf1,hf2,hf3⟩:=hf
 refine cR (by decide) (Y71.call ?_)
 simp only [Y71.t,B.ld,Bn.ld,Bm.ld,Bf.ld,g8]
 simp only [Infl.apply] at hq
 refine cQ (n:=(n:Int)) (by omega) (by omega) (by omega) ?_
 refine cQ (n:=((f+x:Nat):Int)) (by omega) (by omega) (by omega) ?_
 refine aFL (by omega) hf1 hf3 D hF (fun hlt=>?_) fun hge e h1 p f' t U1 K1 D1 he=>?_
 ·rw [if_pos hlt] at hq
  exact aD (bA rfl (.inl (hq 2 h r ⟨Upd.refl _ _,fun _ _ h=>h,D,rfl,rfl,rfl,rfl,.inl rfl,hd⟩)))
 ·rw [if_neg (by omega)] at hq
  have hcore:=pI (L:=L) (input:=r.input) (far:=f+x) n ⟨out,r.last,r.skip⟩
  cases hcp:Infl.copyP L r.input (f+x) n ⟨out,r.last,r.skip⟩ with
  | mk k ok =>
   rw [hcp] at hcore D1 he hq
   simp only at hcore D1 he hq
   rcases he with ⟨rfl,rfl⟩ | ⟨rfl,rfl⟩
   ·refine aD (aX rfl ?_)
    have B1:=B.upd U1 (fun i hi hm=>hi.2 hm) (eS K1)
    have Ba1:=Ba.upd U1 (fun i hi hm=>hi.2 hm) (eS K1)
    have Bb1:=Bb.upd U1 (fun i hi hm=>hi.2 hm) (eS K1)
    rw [B1.ld,Ba1.ld,Bb1.ld]
    refine nI D1 (fun i hi=>hF i (Nat.le_trans U1.1 hi)) hd (T.upd U1 (fun i hi hm=>hi.2 hm) (eS K1)) fun e h2 r2 P=>aD (.inl (hq e h2 r2 ?_))
    rw [hcore]
    exact (P.mono fun i _ e=>D1.f i (.inl e)).from U1 (fun i _ hm=>D.f i hm) K1 rfl rfl rfl
   ·refine aD (bA rfl (.inl (hq 16 h1 { r with past := p, total := t, fresh := f' } ?_)))
    exact ⟨U1.mono fun i _ hm=>D.f i hm,K1,D1,rfl,rfl,rfl,rfl,.inr rfl,hd⟩
end
end Go.Proofs.YtpaphfeihpgamaaDoor
namespace Go.Proofs.YtpaphfeihpgamaaDoor
open Go.GAM
theorem dB.load {E:TypeId} {h:aA} {v:AV} {l:List UInt8} {c:UInt8} (B:dB E h v l) {k:IntKind} {i:Nat} (hi:l[i]? = some c) {K:AV→Prop} (hk:K (byteAV c)):aP 1 v (.i k (i:Int)) h fun a=>aB a h K:=by
 have hlt:=(List.getElem?_eq_some_iff.1 hi).1
 rcases B with ⟨rfl,rfl⟩ | ⟨id,b,rfl,h1,h2,h3,h4,h5⟩
 ·simp at hlt
 ·have e : b.cells.length = l.length := by rw [h2]; simp
  refine ⟨by omega,by omega,⟨b,h1,by show b.floor≤l.length; omega,by omega⟩, ?_⟩
  refine ⟨b,h1,⟨by show b.floor≤l.length; omega,by show l.length≤b.cells.length; omega,by simp only [Int.toNat_natCast]; omega⟩, ?_⟩
  simp only [Int.toNat_natCast,Nat.zero_add,Nat.mul_one]
  rw [h2,getD_some (c:=byteAV c) (by rw [List.getElem?_map,hi] <;> rfl)]
  exact hk
theorem dB.store {E:TypeId} {h:aA} {v:AV} {l:List UInt8} {c:UInt8} (B:dB E h v l) {k:IntKind} {i:Nat} (hi:i<l.length) {K:aA→Prop} (hk:∀ h',h'.length=h.length→Upd (aS v) h h'→dB E h' v (l.set i c)→K h') :
  aP 1 v (.i k (i:Int)) h fun a=>aV 1 a (byteAV c) h K:=by
 rcases B with ⟨rfl,rfl⟩ | ⟨id,b,rfl,h1,h2,h3,h4,h5,h6,h7,h8,h9⟩
 ·simp at hi
 ·have e : b.cells.length = l.length := by rw [h2]; simp
  refine ⟨by omega,by omega,⟨b,h1,by show b.floor≤l.length; omega,by omega⟩, ?_⟩
  refine ⟨b,h1,h5,h4,e.symm,by simp only [Int.toNat_natCast]; omega,rfl,rfl,rfl, ?_⟩
  refine hk _ (by simp) ((Upd.set _ _ _).mono fun i _ h=>h.symm) (.inr ⟨id,_,by rw [List.length_set],List.getElem?_set_self (aN h1), ?_,h3, ?_,h5,h6,h7,h8, ?_⟩)
  ·show (b.cells).set (0 + (i : Int).toNat * 1) (byteAV c) = _
   rw [Int.toNat_natCast,Nat.mul_one,Nat.zero_add,h2,List.map_set]
  ·show b.cells.length ≤ _
   rw [List.length_set]; omega
  ·intro h0
   have:=congrArg List.length h0
   rw [List.length_set] at this
   simp at this
   exact h9 this
abbrev u8T:TypeId:=5
abbrev wp (w:Nat):AV:=.p (some ⟨w,2,0⟩)
def fre (n:Nat):Nat:=(8 - n % 8) % 8
def Wr (h:aA) (G:Nat→Prop) (w:Nat) (bs:List Nat):Prop:=∃ v,bD h w [v,iN (fre bs.length)]∧dB u8T h v (Infl.pack bs)∧(∀ i,aS v i→G i∧i≠w)∧G w∧∀ x∈bs,x<2
theorem aER:∀ (fr:Fin 9) (c:Fin 256) (b:Fin 2),1≤fr.1→c.1<2 ^ (8 - fr.1)→bK .or .u8 ((c.1:Nat):Int) (IntKind.wrap .u8 (((b.1:Nat):Int) * 2 ^ (min (((8 - fr.1:Nat):Int)).toNat IntKind.u8.bits)))=((c.1+b.1 * 2 ^ (8 - fr.1):Nat):Int)∧c.1+b.1 * 2 ^ (8 - fr.1)<256:=by decide +kernel
section
variable [XR] {h:aA} {Q:AV→aA→Prop} {G:Nat→Prop} {w:Nat}
theorem slv {E:TypeId} {h:aA} {v:AV} {l:List UInt8} (B:dB E h v l):v.parts=[v]∧v.sizeOK=true∧v.cellOK=true:=by
 rcases B with ⟨rfl,_⟩ | ⟨id,b,rfl,_⟩ <;> exact ⟨rfl,rfl,rfl⟩
theorem dB.plen {E:TypeId} {h:aA} {v:AV} {l:List UInt8} (B:dB E h v l) {K:Int→Prop} (hk:K (l.length:Int)):bN v K:=by
 rcases B with ⟨rfl,rfl⟩ | ⟨id,b,rfl,_⟩ <;> exact hk
theorem tS {E:TypeId} {h:aA} {v:AV} {l:List UInt8} (B:dB E h v l) (hlen:l.length<140737488355328) {K:AV→aA→Prop}
  (hk:∀ v' h',Upd (aS v) h h'→dB E h' v' (l++[0])→(∀ i,aS v' i→aS v i∨h.length≤i)→K v' h'):bF 1 1 [.i .u8 0] [(0,1,.i .u8 0)] h fun x h'=>bM (some E) 1 1 v x h' K:=by
 refine dG (cs:=[.i .u8 0]) rfl rfl (hk:=fun x h1 l1 U1 R1 hx=>?_)
 refine (B.upd U1 fun _ _ h=>h).append (t:=[0]) (fun K' hK=>R1.news hK) (by simp; omega) fun v' h' U2 B2 g2=>hk v' h' ?_ B2 fun i hi=>?_
 ·exact (U1.mono fun _ _ h=>h.elim).trans U2 fun _ _ h=>h
 ·rcases g2 i hi with h | h
  ·exact .inl h
  ·exact .inr (by omega)
theorem aFU {v:AV} {fr:Nat} {pre:List UInt8} {c:Nat} {x n j:Nat} (h1:1≤fr) (h8:fr≤8) (hc:c<2 ^ (8 - fr)) (hpl:pre.length<140737488355328) (hj:j<n) (hn:n≤64) (hx:x<2 ^ 62) (R:bD h w [v,iN fr]) (B:dB u8T h v (pre++[UInt8.ofNat c])) (hv:¬ aS v w)
  (hq:∀ h',h'.length=h.length→Upd (fun i=>i=w∨aS v i) h h'→bD h' w [v,iN (fr - 1)]→dB u8T h' v (pre++[UInt8.ofNat (c+(x / 2 ^ j % 2) * 2 ^ (8 - fr))])→Y17.p0 Q (wp w) x n ((j:Int)+1) h') :
  Y17.p1 Q (wp w) x j n j h:=by
 refine Y17.i1 ?_
 unfold Y17.t1
 have c256:c<256:=Nat.lt_of_lt_of_le hc (Nat.pow_le_pow_right (by decide) (by omega:8 - fr≤8))
 obtain ⟨e1,e2⟩:=aER ⟨fr,by omega⟩ ⟨c,c256⟩ ⟨x / 2 ^ j % 2,Nat.mod_lt _ (by decide)⟩ h1 hc
 simp only at e1 e2
 refine gK (cY (aE R rfl rfl (gK (cY (aE R rfl rfl (dB.plen B ?_))))))
 refine aG (n:=(pre.length:Int)) (by rw [List.length_append,List.length_singleton,aL (by omega) (by omega)]; omega) ?_
 refine dB.load B (c:=UInt8.ofNat c) (by simp) ?_
 refine iQ ?_
 refine pA (by show j≤64; omega) ?_
 refine aG (n:=((x / 2 ^ j % 2:Nat):Int)) ?_ ?_
 ·have hlt : x / 2 ^ j < 2 ^ 62 := Nat.lt_of_le_of_lt (Nat.div_le_self _ _) hx
  have:=hZ (x:=x / 2 ^ j) (y:=1) (by omega) (by decide)
  rw [Nat.and_one_is_mod] at this
  rw [show ((1:Nat):Int)=1 from rfl] at this
  rw [this]
  have:=Nat.mod_lt (x / 2 ^ j) (show 0<2 by decide)
  exact tA (by omega) (by omega)
 refine gK (cY (aE R rfl rfl (aD ?_)))
 refine aG (n:=((8 - fr:Nat):Int)) (by rw [aL (by omega) (by omega)]; omega) ?_
 refine ⟨by omega, ?_⟩
 have ec:(((UInt8.ofNat c).toNat:Nat):Int)=(c:Int):=by rw [UInt8.toNat_ofNat']; omega
 show aP 1 v (AV.i .i64 (pre.length:Int)) h fun v44=>aV 1 v44 (AV.i .u8 (bK .or .u8 (((UInt8.ofNat c).toNat:Nat):Int) (IntKind.wrap .u8 (((x / 2 ^ j % 2:Nat):Int) * 2 ^ (min (((8 - fr:Nat):Int)).toNat IntKind.u8.bits))))) h _
 rw [ec,e1]
 have eb:AV.i .u8 ((c+x / 2 ^ j % 2 * 2 ^ (8 - fr):Nat):Int)=byteAV (UInt8.ofNat (c+x / 2 ^ j % 2 * 2 ^ (8 - fr))):=by
  unfold byteAV
  rw [UInt8.toNat_ofNat',Nat.mod_eq_of_lt (show _<2 ^ 8 from e2)]
 rw [eb]
 refine dB.store B (c:=UInt8.ofNat (c+x / 2 ^ j % 2 * 2 ^ (8 - fr))) (by simp) fun h2 l2 U2 B2=>?_
 have R2:=R.upd U2 hv
 refine gK (cY (aE R2 rfl rfl (aD ?_)))
 refine aG (n:=((fr - 1:Nat):Int)) (by rw [aL (by omega) (by omega)]; omega) ?_
 refine gK (cY (aT R2 rfl (by show 1<2; decide) (hk:=fun h3 l3 U3 R3=>?_)))
 refine aG (n:=(j:Int)+1) (aL (by omega) (by omega)) ?_
 refine hq h3 (by omega) ?_ R3 ?_
 ·exact (U2.mono fun i _ h=>Or.inr h).trans (U3.mono fun i _ h=>Or.inl h) fun _ _ h=>h
 ·have : (pre ++ [UInt8.ofNat c]).set pre.length (UInt8.ofNat (c + x / 2 ^ j % 2 * 2 ^ (8 - fr))) = pre ++ [UInt8.ofNat (c + x / 2 ^ j % 2 * 2 ^ (8 - fr))] := by
   rw [List.set_append_right _ _ (Nat.le_refl _),Nat.sub_self] <;> rfl
  rw [this] at B2
  exact B2.upd U3 fun i hi e=>hv (e ▸ hi)
theorem zA (x n : Nat) (hn : n ≤ 64) (hx : x < 2 ^ 62) (bs : List Nat) (hlen : bs.length + n < 2 ^ 40) : ∀ (k j : Nat) (h : aA), j + k = n → (∀ i, h.length ≤ i → G i) → Wr h G w (bs ++ Huff.loBits x j) → (∀ h', Upd G h h' → Wr h' G w (bs ++ Huff.loBits x n) → Q (.tu []) h') →
  Y17.p0 Q (wp w) x n j h:=by
 intro k
 induction k with
 | zero =>
  intro j h hj hG W hq
  refine Y17.i0 ?_
  unfold Y17.t0
  refine aX (decide_eq_false (by omega)) ?_
  have:j=n:=by omega
  subst this
  exact hq h (Upd.refl _ _) W
 | succ k ih =>
  intro j h hj hG W hq
  obtain ⟨v,R,B,g,gw,hx2⟩:=W
  have hb:x / 2 ^ j % 2<2:=Nat.mod_lt _ (by decide)
  obtain ⟨pre,c,p1,p2,p3⟩:=Infl.pack_snoc hb _ _ (Nat.le_refl _) hx2
  have hL:(bs++Huff.loBits x j).length=bs.length+j:=by rw [List.length_append,Infl.lo_length]
  have hsn:bs++Huff.loBits x (j+1)=(bs++Huff.loBits x j)++[x / 2 ^ j % 2]:=by rw [Infl.lo_snoc,List.append_assoc]
  have hx3:∀ y∈bs++Huff.loBits x (j+1),y<2:=by
   intro y hy
   rw [hsn] at hy
   rcases List.mem_append.1 hy with h | h
   ·exact hx2 y h
   ·rw [List.mem_singleton.1 h]; exact hb
  have hpk:=Infl.pack_len hx2
  rw [hL] at hpk p1 p2 p3
  have hv:¬ aS v w:=fun h=>(g w h).2 rfl
  refine Y17.i0 ?_
  unfold Y17.t0
  refine bA (decide_eq_true (by omega)) ?_
  refine gK (cY (aE R rfl rfl (aD ?_)))
  rcases p2 with ⟨m0,p2⟩ | ⟨m0,p2⟩
  ·have hf : fre (bs ++ Huff.loBits x j).length = 0 := by unfold fre; omega
   rw [m0,Nat.pow_zero] at p1 p3
   have c0:c=0:=by omega
   subst c0
   refine bA (decide_eq_true (by rw [hf] <;> rfl)) ?_
   refine gK (cY (aE R rfl rfl ?_))
   refine tS B (by omega) fun v1 h1 U1 B1 g1=>?_
   have R1:=R.upd U1 hv
   have hv1:¬ aS v1 w:=fun h=>by
    rcases g1 w h with h | h
    ·exact hv h
    ·have:=R.lt; omega
   obtain ⟨s1,s2,s3⟩:=slv B1
   refine gK (cY (aT R1 rfl (by show 0<2; decide) s1 s2 s3 (hk:=fun h2 l2 U2 R2=>?_)))
   refine gK (cY (aT R2 rfl (by show 1<2; decide) (hk:=fun h3 l3 U3 R3=>?_)))
   have B3:=(B1.upd U2 fun i hi e=>hv1 (e ▸ hi)).upd U3 fun i hi e=>hv1 (e ▸ hi)
   rw [p2] at B3
   have gv1:∀ i,aS v1 i→G i∧i≠w:=fun i hi=>⟨by
    rcases g1 i hi with h | h
    ·exact (g i h).1
    ·exact hG i h,fun e=>hv1 (e ▸ hi)⟩
   have hh:h.length≤h3.length:=by have:=U1.1; omega
   refine aFU (fr:=8) (c:=0) (pre:=pre) (by decide) (by decide) (by decide) (by rw [p2] at hpk; omega) (by omega) hn hx R3 B3 hv1 fun h4 l4 U4 R4 B4=>?_
   refine ih (j+1) h4 (by omega) (fun i hi=>hG i (by omega)) ⟨v1, ?_, ?_,gv1,gw,hx3⟩ fun h5 U5 W5=>hq h5 ?_ W5
   ·have : fre (bs ++ Huff.loBits x (j + 1)).length = 8 - 1 := by rw [List.length_append, Infl.lo_length]; unfold fre; omega
    rw [this]; exact R4
   ·rw [hsn,p3]; exact B4
   ·refine ((((U1.mono fun i _ h => (g i h).1).trans (U2.mono fun i _ h => (h ▸ gw : G i)) fun _ _ h => h).trans (U3.mono fun i _ h => (h ▸ gw : G i)) fun _ _ h => h).trans (U4.mono fun i _ h => ?_) fun _ _ h => h).trans U5 fun _ _ h => h
    rcases h with h | h
    ·exact h ▸ gw
    ·exact (gv1 i h).1
  ·have hf : fre (bs ++ Huff.loBits x j).length = 8 - (bs.length + j) % 8 := by rw [hL]; unfold fre; omega
   refine aX (decide_eq_false (by rw [hf]; omega)) ?_
   rw [hf] at R
   rw [p2] at B
   have e8:8 - (8 - (bs.length+j) % 8)=(bs.length+j) % 8:=by omega
   refine aFU (fr:=8 - (bs.length+j) % 8) (c:=c) (pre:=pre) (by omega) (by omega) (by rw [e8]; exact p1) (by rw [p2,List.length_append] at hpk; omega) (by omega) hn hx R B hv fun h4 l4 U4 R4 B4=>?_
   rw [e8] at B4
   refine ih (j+1) h4 (by omega) (fun i hi=>hG i (by omega)) ⟨v, ?_, ?_,g,gw,hx3⟩ fun h5 U5 W5=>hq h5 ?_ W5
   ·have : fre (bs ++ Huff.loBits x (j + 1)).length = 8 - (bs.length + j) % 8 - 1 := by rw [List.length_append, Infl.lo_length]; unfold fre; omega
    rw [this]; exact R4
   ·rw [hsn,p3]; exact B4
   ·refine (U4.mono fun i _ h => ?_).trans U5 fun _ _ h => h
    rcases h with h | h
    ·exact h ▸ gw
    ·exact (g i h).1
theorem kA {x n:Nat} {bs:List Nat} (hn:n≤64) (hx:x<2 ^ 62) (hlen:bs.length+n<2 ^ 40) (hG:∀ i,h.length≤i→G i) (W:Wr h G w bs) (hq:∀ h',Upd G h h'→Wr h' G w (bs++Huff.loBits x n)→Q (.tu []) h'):C Y17.id [wp w,iN x,iN n] h Q:=by
 refine Y17.call ?_
 unfold Y17.t
 refine zA x n hn hx bs hlen n 0 h (by omega) hG (by simpa [Huff.loBits] using W) fun h' U W'=>.inl (hq h' U W')
theorem tI {l:List Nat} {i x:Nat} (h:l[i]? = some x):(bB l)[i * 1]? = some (iN x):=by
 unfold bB
 rw [Nat.mul_one,List.getElem?_map,h] <;> rfl
theorem RdI.nat {h:aA} {v:AV} {l:List Nat} {k:IntKind} {i x:Nat} (R:RdI 1 h v (bB l) l.length) (hx:l[i]? = some x) {K:AV→Prop} (hk:K (iN x)):aP 1 v (.i k (i:Int)) h fun a=>aB a h K:=by
 have hi:=(List.getElem?_eq_some_iff.1 hx).1
 obtain ⟨p,P,hp⟩:=R.at hi
 have e:((bB l).drop (i * 1)).take 1=[iN x]:=by
  have hl:i<(bB l).length:=by rw [aW]; exact hi
  rw [Nat.mul_one,List.drop_eq_getElem_cons hl]
  have:=tI hx
  rw [Nat.mul_one,List.getElem?_eq_getElem hl] at this
  rw [Option.some.inj this] <;> rfl
 rw [e] at P
 exact hp k h _ (Upd.refl _ _) (P.load1 hk)
theorem aDB {s c:Nat} {cs:List Nat} {vc:AV} (hs:cs[s]? = some c) (hc:c<2 ^ 62) (hvG:∀ i,aS vc i→¬ G i):∀ (j:Nat) (bs':List Nat) (h:aA),j≤60→bs'.length+j<2 ^ 40 - 1→(∀ i,h.length≤i→G i)→RdI 1 h vc (bB cs) cs.length→Wr h G w bs' →
  (∀ h',Upd G h h'→Wr h' G w (bs'++Huff.hiBits c j)→Q (.tu []) h')→Y26.p0 Q (wp w) vc s ((j:Int) - 1) h:=by
 intro j
 induction j with
 | zero =>
  intro bs' h hj hl hG R W hq
  refine Y26.i0 ?_
  unfold Y26.t0
  refine aX (by decide) (hq h (Upd.refl _ _) (by simpa [Huff.hiBits] using W))
 | succ j ih =>
  intro bs' h hj hl hG R W hq
  refine Y26.i0 ?_
  unfold Y26.t0
  have ej:((j+1:Nat):Int) - 1=(j:Int):=by omega
  rw [ej]
  refine bA (decide_eq_true (by omega)) ?_
  refine RdI.nat R hs (aD ?_)
  refine pA (by show j≤64; omega) ?_
  have hlt:c / 2 ^ j<2 ^ 62:=Nat.lt_of_le_of_lt (Nat.div_le_self _ _) hc
  have ha:bK .and .i64 ((c / 2 ^ j:Nat):Int) 1=((c / 2 ^ j % 2:Nat):Int):=by
   have:=hZ (x:=c / 2 ^ j) (y:=1) (by omega) (by decide)
   rw [Nat.and_one_is_mod] at this
   exact this
  rw [ha]
  have hb:c / 2 ^ j % 2<2:=Nat.mod_lt _ (by decide)
  refine kA (x:=c / 2 ^ j % 2) (n:=1) (by decide) (by omega) (by omega) hG W fun h1 U1 W1=>?_
  refine aG (n:=(j:Int) - 1) (aL (by omega) (by omega)) ?_
  have e1:Huff.loBits (c / 2 ^ j % 2) 1=[c / 2 ^ j % 2]:=by
   show [c / 2 ^ j % 2 % 2]=_
   rw [Nat.mod_mod]
  rw [e1] at W1
  refine ih (bs'++[c / 2 ^ j % 2]) h1 (by omega) (by simp; omega) (fun i hi=>hG i (Nat.le_trans U1.1 hi)) (R.upd U1 hvG) W1 fun h2 U2 W2=>hq h2 (U1.trans U2 fun _ _ h=>h) ?_
  rw [List.append_assoc] at W2
  exact W2
theorem aFD {s c n:Nat} {cs ls:List Nat} {vc vl:AV} {bs:List Nat} (hs:cs[s]? = some c) (hn:ls[s]? = some n) (hc:c<2 ^ 62) (hn2:n≤60) (hvG:∀ i,aS vc i→¬ G i) (hl:bs.length+n<2 ^ 40 - 1) (hG:∀ i,h.length≤i→G i) (Rc:RdI 1 h vc (bB cs) cs.length) (Rl:RdI 1 h vl (bB ls) ls.length) (W:Wr h G w bs)
  (hq:∀ h',Upd G h h'→Wr h' G w (bs++Huff.hiBits c n)→Q (.tu []) h'):C Y26.id [wp w,vc,vl,iN s] h Q:=by
 refine Y26.call ?_
 unfold Y26.t
 refine RdI.nat Rl hn (aD ?_)
 refine aG (n:=(n:Int) - 1) (aL (by omega) (by omega)) ?_
 exact aDB hs hc hvG n bs h hn2 hl hG Rc W fun h' U W'=>.inl (hq h' U W')
end
end Go.Proofs.YtpaphfeihpgamaaDoor
namespace Go.GAM
def sI (h:aA) (id:Nat) (cs:List AV):Prop:=∃ b:ABlk,h[id]? = some b∧b.cells=cs∧b.floor≤cs.length∧b.gl=true
theorem sI.upd {M:Nat→Prop} {h h':aA} {id:Nat} {cs:List AV} (G:sI h id cs) (U:Upd M h h') (hM:¬ M id):sI h' id cs:=by
 obtain ⟨b,h1,h2⟩:=G
 exact ⟨b,(U.2 id (aN h1) hM).trans h1,h2⟩
theorem sI.var {h:aA} {id:Nat} {cs:List AV} (G:sI h id cs):yZ h id = .p (some ⟨id,cs.length,0⟩):=by
 obtain ⟨b,h1,rfl,h3,h4⟩:=G
 unfold yZ
 rw [h1]
 simp only [h4,Bool.true_and,Nat.ble_eq_true_of_le h3,cond_true]
theorem sI.ld {h:aA} {id n o:Nat} {cs:List AV} {v:AV} {K:AV→Prop} (G:sI h id cs) (hn:n=cs.length) (hc:cs[o]? = some v) (hk:K v):aB (.p (some ⟨id,n,o⟩)) h K:=by
 obtain ⟨b,h1,rfl,h3,h4⟩:=G
 subst hn
 have:=aN hc
 refine ⟨b,h1,⟨h3,Nat.le_refl _,this⟩, ?_⟩
 show K (b.cells.getD o .u)
 rw [getD_some hc]; exact hk
end Go.GAM
namespace Go.Proofs.YtpaphfeihpgamaaDoor
open Go.GAM
open Go.Infl (cA d6 cH Out Lim)
theorem Exa.rd {h:aA} {v:AV} {l:List Nat} (S:Exa h v l):Rd 1 h v (bB l) l.length:=by
 rcases S with ⟨rfl,rfl⟩ | ⟨id,b,rfl,h1,h2,h3,h4,h5⟩
 ·exact .inl ⟨rfl,rfl,rfl⟩
 ·have e : b.cells.length = l.length := by rw [h3, aW]
  exact .inr ⟨id,_,0,none,b,rfl,h1,.inl h2,h4,by omega,by omega,by rw [h3,List.drop_zero,Nat.mul_one, ← aW l,List.take_length]⟩
theorem Exa.app {ty:Option TypeId} {h:aA} {v y:AV} {l ns:List Nat} (S:Exa h v l) (R1:∀ K:List AV→Nat→Prop,K (bB ns) ns.length→eI 1 y h K) (hn:0<ns.length) (hlen:l.length+ns.length≤1000000) {K:AV→aA→Prop}
  (hk:∀ v' h',Upd (aS v) h h'→Exa h' v' (l++ns)→(∀ i,aS v' i→aS v i∨h.length≤i)→K v' h'):bM ty 1 8 v y h K:=by
 refine ⟨Nat.one_pos,R1 _ ?_⟩
 rcases S with ⟨rfl,rfl⟩ | ⟨id,b,rfl,g1,g2,g3,g4,g5,g6⟩
 ·refine ⟨by omega, by omega, ?_⟩
  rw [if_neg (by omega)]
  exact hk _ _ ((Upd.app _ _).mono fun _ _ h=>h.elim) (.inr ⟨h.length,aY (bB ns) 1 false ty,by rw [aW] <;> rfl,by simp,rfl,rfl,by simp [aY,aW],rfl,rfl⟩) fun i hi=>.inr (by have e:h.length=i:=hi; omega)
 ·have hid := aN g1
  have e:b.cells.length=l.length:=by rw [g3,aW]
  have ea:(l++ns).length=l.length+ns.length:=List.length_append
  have ec:(b.cells.drop 0).take (l.length * 1)=bB l:=by rw [g3,List.drop_zero,Nat.mul_one, ← aW l,List.take_length]
  refine ⟨by omega,by omega,b,g1,g2,⟨g4,by simp only; omega,by simp only; omega⟩, ?_⟩
  cases hex:b.ex with
  | true =>
   refine .inr (.inl ⟨hn,.inr ⟨rfl,e.symm,rfl,by simp only; omega⟩, ?_⟩)
   simp only [ec]
   rw [← eT]
   refine hk _ _ ((Upd.app _ _).mono fun _ _ h=>h.elim) (.inr ⟨h.length,aY (bB (l++ns)) 1 false ty,by rw [aW,ea],by simp,rfl,rfl,by simp [aY,aW],rfl,rfl⟩) fun i hi=>.inr (by have e:h.length=i:=hi; omega)
  | false =>
   refine .inr (.inr (.inr (.inl ⟨hn,g5,e.symm,rfl,by omega,rfl,rfl,g6,j7 _, ?_⟩)))
   refine hk _ _ ((Upd.set _ _ _).mono fun i _ h=>h.symm) (.inr ⟨id,{ b with cells:=b.cells++bB ns,ty:=eX b.ty ty }, ?_,by simp [hid,hex],g2,by simp only [g3]; rw [eT],by simp only; omega,g5,g6⟩) fun i hi=>.inl hi
   rw [List.length_append,aW,e,ea]
theorem Exa.front {h:aA} {v:AV} {l:List Nat} (S:Exa h v l) {n:Nat} (hn:n≤l.length) {K:AV→Prop} (hk:∀ v',RdI 1 h v' (bB (l.take n)) (l.take n).length→K v'):bG 1 v none (some (.i .i64 (n:Int))) none h K:=by
 obtain ⟨v',R,hv⟩:=S.rd.cutAt Nat.one_pos (lo:=none) (lo':=0) (hi:=n) (.inl ⟨rfl,rfl⟩) (Nat.zero_le _) hn
 refine hv _ (hk v' ?_)
 have e:(l.take n).length=n:=by rw [List.length_take]; omega
 rw [e]
 have:=R.i
 rw [Nat.zero_mul,List.drop_zero,Nat.mul_one,Nat.sub_zero] at this
 unfold bB at this ⊢
 rw [List.map_take]; exact this
theorem Exa.back {h:aA} {v:AV} {l:List Nat} (S:Exa h v l) {n:Nat} (hn:n≤l.length) {K:AV→Prop} (hk:∀ v',RdI 1 h v' (bB (l.drop n)) (l.drop n).length→K v'):bG 1 v (some (.i .i64 (n:Int))) none none h K:=by
 rcases S with ⟨rfl,rfl⟩ | ⟨id,b,rfl,g1,g2,g3,g4,g5,g6⟩
 ·have : n = 0 := by simpa using hn
  subst this
  exact ⟨by simp,rfl,rfl,rfl,fun h=>by simp at h,hk _ (.inl ⟨rfl,rfl,rfl⟩)⟩
 ·have e : b.cells.length = l.length := by rw [g3, aW]
  refine ⟨Nat.one_pos,fun h=>by simp at h,by omega,by simpa using hn,b,g1,by omega,by show b.floor≤l.length; omega,.inl g2,.inl (Nat.le_refl _), ?_⟩
  refine hk _ (.inr (.inr ⟨id,l.length,0+((n:Int).toNat) * 1,none,b, ?_,g1,by omega,by omega, ?_, ?_⟩))
  ·simp
  ·simp; omega
  ·rw [Int.toNat_natCast, Nat.mul_one, Nat.zero_add, Nat.mul_one, g3]
   unfold bB
   rw [← List.map_drop]
   exact List.take_of_length_le (by simp)
theorem cM.store {h:aA} {G:Nat→Prop} {v:AV} {l:List Nat} (A:cM h G v l) {k:IntKind} {i x:Nat} (hi:i<l.length) {K:aA→Prop} (hk:∀ h',h'.length=h.length→Upd (aS v) h h'→cM h' G v (l.set i x)→K h') :
  aP 1 v (.i k (i:Int)) h fun a=>aV 1 a (iN x) h K:=by
 obtain ⟨id,b,rfl,h1,h2,h3,h4,h5,g⟩:=A
 have e:b.cells.length=l.length:=by rw [h2,aW]
 refine ⟨by omega,by omega,⟨b,h1,by show b.floor≤l.length; omega,by omega⟩, ?_⟩
 refine ⟨b,h1,h4,h3,e.symm,by simp only [Int.toNat_natCast]; omega,rfl,rfl,rfl, ?_⟩
 refine hk _ (by simp) ((Upd.set _ _ _).mono fun i _ h=>h.symm) ⟨id,_,by rw [List.length_set],List.getElem?_set_self (aN h1), ?_, ?_,h4,h5,g⟩
 ·show (b.cells).set (0 + (i : Int).toNat * 1) (iN x) = _
  rw [Int.toNat_natCast,Nat.mul_one,Nat.zero_add,h2,jB]
 ·show b.cells.length ≤ _
  rw [List.length_set]; omega
section
variable [XR] {h:aA} {Q:AV→aA→Prop} {L:Lim} {F:Nat→Prop} {d:Nat} {r:DR} {out:List UInt8} {told:Nat}
theorem nG {c l:List Nat} {lits dists ic:Nat} {symc lv:AV} (hc19:c.length≤19) (hl1:lits≤286) (hd1:dists≤30) (hll:l.length≤lits+dists) (h16:∀ x∈l,x<16) (D:Dec L h F d r out told) (hF:∀ i,h.length≤i→F i) (hd:r.done=false)
  (A:bZ h (Gd F d r) ic c symc 0 0) (S:Lst h (fun i=>Gd F d r i∧i≠ic∧¬ aS symc i) lv l)
  (hq:∀ e h' r',cK (· = d) L h F d r told (Infl.lensW ⟨out,r.last,r.skip⟩ c l lits dists) e h' r'→Q (.i .i64 e) h'):C Y48.id [dp d,cp ic,lv,iN lits,iN dists] h Q:=by
 refine Y48.call ?_
 simp only [Y48.t]
 refine bT (hk:=fun h1 l1 U1 R1=>?_)
 refine bT (hk:=fun h2 l2 U2 R2=>?_)
 refine bT (hs:=by rcases S.1 with ⟨rfl,_⟩ | ⟨id,b,rfl,_⟩ <;> rfl) (hk:=fun h3 l3 U3 R3=>?_)
 have hparts:lv.parts=[lv]:=by rcases S.1 with ⟨rfl,_⟩ | ⟨id,b,rfl,_⟩ <;> rfl
 rw [hparts] at R3 ⊢
 refine bT (hk:=fun h4 l4 U4 R4=>?_)
 refine bT (hk:=fun h5 l5 U5 R5=>?_)
 have U45:=U4.then U5
 have U35:=U3.then U45
 have U25:=U2.then U35
 have U:=U1.then U25
 have R1:=R1.upd U25 fun h=>h
 have R2:=R2.upd U35 fun h=>h
 have R3:=R3.upd U45 fun h=>h
 have R4:=R4.upd U5 fun h=>h
 have S5:Exa h5 lv l:=S.1.upd U fun _ _ h=>h
 refine aE R3 rfl rfl (S5.rd.len ?_)
 refine aE R4 rfl rfl (aD (aE R5 rfl rfl (aD ?_)))
 refine cQ (n:=((lits+dists:Nat):Int)) (by omega) (by omega) (by omega) ?_
 unfold Infl.lensW at hq
 refine aM ?_ ?_ <;> intro e
 ·have e : l.length = lits + dists := by simp at e; omega
  rw [if_pos e] at hq
  refine aE R1 rfl rfl (aE R3 rfl rfl (aE R4 rfl rfl (aD (S5.front (by omega) fun va Ra=>?_))))
  refine aE R3 rfl rfl (aE R4 rfl rfl (aD (S5.back (by omega) fun vb Rb=>?_)))
  refine xG (D.ext U) (fun i hi=>hF i (Nat.le_trans U.1 hi)) hd Ra Rb (by rw [List.length_take]; omega) (by rw [List.length_drop]; omega) (fun x hx=>by have:=h16 x (List.mem_of_mem_take hx); omega) (fun x hx=>by have:=h16 x (List.mem_of_mem_drop hx); omega) fun e1 h6 r6 P=>aD (.inl (hq e1 h6 r6 ?_))
  exact P.from U (fun _ _ h=>h.elim) (fun _ _ h=>h) rfl rfl rfl
 ·have e : ¬ l.length = lits + dists := by simp at e; omega
  rw [if_neg e] at hq
  refine cB fun h6 l6 U6 R6=>?_
  refine aT R6 rfl (ltr rfl) (hk:=fun h7 l7 U7 R7=>?_)
  have U67:Upd (fun _=>False) h5 h7:=U6.own U7 (Nat.le_refl _)
  have V:=U.then U67
  have R1:=R1.upd U67 fun h=>h
  have R2:=R2.upd U67 fun h=>h
  have R3:=R3.upd U67 fun h=>h
  have R4:=R4.upd U67 fun h=>h
  have R5:=R5.upd U67 fun h=>h
  have hic:=A.recd.lt
  have G:∀ {i},h.length≤i→(Gd F d r i∧i≠ic)∧¬ aS lv i:=fun hi=>⟨⟨D.gd hF hi,by omega⟩,fun hs=>by have:=S.1.lt hs; omega⟩
  refine aE R1 rfl rfl (aE R2 rfl rfl ?_)
  refine o4 (D.ext V) hd (l:=c) (ic:=ic) (sym:=symc) (c:=.lens c l lits dists) (A.upd V (fun _ _ h=>h) fun i _ hi=>hi) ⟨_,_,_,_,_,_,lv,rfl,⟨S.1.upd V fun _ _ h=>h,fun i hi=>⟨(S.2 i hi).1,(S.2 i hi).2.1⟩⟩,fun i hi=>(S.2 i hi).2.2,⟨_,rfl,R1,G (Nat.le_refl _)⟩,⟨_,rfl,R2,G (by omega)⟩,⟨_,rfl,R3,G (by omega)⟩,⟨_,rfl,R4,G (by omega)⟩,⟨_,rfl,R5,G (by omega)⟩,⟨_,rfl,R7,G (by omega)⟩⟩
   ⟨by decide,by decide,fun v hv=>⟨hc19,hl1,hd1,by omega,h16,by omega⟩⟩ fun h8 r8 P=>aD (.inl (hq 0 h8 r8 ?_))
  exact P.from V (fun _ _ h=>h.elim) (fun _ _ h=>h) rfl rfl rfl
theorem yB {l:List Nat} {i n lits dists:Nat} {lv:AV} (hl1:lits≤286) (hd1:dists≤30) (h19:l.length=19) (h8:∀ x∈l,x<8) (hin:i≤n) (hn:n≤19) (D:Dec L h F d r out told) (hF:∀ i,h.length≤i→F i) (hd:r.done=false) (A:cM h (Gd F d r) lv l)
  (hq:∀ e h' r',cK (· = d) L h F d r told (Infl.thirdW ⟨out,r.last,r.skip⟩ l i n lits dists) e h' r'→Q (.i .i64 e) h'):C Y50.id [dp d,lv,iN i,iN n,iN lits,iN dists] h Q:=by
 refine Y50.call ?_
 simp only [Y50.t]
 have hparts:lv.parts=[lv]:=by obtain ⟨id,b,rfl,_⟩:=A; rfl
 have hlt:∀ j,aS lv j→j<h.length:=fun j hj=>A.rd.lt hj
 refine bT (hk:=fun h1 l1 U1 R1=>?_)
 refine bT (hs:=by obtain ⟨id,b,rfl,_⟩:=A; rfl) (hk:=fun h2 l2 U2 R2=>?_)
 rw [hparts] at R2 ⊢
 refine bT (hk:=fun h3 l3 U3 R3=>?_)
 refine bT (hk:=fun h4 l4 U4 R4=>?_)
 refine bT (hk:=fun h5 l5 U5 R5=>?_)
 refine bT (hk:=fun h6 l6 U6 R6=>?_)
 have U56:=U5.then U6
 have U46:=U4.then U56
 have U36:=U3.then U46
 have U26:=U2.then U36
 have U:=U1.then U26
 have R1:=R1.upd U26 fun h=>h
 have R2:=R2.upd U36 fun h=>h
 have R3:=R3.upd U46 fun h=>h
 have R4:=R4.upd U56 fun h=>h
 have R5:=R5.upd U6 fun h=>h
 have A6:cM h6 (Gd F d r) lv l:=A.upd U (fun _ _ h=>h) fun _ _ h=>h
 refine aE R3 rfl rfl (aD (aE R4 rfl rfl (aD ?_)))
 unfold Infl.thirdW at hq
 refine aM ?_ ?_ <;> intro e
 ·have e : i = n := by simp at e; omega
  rw [if_pos e] at hq
  refine aE R2 rfl rfl ?_
  refine o3 A6.rd.i (by omega) (fun x hx=>by have:=h8 x hx; omega) (fun hn e he=>?_) fun hok h7 ic sym U7 Ac=>?_
  ·simp only [d7, dW]
   rw [if_neg hn] at hq
   refine aD (bA (by simp [he]) (.inl (hq 2 h6 r ?_)))
   exact ⟨U.mono fun _ _ h=>h.elim,fun _ _ h=>h,D.ext U,rfl,rfl,rfl,rfl,.inl rfl,hd⟩
  ·simp only [d7, dW]
   rw [if_pos hok] at hq
   refine aD (aX rfl ?_)
   have V:=U.then U7
   have hU:=U.1
   have Ag:bZ h7 (Gd F d r) ic l sym 0 0:={ Ac with g:=D.gd hF (Nat.le_trans hU Ac.g),gs:=fun i hi=>⟨D.gd hF (Nat.le_trans hU (Ac.gs i hi).1),(Ac.gs i hi).2⟩ }
   refine aE (R1.upd U7 fun h=>h) rfl rfl (aE (R5.upd U7 fun h=>h) rfl rfl (aD (aE (R6.upd U7 fun h=>h) rfl rfl (aD ?_))))
   refine nG (l:=[]) (by omega) hl1 hd1 (Nat.zero_le _) (fun x hx=>by cases hx) (D.ext V) (fun i hi=>hF i (Nat.le_trans V.1 hi)) hd Ag ⟨.inl ⟨rfl,rfl⟩,fun _ h=>h.elim⟩ fun e h8 r8 P=>aD (.inl (hq e h8 r8 ?_))
   exact P.from V (fun _ _ h=>h.elim) (fun _ _ h=>h) rfl rfl rfl
 ·have e : ¬ i = n := by simp at e; omega
  rw [if_neg e] at hq
  have G:∀ {i},h.length≤i→Gd F d r i∧¬ aS lv i:=fun hi=>⟨D.gd hF hi,fun hs=>by have:=hlt _ hs; omega⟩
  refine aE R1 rfl rfl ?_
  refine dH (D.ext U) hd (c:=.third l i n lits dists) ⟨_,_,_,_,_,_,lv,rfl,A6,⟨_,rfl,R2,G (by omega)⟩,⟨_,rfl,R3,G (by omega)⟩,⟨_,rfl,R1,G (Nat.le_refl _)⟩,⟨_,rfl,R4,G (by omega)⟩,⟨_,rfl,R5,G (by omega)⟩,⟨_,rfl,R6,G (by omega)⟩⟩
   ⟨by decide,by decide,.inl (by decide),fun v hv=>⟨hl1,hd1,h19,by omega,hn,h8,hv⟩⟩ fun h7 r7 P=>aD (.inl (hq 0 h7 r7 ?_))
  exact P.from U (fun _ _ h=>h.elim) (fun _ _ h=>h) rfl rfl rfl
theorem aFH {x lits dists:Nat} {v:AV} (D:Dec L h F d r out told) (hF:∀ i,h.length≤i→F i) (hd:r.done=false) (hc:Clo h (Gd F d r) d 0 (.p none) (.dyn3 lits dists) v) (hf:fit (.dyn3 lits dists) x)
  (hq:∀ e h' r',cK F L h F d r told (Infl.apply L r.input ⟨out,r.last,r.skip⟩ x (.dyn3 lits dists)) e h' r'→Q (.i .i64 e) h'):bV C v [iN x] h Q:=by
 obtain ⟨bd,bl,bs,rfl,B,Bl,Bs⟩:=hc
 obtain ⟨f1,f2,f3⟩:=hf
 refine cR (by decide) (Y75.call ?_)
 simp only [Y75.t,B.ld,Bl.ld,Bs.ld,g8]
 refine cQ (n:=((x+4:Nat):Int)) (by omega) (by omega) (by omega) ?_
 refine mG (n:=19) (by decide) fun v h1 U1 A1=>?_
 have up:∀ {y z},Bx h (Gd F d r) y z→Bx h1 (Gd F d r) y z:=fun B=>B.upd U1 (fun _ _ h=>h) fun _ _ h=>h
 simp only [(up B).ld,(up Bl).ld,(up Bs).ld,g8,mU,true_and]
 refine yB (l:=List.replicate 19 0) (i:=0) f1 f2 (by simp) (fun x hx=>by rw [(List.mem_replicate.1 hx).2]; decide) (by omega) (by omega) (D.ext U1) (fun i hi=>hF i (Nat.le_trans U1.1 hi)) hd (A1.mono fun i _ hi=>D.gd hF hi) fun e h2 r2 P=>aD (.inl (hq e h2 r2 ?_))
 exact (P.from U1 (fun _ _ h=>h.elim) (fun _ _ h=>h) rfl rfl rfl).mono fun i _ e=>D.f i (.inl e)
theorem aA0:∀ i,i<19→Infl.order[i]? = some (Infl.order.getD i 0)∧Infl.order.getD i 0<19:=by decide
abbrev cT (h:aA):Prop:=sI h 0 (bB Infl.order)
theorem aDC {x i n lits dists:Nat} {l:List Nat} {v:AV} (O:cT h) (D:Dec L h F d r out told) (hF:∀ i,h.length≤i→F i) (hd:r.done=false) (hc:Clo h (Gd F d r) d 0 (.p none) (.third l i n lits dists) v) (hf:fit (.third l i n lits dists) x)
  (hq:∀ e h' r',cK F L h F d r told (Infl.apply L r.input ⟨out,r.last,r.skip⟩ x (.third l i n lits dists)) e h' r'→Q (.i .i64 e) h'):bV C v [iN x] h Q:=by
 obtain ⟨bl,bi,bd,bn,bt,bs,lv,rfl,A,Bl,Bi,B,Bn,Bt,Bs⟩:=hc
 obtain ⟨f1,f2,f3,f4,f5,f6,f7⟩:=hf
 obtain ⟨o1,o2⟩:=aA0 i (by omega)
 refine cR (by decide) (Y69.call ?_)
 simp only [Y69.t,Bl.ld,Bi.ld,g8]
 rw [O.var]
 refine ⟨by omega,by omega, ?_⟩
 refine O.ld (o:=0+(i:Int).toNat * 1) (v:=iN (Infl.order.getD i 0)) rfl (by rw [Int.toNat_natCast,Nat.mul_one,Nat.zero_add]; exact g9 o1) (aD ?_)
 refine A.store (by omega) fun h1 l1 U1 A1=>?_
 have up:∀ {y z},Bx h (fun i=>Gd F d r i∧¬ aS lv i) y z→Bx h1 (fun i=>Gd F d r i∧¬ aS lv i) y z:=fun B=>B.upd U1 (fun i hi=>hi.2) fun _ _ h=>h
 simp only [(up B).ld,(up Bl).ld,(up Bi).ld,(up Bn).ld,(up Bt).ld,(up Bs).ld,g8]
 have hlv:∀ i,aS lv i→Gd F d r i:=fun i hi=>by obtain ⟨id,b,rfl,_,_,_,_,_,g⟩:=A; have e:id=i:=hi; exact e ▸ g
 refine inc (by omega) ?_
 refine yB (l:=l.set (Infl.order.getD i 0) x) (i:=i+1) f1 f2 (by rw [List.length_set]; exact f3) (fun y hy=>?_) (by omega) f5 (D.upd U1 fun i hm hi=>(hlv i hi).2 hm) (fun i hi=>hF i (by omega)) hd A1 fun e h2 r2 P=>aD (.inl (hq e h2 r2 ?_))
 ·rcases List.mem_or_eq_of_mem_set hy with h | h
  ·exact f6 y h
  ·rw [h]; exact f7
 ·exact (P.mono (N:=F) fun i _ e=>D.f i (.inl e)).from U1 (fun i _ hi=>(hlv i hi).1) (fun _ _ h=>h) rfl rfl rfl
theorem mV {bd bl bt bs bc lv symc:AV} {c l:List Nat} {lits dists ic bits m x:Nat} (D:Dec L h F d r out told) (hF:∀ i,h.length≤i→F i) (hd:r.done=false) (A:bZ h (Gd F d r) ic c symc 0 0) (S:Lst h (fun i=>Gd F d r i∧i≠ic∧¬ aS symc i) lv l)
  (B:Bx h (fun i=>Gd F d r i∧¬ aS lv i) bd (dp d)) (Bl:Bx h (fun i=>Gd F d r i∧¬ aS lv i) bl lv) (Bt:Bx h (fun i=>Gd F d r i∧¬ aS lv i) bt (iN lits)) (Bs:Bx h (fun i=>Gd F d r i∧¬ aS lv i) bs (iN dists)) (Bc:Bx h (fun i=>Gd F d r i∧¬ aS lv i) bc (cp ic))
  (hb0:0<bits) (hb:bits≤7) (hfit:∀ v,v<2 ^ bits→fit (.rep c l lits dists m x) v)
  (hq:∀ h' r',cK (· = d) L h F d r told (.wait ⟨out,r.last,r.skip⟩ (.num bits 0 0) (.rep c l lits dists m x)) 0 h' r'→Q (iN 0) h'):bV C (Fn Y56.id [bd,bl,bt,bs,bc]) [iN bits,iN m,iN x] h Q:=by
 refine cR (by decide) (Y56.call ?_)
 simp only [Y56.t]
 refine bT (hk:=fun h1 l1 U1 R1=>?_)
 refine bT (hk:=fun h2 l2 U2 R2=>?_)
 have U:=U1.then U2
 have R1:=R1.upd U2 fun h=>h
 have up:∀ {y z},Bx h (fun i=>Gd F d r i∧¬ aS lv i) y z→Bx h2 (fun i=>Gd F d r i∧¬ aS lv i) y z:=fun B=>B.upd U (fun _ _ h=>h) fun _ _ h=>h
 have G:∀ {i},h.length≤i→Gd F d r i∧¬ aS lv i:=fun hi=>⟨D.gd hF hi,fun hs=>by have:=S.1.lt hs; omega⟩
 rw [(up B).ld]
 refine dH (D.ext U) hd (c:=.rep c l lits dists m x) ⟨_,_,_,_,_,_,_,ic,symc,lv,rfl,S.upd U (fun _ _ h=>h) fun _ _ h=>h,A.upd U (fun _ _ h=>h) fun _ _ h=>h,up Bl,⟨_,rfl,R1,G (Nat.le_refl _)⟩,up Bt,up Bs,up B,up Bc,⟨_,rfl,R2,G (by omega)⟩⟩
  ⟨by omega,by simp,.inl hb0,hfit⟩ fun h3 r3 P=>aD (.inl (hq h3 r3 ?_))
 exact P.from U (fun _ _ h=>h.elim) (fun _ _ h=>h) rfl rfl rfl
theorem aEV {x ic lits dists : Nat} {sym : AV} {c l : List Nat} {v : AV} (D : Dec L h F d r out told) (hF : ∀ i, h.length ≤ i → F i) (hd : r.done = false) (A : bZ h (Gd F d r) ic c sym 0 0) (hc : Clo h (fun i => Gd F d r i ∧ i ≠ ic) d ic sym (.lens c l lits dists) v) (hf : fit (.lens c l lits dists) x)
  (hq:∀ e h' r',cK F L h F d r told (Infl.apply L r.input ⟨out,r.last,r.skip⟩ x (.lens c l lits dists)) e h' r'→Q (.i .i64 e) h'):bV C v [iN x] h Q:=by
 obtain ⟨bd,bc,bl,bt,bs,br,lv,rfl,S0,hns,B,Bc,Bl,Bt,Bs,Br⟩:=hc
 obtain ⟨f0,f1,f2,f3,f4,f5⟩:=hf
 have S:Lst h (fun i=>Gd F d r i∧i≠ic∧¬ aS sym i) lv l:=⟨S0.1,fun i hi=>⟨(S0.2 i hi).1,(S0.2 i hi).2,hns i hi⟩⟩
 have w:∀ {y z},Bx h (fun i=>(Gd F d r i∧i≠ic)∧¬ aS lv i) y z→Bx h (fun i=>Gd F d r i∧¬ aS lv i) y z:=fun B=>B.upd (Upd.refl (fun _=>False) h) (fun _ _ h=>h) fun i _ hi=>⟨hi.1.1,hi.2⟩
 have B:=w B
 have Bc:=w Bc
 have Bl:=w Bl
 have Bt:=w Bt
 have Bs:=w Bs
 have Br:=w Br
 have hFd:∀ i,h.length≤i→F i:=hF
 refine cR (by decide) (Y32.call ?_)
 simp only [Y32.t, ← Y32.p0.eq_1]
 simp only [Infl.apply] at hq
 refine aM ?_ ?_ <;> intro e0
 ·have e0 : x < 16 := by simp at e0; omega
  rw [if_pos e0] at hq
  simp only [B.ld,Bc.ld,Bl.ld,Bt.ld,Bs.ld,g8]
  refine dG (cs:=bB [x]) rfl rfl fun y h1 l1 U1 R1 F1=>?_
  have up:∀ {y z},Bx h (fun i=>Gd F d r i∧¬ aS lv i) y z→Bx h1 (fun i=>Gd F d r i∧¬ aS lv i) y z:=fun B=>B.upd U1 (fun _ _ h=>h) fun _ _ h=>h
  simp only [(up B).ld,(up Bc).ld,(up Bl).ld,(up Bt).ld,(up Bs).ld,g8,mU,true_and]
  have S1:Exa h1 lv l:=S.1.upd U1 fun _ _ h=>h
  refine S1.app (ns:=[x]) (fun K hk=>R1.news hk) Nat.one_pos (by simp; omega) fun lv' h2 U2 S2 N2=>?_
  have up2:∀ {y z},Bx h (fun i=>Gd F d r i∧¬ aS lv i) y z→Bx h2 (fun i=>Gd F d r i∧¬ aS lv i) y z:=fun B=>(up B).upd U2 (fun i hi=>hi.2) fun _ _ h=>h
  simp only [(up2 B).ld,(up2 Bc).ld,(up2 Bt).ld,(up2 Bs).ld,g8,mU,true_and]
  have U:Upd (aS lv) h h2:=(U1.mono fun _ _ h=>h.elim).trans U2 fun _ _ h=>h
  have hic:=A.recd.lt
  refine nG (l:=l++[x]) f0 f1 f2 (by simp; omega) (fun y hy=>?_) (D.upd U fun i hm hi=>(S.2 i hi).1.2 hm) (fun i hi=>hF i (Nat.le_trans U.1 hi)) hd { A with recd:=A.recd.upd U fun hs=>(S.2 ic hs).2.1 rfl,syms:=A.syms.upd U fun i hi hs=>(S.2 i hs).2.2 hi,gs:=fun i hi=>⟨(A.gs i hi).1,(A.gs i hi).2.1,Nat.lt_of_lt_of_le (A.gs i hi).2.2 U.1⟩ } ⟨S2,fun i hi=>?_⟩ fun e h3 r3 P=>aD (.inl (hq e h3 r3 ?_))
  ·rcases List.mem_append.1 hy with h | h
   ·exact f4 y h
   ·simp at h; omega
  ·rcases N2 i hi with g | g
   ·exact S.2 i g
   ·have := U1.1
    exact ⟨D.gd hF (by omega),by omega,fun hs=>by have:=(A.gs i hs).2.2; omega⟩
  ·exact (P.mono (N:=F) fun i _ e=>D.f i (.inl e)).from U (fun i _ hi=>(S.2 i hi).1.1) (fun _ _ h=>h) rfl rfl rfl
 ·have e0 : ¬ x < 16 := by simp at e0; omega
  rw [if_neg e0] at hq
  have P0 : ∀ t, t = decide (x = 16 ∧ l = []) → Y32.p0 (aK h Q) x bl br t h := fun t ht => by
   refine Y32.i0 ?_
   simp only [Y32.t0]
   by_cases h16:x=16
   ·rw [if_pos h16] at hq
    by_cases hl:l=[]
    ·rw [if_pos hl] at hq
     refine bA (by rw [ht]; exact decide_eq_true ⟨h16,hl⟩) (.inl (hq 2 h r ?_))
     exact ⟨Upd.refl _ _,fun _ _ h=>h,D,rfl,rfl,rfl,rfl,.inl rfl,hd⟩
    ·rw [if_neg hl] at hq
     refine aX (by rw [ht]; exact decide_eq_false fun hh=>hl hh.2) (bA (by simp; omega) ?_)
     have hpos:0<l.length:=List.length_pos_iff.2 hl
     simp only [Bl.ld,Br.ld]
     refine S.1.rd.len (cQ (n:=((l.length - 1:Nat):Int)) (by omega) (by omega) (by omega) ?_)
     have hlast:l[l.length - 1]? = some (l.getLastD 0):=by
      rw [List.getLastD_eq_getLast?,List.getLast?_eq_getElem?]
      rw [List.getElem?_eq_getElem (by omega)] <;> rfl
     have hx16:=f4 _ (List.mem_of_getElem? hlast)
     refine dT S.1.rd.i hlast ?_
     refine mV (bits:=2) (m:=3) D hF hd A S B Bl Bt Bs Bc (by decide) (by decide) (fun v hv=>⟨f0,f1,f2,f3,f4,hx16,by decide,by omega⟩) fun h1 r1 P=>aD (.inl (hq 0 h1 r1 (P.mono fun i _ e=>D.f i (.inl e))))
   ·rw [if_neg h16] at hq
    refine aX (by rw [ht]; exact decide_eq_false fun hh=>h16 hh.1) (aX (by simp; omega) ?_)
    refine aM ?_ ?_ <;> intro e1
    ·have e1 : x = 17 := by simp at e1; omega
     rw [if_pos e1] at hq
     simp only [Br.ld]
     refine mV (bits:=3) (m:=3) (x:=0) D hF hd A S B Bl Bt Bs Bc (by decide) (by decide) (fun v hv=>⟨f0,f1,f2,f3,f4,by decide,by decide,by omega⟩) fun h1 r1 P=>aD (.inl (hq 0 h1 r1 (P.mono fun i _ e=>D.f i (.inl e))))
    ·have e1 : ¬ x = 17 := by simp at e1; omega
     rw [if_neg e1] at hq
     simp only [Br.ld]
     refine mV (bits:=7) (m:=11) (x:=0) D hF hd A S B Bl Bt Bs Bc (by decide) (by decide) (fun v hv=>⟨f0,f1,f2,f3,f4,by decide,by decide,by omega⟩) fun h1 r1 P=>aD (.inl (hq 0 h1 r1 (P.mono fun i _ e=>D.f i (.inl e))))
  refine aM ?_ ?_ <;> intro e1
  ·have e1 : x = 16 := by simp at e1; omega
   simp only [Bl.ld]
   refine S.1.rd.len (P0 _ ?_)
   rw [decide_eq_decide]
   constructor
   ·intro hh; exact ⟨e1,List.eq_nil_of_length_eq_zero (by omega)⟩
   ·rintro ⟨_,rfl⟩; rfl
  ·have e1 : ¬ x = 16 := by simp at e1; omega
   exact P0 _ (decide_eq_false fun hh=>e1 hh.1).symm
theorem aF7 {x lits dists m y : Nat} {c l : List Nat} {v : AV} (D : Dec L h F d r out told) (hF : ∀ i, h.length ≤ i → F i) (hd : r.done = false) (hc : Clo h (Gd F d r) d 0 (.p none) (.rep c l lits dists m y) v) (hf : fit (.rep c l lits dists m y) x)
  (hq:∀ e h' r',cK F L h F d r told (Infl.apply L r.input ⟨out,r.last,r.skip⟩ x (.rep c l lits dists m y)) e h' r'→Q (.i .i64 e) h'):bV C v [iN x] h Q:=by
 obtain ⟨bl,bm,bt,bs,bd,bc,bx,ic,symc,lv,rfl,S,A,Bl,Bm,Bt,Bs,B,Bc,Bx'⟩:=hc
 obtain ⟨f0,f1,f2,f3,f4,f5,f6,f7⟩:=hf
 refine cR (by decide) (Y62.call ?_)
 simp only [Y62.t,B.ld,Bc.ld,Bl.ld,Bm.ld,Bt.ld,Bs.ld,Bx'.ld,g8]
 simp only [Infl.apply] at hq
 refine S.1.rd.len ?_
 refine cQ (n:=((l.length+m:Nat):Int)) (by omega) (by omega) (by omega) ?_
 refine cQ (n:=((l.length+(m+x):Nat):Int)) (by omega) (by omega) (by omega) ?_
 refine cQ (n:=((lits+dists:Nat):Int)) (by omega) (by omega) (by omega) ?_
 refine aM ?_ ?_ <;> intro e0
 ·have e0 : lits + dists < l.length + (m + x) := by simp at e0; omega
  rw [if_pos e0] at hq
  exact .inl (hq 2 h r ⟨Upd.refl _ _,fun _ _ h=>h,D,rfl,rfl,rfl,rfl,.inl rfl,hd⟩)
 ·have e0 : ¬ lits + dists < l.length + (m + x) := by simp at e0; omega
  rw [if_neg e0] at hq
  refine cQ (n:=((m+x:Nat):Int)) (by omega) (by omega) (by omega) ?_
  refine dG (cs:=bB [y]) rfl rfl fun z h1 l1 U1 R1 F1=>?_
  have up:∀ {y z},Bx h (fun i=>Gd F d r i∧¬ aS lv i) y z→Bx h1 (fun i=>Gd F d r i∧¬ aS lv i) y z:=fun B=>B.upd U1 (fun _ _ h=>h) fun _ _ h=>h
  simp only [(up B).ld,(up Bc).ld,(up Bl).ld,(up Bm).ld,(up Bt).ld,(up Bs).ld,(up Bx').ld,g8,mU,true_and]
  refine tQ R1.i (by omega) (by omega) fun h2 z2 U2 A2=>?_
  have U12:=U1.then U2
  have up2:∀ {y z},Bx h (fun i=>Gd F d r i∧¬ aS lv i) y z→Bx h2 (fun i=>Gd F d r i∧¬ aS lv i) y z:=fun B=>B.upd U12 (fun _ _ h=>h) fun _ _ h=>h
  simp only [(up2 B).ld,(up2 Bc).ld,(up2 Bl).ld,(up2 Bm).ld,(up2 Bt).ld,(up2 Bs).ld,(up2 Bx').ld,g8,mU,true_and]
  have S2:Exa h2 lv l:=S.1.upd U12 fun _ _ h=>h
  refine S2.app (ns:=List.replicate (m+x) y) (fun K hk=>A2.rd.i.news hk) (by simp; omega) (by simp; omega) fun lv' h3 U3 S3 N3=>?_
  have up3:∀ {y z},Bx h (fun i=>Gd F d r i∧¬ aS lv i) y z→Bx h3 (fun i=>Gd F d r i∧¬ aS lv i) y z:=fun B=>(up2 B).upd U3 (fun i hi=>hi.2) fun _ _ h=>h
  simp only [(up3 B).ld,(up3 Bc).ld,(up3 Bl).ld,(up3 Bm).ld,(up3 Bt).ld,(up3 Bs).ld,(up3 Bx').ld,g8,mU,true_and]
  have U:Upd (aS lv) h h3:=(U12.mono fun _ _ h=>h.elim).trans U3 fun _ _ h=>h
  have hic:=A.recd.lt
  refine nG (l:=l++List.replicate (m+x) y) f0 f1 f2 (by simp; omega) (fun y' hy=>?_) (D.upd U fun i hm hi=>(S.2 i hi).1.2 hm) (fun i hi=>hF i (Nat.le_trans U.1 hi)) hd { A with recd:=A.recd.upd U fun hs=>(S.2 ic hs).2.1 rfl,syms:=A.syms.upd U fun i hi hs=>(S.2 i hs).2.2 hi,gs:=fun i hi=>⟨(A.gs i hi).1,(A.gs i hi).2.1,Nat.lt_of_lt_of_le (A.gs i hi).2.2 U.1⟩ } ⟨S3,fun i hi=>?_⟩ fun e h4 r4 P=>aD (.inl (hq e h4 r4 ?_))
  ·rcases List.mem_append.1 hy with h | h
   ·exact f4 y' h
   ·rw [(List.mem_replicate.1 h).2]; exact f5
  ·rcases N3 i hi with g | g
   ·exact S.2 i g
   ·have := U12.1
    exact ⟨D.gd hF (by omega),by omega,fun hs=>by have:=(A.gs i hs).2.2; omega⟩
  ·exact (P.mono (N:=F) fun i _ e=>D.f i (.inl e)).from U (fun i _ hi=>(S.2 i hi).1.1) (fun _ _ h=>h) rfl rfl rfl
end
end Go.Proofs.YtpaphfeihpgamaaDoor
namespace Go.Proofs.YtpaphfeihpgamaaDoor
open Go.GAM
def e7 (l:List Nat) (i:Nat):List Nat:=(List.range 16).map fun n=>Huff.fst l n+Huff.cnt (l.take i) n
def mP (l:List Nat) (i:Nat):List Nat:=(List.range l.length).map fun j=>if j<i∧0<l.getD j 0 then Huff.codeAt l j else 0
def gO (l:List Nat):List Nat:=mP l l.length
theorem gT (l:List Nat) (i:Nat):(e7 l i).length=16:=by simp [e7]
theorem jR (l:List Nat) (i:Nat):(mP l i).length=l.length:=by simp [mP]
theorem pN (l:List Nat) (i:Nat) {n:Nat} (h:n<16):(e7 l i)[n]? = some (Huff.fst l n+Huff.cnt (l.take i) n):=by simp [e7,h]
theorem oS (l:List Nat) (i:Nat) {j:Nat} (h:j<l.length):(mP l i)[j]? = some (if j<i∧0<l.getD j 0 then Huff.codeAt l j else 0):=by simp [mP,h]
theorem zC {l:List Nat} {j:Nat} (h:j<l.length) (h0:0<l.getD j 0):(gO l)[j]? = some (Huff.codeAt l j):=by
 rw [gO,oS l _ h,if_pos ⟨h,h0⟩]
theorem vQ (l:List Nat):e7 l 0=(List.range 16).map (Huff.fst l):=by
 unfold e7
 exact List.map_congr_left fun j _=>by
  have:Huff.cnt (l.take 0) j=0:=by cases j <;> rfl
  rw [this] <;> rfl
theorem yX (l:List Nat):mP l 0=List.replicate l.length 0:=by
 refine List.ext_getElem? fun j=>?_
 by_cases hj:j<l.length
 ·rw [oS l 0 hj,if_neg (by omega)]; simp [hj]
 ·rw [List.getElem?_eq_none (by rw [jR]; omega),List.getElem?_eq_none (by simp; omega)]
theorem aAJ {l:List Nat} {i x:Nat} (hx:l[i]? = some x) (h0:0<x) (h:x<16):(e7 l i).set x (Huff.fst l x+Huff.cnt (l.take i) x+1)=e7 l (i+1):=by
 refine List.ext_getElem? fun j=>?_
 rw [List.getElem?_set]
 by_cases hj:j<16
 ·rw [pN l i hj, pN l (i + 1) hj, dK hx, lI]
  by_cases e:x=j
  ·subst e; rw [if_pos rfl,if_pos (by rw [gT]; exact h),if_pos ⟨h0,rfl⟩] <;> rfl
  ·rw [if_neg e,if_neg (by omega)]
 ·rw [if_neg (by omega),List.getElem?_eq_none (by rw [gT]; omega),List.getElem?_eq_none (by rw [gT]; omega)]
theorem vR {l:List Nat} {i:Nat} (hx:l[i]? = some 0):e7 l (i+1)=e7 l i:=by
 unfold e7
 exact List.map_congr_left fun j _=>by rw [dK hx,lI,if_neg (by omega)]
theorem sL {l:List Nat} {i x:Nat} (hx:l[i]? = some x):l.getD i 0=x:=by rw [List.getD_eq_getElem?_getD,hx] <;> rfl
theorem yM {l:List Nat} {i x:Nat} (hx:l[i]? = some x) (h0:0<x):Huff.codeAt l i=Huff.fst l x+Huff.cnt (l.take i) x:=by
 unfold Huff.codeAt
 rw [sL hx]
 cases x with
 | zero=>omega
 | succ n=>rfl
theorem aA2 {l : List Nat} {i x : Nat} (hx : l[i]? = some x) (h0 : 0 < x) : (mP l i).set i (Huff.fst l x + Huff.cnt (l.take i) x) = mP l (i + 1) := by
 have hi:=aN hx
 refine List.ext_getElem? fun j=>?_
 rw [List.getElem?_set]
 by_cases hj:j<l.length
 ·rw [oS l i hj, oS l (i + 1) hj]
  by_cases e:i=j
  ·subst e; rw [if_pos rfl,if_pos (by rw [jR]; exact hi),if_pos ⟨by omega,by rw [sL hx]; exact h0⟩,yM hx h0]
  ·rw [if_neg e]
   congr 1
   by_cases hji:j<i
   ·by_cases h2 : 0 < l.getD j 0
    ·rw [if_pos ⟨hji,h2⟩,if_pos ⟨by omega,h2⟩]
    ·rw [if_neg (fun h=>h2 h.2),if_neg (fun h=>h2 h.2)]
   ·rw [if_neg (fun h=>hji h.1),if_neg (fun h=>by omega)]
 ·rw [if_neg (by omega),List.getElem?_eq_none (by rw [jR]; omega),List.getElem?_eq_none (by rw [jR]; omega)]
theorem aAG {l:List Nat} {i:Nat} (hx:l[i]? = some 0):mP l (i+1)=mP l i:=by
 unfold mP
 refine List.map_congr_left fun j _=>?_
 by_cases e:j=i
 ·subst e
  rw [if_neg (fun h=>by rw [sL hx] at h; omega),if_neg (fun h=>by omega)]
 ·by_cases hji : j < i
  ·by_cases h2 : 0 < l.getD j 0
   ·rw [if_pos ⟨by omega,h2⟩,if_pos ⟨hji,h2⟩]
   ·rw [if_neg (fun h=>h2 h.2),if_neg (fun h=>h2 h.2)]
  ·rw [if_neg (fun h=>by omega),if_neg (fun h=>hji h.1)]
section
variable [XR] {h:aA} {Q:AV→aA→Prop} {v:AV} {l:List Nat}
theorem zV (hl : l.length ≤ 320) (h15 : ∀ x ∈ l, x ≤ 15) {h0 : aA} {a : Nat} {x5 : AV} (R0 : RdI 1 h0 v (bB l) l.length) (ha : h0.length ≤ a) (hq : ∀ h', Upd (fun _ => False) h0 h' → cM h' (fun i => h0.length ≤ i) x5 (gO l) → Q x5 h') :
  ∀ (m i:Nat) (h:aA),i+m=l.length→Upd (fun _=>False) h0 h→bD h a (bB (e7 l i))→cM h (fun i=>h0.length≤i∧i≠a) x5 (mP l i)→Y13.p1 (aK h0 Q) (.p (some ⟨a,16,0⟩)) x5 v l.length i h:=by
 intro m
 induction m with
 | zero =>
  intro i h hi U Ra O
  obtain rfl:i=l.length:=by omega
  refine Y13.i1 ?_
  simp only [Y13.t1]
  exact aX (by simp) (.inl (hq h U (O.mono fun i _ g=>g.1)))
 | succ m ih =>
  intro i h hi U Ra O
  have hil:i<l.length:=by omega
  obtain ⟨x,hx⟩:∃ x,l[i]? = some x:=⟨l[i],List.getElem?_eq_getElem hil⟩
  have hx15:x≤15:=h15 x (List.mem_of_getElem? hx)
  have R:=R0.ext U
  refine Y13.i1 ?_
  simp only [Y13.t1, ← Y13.p2.eq_1]
  refine bA (by simp; omega) ?_
  refine dT R hx ?_
  have P2:∀ h',Upd (fun _=>False) h0 h'→bD h' a (bB (e7 l (i+1)))→cM h' (fun i=>h0.length≤i∧i≠a) x5 (mP l (i+1))→Y13.p2 (aK h0 Q) (.p (some ⟨a,16,0⟩)) x5 v l.length i h':=fun h' U' R' O'=>by
   refine Y13.i2 ?_
   simp only [Y13.t2, ← Y13.p1.eq_1]
   exact inc (by omega) (ih (i+1) h' (by omega) U' R' O')
  refine aM (fun e=>?_) fun e=>?_
  ·have e : 0 < x := by simp at e; omega
   have tl:16=(bB (e7 l i)).length:=by rw [aW,gT]
   have hn:=pN l i (show x<16 by omega)
   have hb1:=mW hl hx15
   have hb2:=lA (l.take i) x
   have hb3:(l.take i).length≤l.length:=by simp; omega
   have ex:0+(x:Int).toNat * 1=x:=by rw [Int.toNat_natCast]; omega
   refine ⟨by omega,by omega, ?_⟩
   rw [ex]
   refine aE Ra tl (g9 hn) (aD ?_)
   refine cM.store O (by rw [jR]; exact hil) fun h1 l1 U1 O1=>?_
   obtain ⟨idv,bv,hv,_,_,_,_,_,gv⟩:=O
   have Ra1:=Ra.upd U1 fun h=>by rw [hv] at h; exact gv.2 h
   refine ⟨by omega,by omega, ?_⟩
   rw [ex]
   refine aE Ra1 tl (g9 hn) (aD ?_)
   refine aG (n:=((Huff.fst l x+Huff.cnt (l.take i) x+1:Nat):Int)) (by rw [aL (by omega) (by omega)]; omega) ?_
   refine ⟨by omega,by omega, ?_⟩
   rw [ex]
   refine aT Ra1 tl (by rw [← tl]; omega) (hk:=fun h2 l2 U2 R2=>?_)
   have Ub:Upd (fun _=>False) h0 h1:=U.ownP U1 fun j hj=>by
    rw [hv] at hj; cases hj; exact gv.1
   refine P2 h2 (Ub.own U2 ha) ?_ ?_
   ·rw [jB,aAJ hx e (by omega)] at R2; exact R2
   ·rw [aA2 hx e] at O1
    exact O1.upd U2 (fun i g e=>g.2 e) fun i _ g=>g
  ·have e : x = 0 := by simp at e; omega
   subst e
   rw [← vR hx] at Ra
   rw [← aAG hx] at O
   exact P2 h U Ra O
theorem uQ (hl:l.length≤320) (h15:∀ x∈l,x≤15) (hk:Huff.checkP l≠1) (R:RdI 1 h v (bB l) l.length) (hq:∀ h' w,Upd (fun _=>False) h h'→cM h' (fun i=>h.length≤i) w (gO l)→Q w h'):C Y13.id [v] h Q:=by
 refine Y13.call ?_
 simp only [Y13.t, ← Y13.p0.eq_1]
 refine xJ R hl h15 (aD ?_)
 have P0:∀ b,b=false→Y13.p0 (aK h Q) v b h:=fun b hb=>by
  subst hb
  refine Y13.i0 ?_
  simp only [Y13.t0, ← Y13.p1.eq_1]
  refine aX rfl ?_
  refine xU hl h15 R fun h1 U1=>?_
  have hf:((tab (eK l) ((List.range 16).map (Huff.fst l))).drop 16).take 16=bB (e7 l 0):=by
   unfold tab
   rw [List.drop_left' (by rw [aW,b6]),vQ]
   exact List.take_of_length_le (by rw [aW]; simp)
  rw [show ∀ K:AV→Prop,j3 16 16 (AV.ag (tab (eK l) ((List.range 16).map (Huff.fst l)))) K=K (.ag (bB (e7 l 0))) from fun K=>by rw [← hf] <;> rfl]
  refine cB fun h2 l2 U2 R2=>?_
  refine hP R2 rfl (by rw [aW,gT]) (j7 _) fun h3 l3 U3 R3=>?_
  refine R.len ?_
  refine mG (by omega) fun w h4 U4 A4=>?_
  refine R.len ?_
  have U:Upd (fun _=>False) h h4:=((U1.then U2).own U3 U1.1).then U4
  refine zV hl h15 R (a:=h1.length) U1.1 (fun h' U' O'=>hq h' w U' O') l.length 0 h4 (by omega) U ?_ ?_
  ·exact R3.upd U4 fun h=>h
  ·rw [yX]
   exact A4.mono fun i _ g=>⟨by have:=U1.1; omega,by omega⟩
 unfold gI
 rcases hc:Huff.checkP l with _ | _ | n
 ·exact aX rfl (P0 _ rfl)
 ·exact absurd hc hk
 ·exact bA rfl (P0 _ rfl)
end
end Go.Proofs.YtpaphfeihpgamaaDoor
namespace Go.Proofs.YtpaphfeihpgamaaDoor
open Go.GAM
def lsF (n k:Nat):Nat:=((List.range k).map (· + 257)).foldl (fun o s=>if (Infl.least s).1≤n then s else o) 257
theorem uK (n k:Nat):lsF n (k+1)=if (Infl.least (k+257)).1≤n then k+257 else lsF n k:=by
 unfold lsF
 rw [List.range_succ,List.map_append,List.foldl_append]
 first | done | rfl
def fsF (n k:Nat):Nat:=(List.range k).foldl (fun o s=>if (Infl.farOf s).1≤n then s else o) 0
theorem uO (n k:Nat):fsF n (k+1)=if (Infl.farOf k).1≤n then k else fsF n k:=by
 unfold fsF
 rw [List.range_succ,List.foldl_append]
 first | done | rfl
section
variable [XR] {h:aA} {Q:AV→aA→Prop}
theorem aC6 (n:Nat) (hq:Q (iN (lsF n 28)) h):∀ (m k:Nat),k+m=28→Y18.p0 Q n (lsF n k) ((k+257:Nat):Int) h:=by
 intro m
 induction m with
 | zero =>
  intro k hk
  obtain rfl:k=28:=by omega
  refine Y18.i0 ?_
  simp only [Y18.t0]
  exact aX (by decide) hq
 | succ m ih =>
  intro k hk
  refine Y18.i0 ?_
  simp only [Y18.t0, ← Y18.p1.eq_1]
  refine bA (decide_eq_true (by omega)) ?_
  refine pP (x:=k+257) (by omega) (by omega) ?_
  simp only [d7,dW]
  refine aD (aD ?_)
  have nxt:∀ o:Nat,o=lsF n (k+1)→Y18.p1 Q n o ((k+257:Nat):Int) h:=fun o ho=>by
   subst ho
   refine Y18.i1 ?_
   simp only [Y18.t1, ← Y18.p0.eq_1]
   refine aG (n:=((k+1+257:Nat):Int)) (by rw [aL (by omega) (by omega)]; omega) (ih (k+1) (by omega))
  refine aM (fun e=>?_) fun e=>?_
  ·exact nxt _ (by rw [uK,if_pos (by simp at e; omega)])
  ·exact nxt _ (by rw [uK,if_neg (by simp at e; omega)])
theorem aE1 {n:Nat} (hq:Q (iN (Infl.lenSym n)) h):C Y18.id [iN n] h Q:=by
 refine Y18.call ?_
 simp only [Y18.t, ← Y18.p0.eq_1]
 refine aM (fun e=>?_) fun e=>?_
 ·refine .inl ?_
  have:Infl.lenSym n=285:=by unfold Infl.lenSym; rw [if_pos (by simp at e; omega)]
  rw [this] at hq; exact hq
 ·have : Infl.lenSym n = lsF n 28 := by unfold Infl.lenSym; rw [if_neg (by simp at e; omega)] <;> rfl
  rw [this] at hq
  exact aC6 n (.inl hq) 28 0 (by omega)
theorem aC2 (n:Nat) (hq:Q (iN (fsF n 30)) h):∀ (m k:Nat),k+m=30→Y19.p0 Q n (fsF n k) (k:Int) h:=by
 intro m
 induction m with
 | zero =>
  intro k hk
  obtain rfl:k=30:=by omega
  refine Y19.i0 ?_
  simp only [Y19.t0]
  exact aX (by decide) hq
 | succ m ih =>
  intro k hk
  refine Y19.i0 ?_
  simp only [Y19.t0, ← Y19.p1.eq_1]
  refine bA (decide_eq_true (by omega)) ?_
  refine lC (x:=k) (by omega) ?_
  simp only [d7,dW]
  refine aD (aD ?_)
  have nxt:∀ o:Nat,o=fsF n (k+1)→Y19.p1 Q n o (k:Int) h:=fun o ho=>by
   subst ho
   refine Y19.i1 ?_
   simp only [Y19.t1, ← Y19.p0.eq_1]
   exact inc (by omega) (ih (k+1) (by omega))
  refine aM (fun e=>?_) fun e=>?_
  ·exact nxt _ (by rw [uO,if_pos (by simp at e; omega)])
  ·exact nxt _ (by rw [uO,if_neg (by simp at e; omega)])
theorem aE2 {n:Nat} (hq:Q (iN (Infl.farSym n)) h):C Y19.id [iN n] h Q:=by
 refine Y19.call ?_
 simp only [Y19.t, ← Y19.p0.eq_1]
 exact aC2 n (.inl hq) 30 0 (by omega)
end
structure Row where
 c:UInt8
 n:Nat
 d:Nat
def Row.cells (r:Row):List AV:=[byteAV r.c,iN r.n,iN r.d]
def Row.item (r:Row):Infl.Item:=if r.n=0 then .byte r.c else .copy r.n r.d
def jK (l:List Row):List AV:=l.flatMap Row.cells
theorem uJ:∀ (l:List Row) (i:Nat) (r:Row),l[i]? = some r→((jK l).drop (i * 3)).take 3=r.cells
 | x :: l,0,r,h=>by cases h; rfl
 | x :: l, i + 1, r, h => by
  have h:l[i]? = some r:=h
  show ((x.cells++jK l).drop ((i+1) * 3)).take 3=_
  rw [show (i+1) * 3=x.cells.length+i * 3 by show _=3+i * 3; omega,List.drop_append,List.drop_eq_nil_of_le (by omega),Nat.add_sub_cancel_left,List.nil_append]
  exact uJ l i r h
def Row.ok (r:Row):Prop:=r.n=0∨3≤r.n∧r.n≤258∧1≤r.d∧r.d≤32768
section
variable [XR] {h:aA} {Q:AV→aA→Prop} {G:Nat→Prop} {w:Nat}
theorem Rd.triple {h:aA} {v:AV} {l:List Row} {k:IntKind} {i:Nat} {r:Row} (R:Rd 3 h v (jK l) l.length) (hr:l[i]? = some r) {K:AV→Prop} (hk:K (.ag r.cells)):aP 3 v (.i k (i:Int)) h fun a=>dZ 3 a h K:=by
 have hi:=aN hr
 obtain ⟨p,P,hp⟩:=R.i.at hi
 rw [uJ l i r hr] at P
 exact hp k h _ (Upd.refl _ _) (P.loadN hk)
theorem oP {l:List Nat} {m:Nat} (h:∀ x∈l,x≤m) (j:Nat):l.getD j 0≤m:=by
 rw [List.getD_eq_getElem?_getD]
 cases hj:l[j]? with
 | none=>exact Nat.zero_le _
 | some x=>exact h x (List.mem_of_getElem? hj)
theorem rR {l:List Nat} (h1:l.length≤320) (h2:∀ x∈l,x≤15) (j:Nat):Huff.codeAt l j<2 ^ 62:=by
 unfold Huff.codeAt
 have e2:=mW h1 (oP h2 j)
 have e3:(l.take j).countP (· == l.getD j 0)≤(l.take j).length:=List.countP_le_length
 have e4:(l.take j).length≤l.length:=by simp; omega
 omega
theorem yA {a bs':List Nat} {va ca:AV} {s:Nat} (ha:a.length≤320) (ha15:∀ x∈a,x≤15) (hs:s<a.length) (h0:0<a.getD s 0) (gca:∀ i,aS ca i→¬ G i) (hG:∀ i,h.length≤i→G i) (Ra:RdI 1 h va (bB a) a.length) (Rc:RdI 1 h ca (bB (gO a)) (gO a).length) (W:Wr h G w bs') (hb:bs'.length+64<2 ^ 40 - 1)
  (hq:∀ h',Upd G h h'→Wr h' G w (bs'++Huff.codeBits a s)→Q (.tu []) h'):C Y26.id [wp w,ca,va,iN s] h Q:=by
 have h3:a[s]? = some (a.getD s 0):=by rw [List.getD_eq_getElem?_getD,List.getElem?_eq_getElem hs] <;> rfl
 have h4:=oP ha15 s
 exact aFD (zC hs h0) h3 (rR ha ha15 s) (by omega) gca (by omega) hG Rc Ra W hq
theorem cN {a:List Nat} (h:∀ x∈a,x≤15) (s:Nat):(Huff.codeBits a s).length≤15:=by
 unfold Huff.codeBits
 rw [Infl.hi_length]
 exact oP h s
theorem yC {a b:List Nat} (ha:∀ x∈a,x≤15) (hb:∀ x∈b,x≤15) {r:Row} (hr:r.ok):(Infl.encItem a b r.item).length≤64:=by
 unfold Row.item
 by_cases h0:r.n=0
 ·rw [if_pos h0]
  exact Nat.le_trans (cN ha _) (by decide)
 ·rw [if_neg h0]
  obtain ⟨r1,r2,r3,r4⟩:=hr.resolve_left h0
  obtain ⟨s1,s2,_⟩:=Infl.lenSym_ok r.n r1 r2
  obtain ⟨f1,_⟩:=Infl.farSym_ok r3 r4
  have q1:=(qO _ (by omega) s1).2
  have q2:=(vI _ f1).2.2
  unfold Infl.encItem
  simp only [List.length_append,Infl.lo_length]
  have c1:=cN ha (Infl.lenSym r.n)
  have c2:=cN hb (Infl.farSym r.d)
  omega
theorem Wr.cut {h h':aA} {bs:List Nat} (W:Wr h G w bs) (U:Upd (fun _=>False) h h') {G':Nat→Prop} (hG:∀ i,i<h.length→G i→G' i):Wr h' G' w bs:=by
 obtain ⟨v,R,B,g,gw,hx⟩:=W
 exact ⟨v,R.upd U fun h=>h,B.upd U fun _ _ h=>h,fun i hi=>⟨hG i (B.lt hi) (g i hi).1,(g i hi).2⟩,hG w R.lt gw,hx⟩
theorem Wr.wide {h:aA} {bs:List Nat} {G':Nat→Prop} (W:Wr h G w bs) (hG:∀ i,G i→G' i):Wr h G' w bs:=by
 obtain ⟨v,R,B,g,gw,hx⟩:=W
 exact ⟨v,R,B,fun i hi=>⟨hG i (g i hi).1,(g i hi).2⟩,hG w gw,hx⟩
theorem yT {a b : List Nat} {va vb ca cb x1 : AV} {l : List Row} {bs : List Nat}
  (ha:a.length≤320) (hb:b.length≤320) (ha2:286≤a.length) (hb2:30≤b.length) (ha0:∀ j,j<286→0<a.getD j 0) (hb0:∀ j,j<30→0<b.getD j 0) (ha15:∀ x∈a,x≤15) (hb15:∀ x∈b,x≤15)
  (hl:∀ r∈l,r.ok) (hlen:bs.length+l.length * 64+64<2 ^ 39)
  (ga:∀ i,aS va i→¬ G i) (gb:∀ i,aS vb i→¬ G i) (gca:∀ i,aS ca i→¬ G i) (gcb:∀ i,aS cb i→¬ G i) (g1:∀ i,aS x1 i→¬ G i)
  (hq:∀ h',Upd G h h'→Wr h' G w (bs++(Infl.encItems a b (l.map Row.item)++Huff.codeBits a 256))→Q (.tu []) h') :
  ∀ (m i : Nat) (h1 : aA), i + m = l.length → Upd G h h1 → (∀ i, h1.length ≤ i → G i) → RdI 1 h1 va (bB a) a.length → RdI 1 h1 vb (bB b) b.length → RdI 1 h1 ca (bB (gO a)) (gO a).length → RdI 1 h1 cb (bB (gO b)) (gO b).length → Rd 3 h1 x1 (jK l) l.length →
   Wr h1 G w (bs++Infl.encItems a b ((l.take i).map Row.item))→(bs++Infl.encItems a b ((l.take i).map Row.item)).length≤bs.length+i * 64→Y16.p0 Q (wp w) va vb ca cb x1 l.length i h1:=by
 intro m
 induction m with
 | zero =>
  intro i h1 hi U hG Ra Rb Rca Rcb R1 W hL
  obtain rfl:i=l.length:=by omega
  refine Y16.i0 ?_
  simp only [Y16.t0]
  refine aX (by simp) ?_
  refine yA (s:=256) ha ha15 (by omega) (ha0 256 (by decide)) gca hG Ra Rca W (by omega) fun h2 U2 W2=>hq h2 (U.trans U2 fun _ _ h=>h) ?_
  rw [List.take_length,List.append_assoc] at W2
  exact W2
 | succ m ih =>
  intro i h1 hi U hG Ra Rb Rca Rcb R1 W hL
  have hil:i<l.length:=by omega
  obtain ⟨r,hr⟩:∃ r,l[i]? = some r:=⟨l[i],List.getElem?_eq_getElem hil⟩
  have hok:=hl r (List.mem_of_getElem? hr)
  have hsn:Infl.encItems a b ((l.take (i+1)).map Row.item)=Infl.encItems a b ((l.take i).map Row.item)++Infl.encItem a b r.item:=by
   rw [yI hr,List.map_append]
   unfold Infl.encItems
   rw [List.flatMap_append]
   simp
  have hel:=yC ha15 hb15 hok
  generalize hB:bs++Infl.encItems a b ((l.take i).map Row.item)=B at W hL
  have hL2:B.length+128<2 ^ 39+64:=by omega
  let G':Nat→Prop:=fun i=>G i∧i≠h1.length
  have nxt:∀ h',Upd (fun i=>G i) h1 h'→Wr h' G w (B++Infl.encItem a b r.item)→Y16.p1 Q (wp w) va vb ca cb x1 l.length i h':=fun h' U' W'=>by
   refine Y16.i1 ?_
   simp only [Y16.t1, ← Y16.p0.eq_1]
   have hE:bs++Infl.encItems a b ((l.take (i+1)).map Row.item)=B++Infl.encItem a b r.item:=by rw [hsn, ← List.append_assoc,hB]
   refine inc (by omega) (ih (i+1) h' (by omega) (U.trans U' fun _ _ h=>h) (fun j hj=>hG j (Nat.le_trans U'.1 hj)) (Ra.upd U' ga) (Rb.upd U' gb) (Rca.upd U' gca) (Rcb.upd U' gcb) (R1.upd U' g1) ?_ ?_)
   ·rw [hE]; exact W'
   ·rw [hE,List.length_append]; omega
  refine Y16.i0 ?_
  simp only [Y16.t0, ← Y16.p1.eq_1]
  refine bA (by simp; omega) ?_
  refine Rd.triple R1 hr ?_
  refine cB fun h2 l2 U2 R2=>?_
  refine hP R2 rfl rfl rfl fun h3 l3 U3 R3=>?_
  have R3:bD h3 h1.length r.cells:=R3
  have U13:Upd (fun _=>False) h1 h3:=U2.own U3 (Nat.le_refl _)
  have hG3:∀ i,h3.length≤i→G' i:=fun j hj=>⟨hG j (by omega),by omega⟩
  have W3:Wr h3 G' w B:=W.cut U13 fun j hj g=>⟨g,by omega⟩
  have gca':∀ i,aS ca i→¬ G' i:=fun i hi g=>gca i hi g.1
  have gcb':∀ i,aS cb i→¬ G' i:=fun i hi g=>gcb i hi g.1
  have ga':∀ i,aS va i→¬ G' i:=fun i hi g=>ga i hi g.1
  have gb':∀ i,aS vb i→¬ G' i:=fun i hi g=>gb i hi g.1
  have fin:∀ h',Upd G' h3 h'→Wr h' G' w (B++Infl.encItem a b r.item)→Y16.p1 Q (wp w) va vb ca cb x1 l.length i h':=fun h' U' W'=>
   nxt h' ((U13.mono fun _ _ h=>h.elim).trans (U'.mono fun _ _ h=>h.1) fun _ _ h=>h) (W'.wide fun _ h=>h.1)
  refine cY (aE R3 rfl rfl (aD ?_))
  by_cases h0:r.n=0
  ·refine bA (by simp [h0]) ?_
   refine cY (aE R3 rfl rfl (iQ ?_))
   have hc:=r.c.toNat_lt
   rw [show AV.i .i64 (IntKind.wrap .i64 (r.c.toNat:Int))=iN r.c.toNat by rw [aL (by omega) (by omega)]]
   refine yA (s:=r.c.toNat) ha ha15 (by omega) (ha0 _ (by omega)) gca' hG3 (Ra.ext U13) (Rca.ext U13) W3 (by omega) fun h4 U4 W4=>fin h4 U4 ?_
   have:Infl.encItem a b r.item=Huff.codeBits a r.c.toNat:=by unfold Row.item; rw [if_pos h0] <;> rfl
   rw [this]; exact W4
  ·refine aX (by simp [h0]) ?_
   obtain ⟨r1,r2,r3,r4⟩:=hok.resolve_left h0
   obtain ⟨s1,s2,s3,s4⟩:=Infl.lenSym_ok r.n r1 r2
   obtain ⟨f1,f2,f3⟩:=Infl.farSym_ok r3 r4
   have q1:=(qO _ (by omega) s1).2
   have q2:=(vI _ f1).2.2
   have c1:=cN ha15 (Infl.lenSym r.n)
   have c2:=cN hb15 (Infl.farSym r.d)
   have hE:Infl.encItem a b r.item=Huff.codeBits a (Infl.lenSym r.n)++(Huff.loBits (r.n - (Infl.least (Infl.lenSym r.n)).1) (Infl.least (Infl.lenSym r.n)).2++(Huff.codeBits b (Infl.farSym r.d)++Huff.loBits (r.d - (Infl.farOf (Infl.farSym r.d)).1) (Infl.farOf (Infl.farSym r.d)).2)):=by
    unfold Row.item; rw [if_neg h0] <;> rfl
   rw [hE] at fin
   refine cY (aE R3 rfl rfl (aD ?_))
   refine aE1 (aD (pP s1 s2 ?_))
   simp only [d7,dW]
   refine aD (aD ?_)
   refine yA (s:=Infl.lenSym r.n) ha ha15 (by omega) (ha0 _ (by omega)) gca' hG3 (Ra.ext U13) (Rca.ext U13) W3 (by omega) fun h4 U4 W4=>?_
   have R4:=R3.upd U4 fun g=>g.2 rfl
   have hG4:∀ i,h4.length≤i→G' i:=fun j hj=>hG3 j (Nat.le_trans U4.1 hj)
   refine cY (aE R4 rfl rfl (aD ?_))
   refine aG (n:=((r.n - (Infl.least (Infl.lenSym r.n)).1:Nat):Int)) (by rw [aL (by omega) (by omega)]; omega) ?_
   refine kA (by omega) (by omega) (by rw [List.length_append]; omega) hG4 W4 fun h5 U5 W5=>?_
   have R5:=R4.upd U5 fun g=>g.2 rfl
   have hG5:∀ i,h5.length≤i→G' i:=fun j hj=>hG4 j (Nat.le_trans U5.1 hj)
   have U35:=U4.trans U5 fun _ _ h=>h
   refine cY (aE R5 rfl rfl (aD ?_))
   refine aE2 (aD (lC (by omega) ?_))
   simp only [d7,dW]
   refine aD (aD ?_)
   refine yA (s:=Infl.farSym r.d) hb hb15 (by omega) (hb0 _ f1) gcb' hG5 ((Rb.ext U13).upd U35 gb') ((Rcb.ext U13).upd U35 gcb') W5 (by simp only [List.length_append,Infl.lo_length]; omega) fun h6 U6 W6=>?_
   have R6:=R5.upd U6 fun g=>g.2 rfl
   have hG6:∀ i,h6.length≤i→G' i:=fun j hj=>hG5 j (Nat.le_trans U6.1 hj)
   refine cY (aE R6 rfl rfl (aD ?_))
   refine aG (n:=((r.d - (Infl.farOf (Infl.farSym r.d)).1:Nat):Int)) (by rw [aL (by omega) (by omega)]; omega) ?_
   refine kA (by omega) (by omega) (by simp only [List.length_append,Infl.lo_length]; omega) hG6 W6 fun h7 U7 W7=>?_
   refine fin h7 ((U35.trans U6 fun _ _ h=>h).trans U7 fun _ _ h=>h) ?_
   simp only [List.append_assoc] at W7
   exact W7
theorem RdI.ltp {sz:Nat} {h:aA} {v:AV} {cs:List AV} {len:Nat} (R:RdI sz h v cs len) (hl:0<len) {i:Nat} (hi:aS v i):i<h.length:=by
 rcases R with ⟨rfl,rfl,rfl⟩ | ⟨rfl,_⟩ | ⟨id,ver,off,cap,b,rfl,h2,_⟩
 ·omega
 ·omega
 ·cases hi; exact aN h2
theorem aAY {a b:List Nat} {va vb x1:AV} {l:List Row} {bs:List Nat}
  (ha:a.length≤320) (hb:b.length≤320) (ha2:286≤a.length) (hb2:30≤b.length) (ha0:∀ j,j<286→0<a.getD j 0) (hb0:∀ j,j<30→0<b.getD j 0) (ha15:∀ x∈a,x≤15) (hb15:∀ x∈b,x≤15) (hka:Huff.checkP a≠1) (hkb:Huff.checkP b≠1)
  (hl:∀ r∈l,r.ok) (hlen:bs.length+l.length * 64+64<2 ^ 39) (hG:∀ i,h.length≤i→G i)
  (ga:∀ i,aS va i→¬ G i) (gb:∀ i,aS vb i→¬ G i) (g1:∀ i,aS x1 i→¬ G i) (Ra:RdI 1 h va (bB a) a.length) (Rb:RdI 1 h vb (bB b) b.length) (R1:Rd 3 h x1 (jK l) l.length) (W:Wr h G w bs)
  (hq:∀ h',Upd G h h'→Wr h' G w (bs++(Infl.encItems a b (l.map Row.item)++Huff.codeBits a 256))→Q (.tu []) h'):C Y16.id [wp w,x1,va,vb] h Q:=by
 refine Y16.call ?_
 simp only [Y16.t, ← Y16.p0.eq_1]
 refine uQ ha ha15 hka Ra fun h1 ca U1 O1=>?_
 refine uQ hb hb15 hkb (Rb.ext U1) fun h2 cb U2 O2=>?_
 have U:=U1.then U2
 refine (R1.upd U fun _ _ h=>h).len ?_
 have lt1:∀ i,aS ca i→h.length≤i∧i<h2.length:=fun i hi=>by
  obtain ⟨id,b,rfl,k1,_,_,_,_,g⟩:=O1
  cases hi
  have:=aN k1
  have:=U2.1
  have g:h.length≤id:=g
  exact ⟨g,by show id<_; omega⟩
 have lt2:∀ i,aS cb i→h.length≤i∧i<h2.length:=fun i hi=>by
  obtain ⟨id,b,rfl,k1,_,_,_,_,g⟩:=O2
  cases hi
  have k2:=aN k1
  have:=U1.1
  have g:h1.length≤id:=g
  exact ⟨by show _≤id; omega,k2⟩
 let G2:Nat→Prop:=fun i=>(G i∧i<h.length)∨h2.length≤i
 have c2:∀ {x:AV},(∀ i,aS x i→¬ G i)→(∀ i,aS x i→i<h.length)→∀ i,aS x i→¬ G2 i:=fun hx hlt i hi g=>by
  rcases g with g | g
  ·exact hx i hi g.1
  ·have := hlt i hi
   have:=U.1
   omega
 have c3:∀ {x:AV},(∀ i,aS x i→h.length≤i∧i<h2.length)→∀ i,aS x i→¬ G2 i:=fun hx i hi g=>by
  have:=hx i hi
  rcases g with g | g <;> omega
 have w2:∀ i,G2 i→G i:=fun i g=>by
  rcases g with g | g
  ·exact g.1
  ·exact hG i (Nat.le_trans U.1 g)
 refine yT (G:=G2) (h:=h2) ha hb ha2 hb2 ha0 hb0 ha15 hb15 hl hlen (c2 ga fun i hi=>RdI.ltp Ra (by omega) hi) (c2 gb fun i hi=>RdI.ltp Rb (by omega) hi) (c3 lt1) (c3 lt2) (c2 g1 fun i hi=>R1.lt hi) (fun h' U' W'=>.inl (hq h' ((U.mono fun _ _ h=>h.elim).trans (U'.mono fun i _ g=>w2 i g) fun _ _ h=>h) (W'.wide w2)))
  l.length 0 h2 (by omega) (Upd.refl _ _) (fun i hi=>.inr hi) (Ra.ext U) (Rb.ext U) (O1.rd.i.ext U2) O2.rd.i (R1.upd U fun _ _ h=>h) ?_ ?_
 ·have := W.cut U (G' := G2) fun i hi g => .inl ⟨g, hi⟩
  simpa [Infl.encItems] using this
 ·simp [Infl.encItems]
end
end Go.Proofs.YtpaphfeihpgamaaDoor
namespace Go.Proofs.YtpaphfeihpgamaaDoor
open Go.GAM
def b8 (s:List UInt8) (i:Nat):List UInt8:=(s.take (i+3)).drop i
def occ (s:List UInt8):Nat→List UInt8→List Nat
 | 0,_=>[]
 | i+1,g=>occ s i g++(if i+3≤s.length∧b8 s i=g then [i] else [])
theorem wE (s:List UInt8) (g:List UInt8):∀ i,(occ s i g).length≤i
 | 0=>Nat.le_refl _
 | i + 1 => by
  have:=wE s g i
  unfold occ
  split <;> simp <;> omega
theorem rX (s : List UInt8) (g : List UInt8) : ∀ i, ∀ x ∈ occ s i g, x < i ∧ x + 3 ≤ s.length ∧ b8 s x = g
 | 0,x,h=>by cases h
 | i + 1, x, h => by
  unfold occ at h
  rcases List.mem_append.1 h with h | h
  ·obtain ⟨h1, h2⟩ := rX s g i x h
   exact ⟨by omega,h2⟩
  ·split at h
   ·rename_i hc
    rw [List.mem_singleton.1 h]
    exact ⟨by omega,hc⟩
   ·cases h
abbrev nilS:AV:=.sl none 0 none
def jL (kv:List (List UInt8 × AV)) (g:List UInt8):AV:=(lkM kv g).getD nilS
theorem sV:vB prog 9 (fun l:List UInt8=>AV.s l):=yO Tryd.underlying9
structure zL (h:aA) (F:Nat→Prop) (s:List UInt8) (i mb:Nat) (kv:List (List UInt8 × AV)):Prop where
 map:jG (fun l:List UInt8=>AV.s l) h mb kv
 vals:∀ g,Stk h (jL kv g) (bB (occ s i g))
 own:∀ g j,aS (jL kv g) j→F j∧j≠mb
 dis:∀ g g' j,aS (jL kv g) j→aS (jL kv g') j→g=g'
theorem zL.upd {h h':aA} {F N:Nat→Prop} {s:List UInt8} {i mb:Nat} {kv:List (List UInt8 × AV)} (S:zL h F s i mb kv) (U:Upd N h h') (hN:∀ j,F j∨j=mb→¬ N j):zL h' F s i mb kv:=
 ⟨S.map.upd U (hN mb (.inr rfl)),fun g=>(S.vals g).upd U fun j hj=>hN j (.inl (S.own g j hj).1),S.own,S.dis⟩
section
variable [XR] {h:aA} {Q:AV→aA→Prop} {F:Nat→Prop} {s:List UInt8} {i sb bm mb:Nat} {kv:List (List UInt8 × AV)}
theorem aFK (hs : s.length < 2 ^ 40) (hi : i < s.length) (Rs : bD h sb [.s s]) (Rm : bD h bm [.mp (some mb)]) (S : zL h F s i mb kv) (hF : ∀ j, h.length ≤ j → F j) (ns : ¬ F sb) (nm : ¬ F bm) (nsm : sb ≠ mb) (nbm : bm ≠ mb)
  (hq:∀ h' kv',Upd (fun j=>F j∨j=mb) h h'→zL h' F s (i+1) mb kv'→Q (.tu []) h'):C Y38.id [iN i,.p (some ⟨sb,1,0⟩),.p (some ⟨bm,1,0⟩)] h Q:=by
 refine Y38.call ?_
 unfold Y38.t
 refine aG (n:=((i+3:Nat):Int)) (by rw [aL (by omega) (by omega)]; omega) ?_
 refine aE Rs rfl rfl (b7 ?_)
 refine aM (fun e=>?_) fun e=>?_
 ·have e : i + 3 ≤ s.length := by have := of_decide_eq_true e; omega
  refine aE Rm rfl rfl ?_
  refine aE Rs rfl rfl (b7 ?_)
  refine aG (n:=((i+3:Nat):Int)) (by rw [aL (by omega) (by omega)]; omega) ?_
  refine qN (lo:=i) (hi:=i+3) (by omega) e ?_
  refine aE Rm rfl rfl ?_
  refine aE Rs rfl rfl (b7 ?_)
  refine aG (n:=((i+3:Nat):Int)) (by rw [aL (by omega) (by omega)]; omega) ?_
  refine qN (lo:=i) (hi:=i+3) (by omega) e ?_
  refine nD (κ:=fun l:List UInt8=>AV.s l) S.map sV (by kernel_rfl) (z:=nilS) (by kernel_rfl) ?_
  refine dG (cs:=[iN i]) rfl rfl fun y h1 l1 U1 R1 F1=>?_
  have S1:=S.upd U1 fun _ _ h=>h
  have Rs1:=Rs.upd U1 fun h=>h
  have Rm1:=Rm.upd U1 fun h=>h
  refine nD (κ:=fun l:List UInt8=>AV.s l) S1.map sV (by kernel_rfl) (z:=nilS) (by kernel_rfl) ?_
  refine ⟨rfl, ?_⟩
  refine aE Rs1 rfl rfl (b7 ⟨rfl, ?_⟩)
  refine aE Rm1 rfl rfl ⟨rfl, ?_⟩
  refine aE Rs1 rfl rfl (b7 ⟨rfl, ?_⟩)
  refine aE Rm1 rfl rfl ⟨rfl, ?_⟩
  have ol:=wE s (b8 s i) i
  refine (S1.vals (b8 s i)).app1 R1 rfl (by rw [aW]; omega) (by rw [aW]; omega) fun v' h2 U2 S2 g2=>?_
  have nF:∀ {x:Nat}, ¬ F x→¬ aS (jL kv (b8 s i)) x:=fun hx h=>hx (S.own _ _ h).1
  have Rs2:=Rs1.upd U2 (nF ns)
  have Rm2:=Rm1.upd U2 (nF nm)
  refine aE Rs2 rfl rfl (b7 ⟨rfl, ?_⟩)
  refine aE Rm2 rfl rfl ⟨rfl, ?_⟩
  have M2:=S1.map.upd U2 fun h=>(S.own _ _ h).2 rfl
  refine y2 (κ:=fun l:List UInt8=>AV.s l) M2 sV (by kernel_rfl) rfl fun h3 l3 U3 M3=>?_
  have lo:∀ j,aS v' j→F j∧j≠mb:=fun j hj=>by
   rcases g2 j hj with h | h
   ·exact S.own _ _ h
   ·have := S.map.lt
    exact ⟨hF j (by omega),by omega⟩
  have vup:∀ g,jL (upM kv (b8 s i) v') g=if g=b8 s i then v' else jL kv g:=fun g=>by
   unfold jL
   rw [aB9]
   split <;> rfl
  refine .inl (hq h3 (upM kv (b8 s i) v') ?_ ⟨M3,fun g=>?_,fun g j hj=>?_,fun g g' j hj hj'=>?_⟩)
  ·refine ((U1.mono fun _ _ h=>h.elim).trans (U2.mono fun j _ h=>Or.inl (S.own _ _ h).1) fun _ _ h=>h).trans (U3.mono fun j _ h=>Or.inr h) fun _ _ h=>h
  ·rw [vup]
   by_cases hg:g=b8 s i
   ·rw [if_pos hg]
    have:occ s (i+1) g=occ s i (b8 s i)++[i]:=by
     rw [occ,if_pos ⟨e,hg.symm⟩,hg]
    rw [this,eT]
    exact S2.upd U3 fun j hj h=>(lo j hj).2 h
   ·rw [if_neg hg]
    have:occ s (i+1) g=occ s i g:=by
     rw [occ,if_neg (fun h=>hg h.2.symm),List.append_nil]
    rw [this]
    exact ((S1.vals g).upd U2 fun j hj h=>hg (S.dis _ _ j hj h)).upd U3 fun j hj h=>(S.own g j hj).2 h
  ·rw [vup] at hj
   by_cases hg:g=b8 s i
   ·rw [if_pos hg] at hj; exact lo j hj
   ·rw [if_neg hg] at hj; exact S.own g j hj
  ·rw [vup] at hj hj'
   have far:∀ g j,g≠b8 s i→aS (jL kv g) j→¬ aS v' j:=fun g j hg hj hv=>by
    rcases g2 j hv with h | h
    ·exact hg (S.dis _ _ j hj h)
    ·have := Rd.lt (S.vals g).rd hj
     omega
   by_cases hg:g=b8 s i <;> by_cases hg':g'=b8 s i
   ·rw [hg,hg']
   ·rw [if_pos hg] at hj; rw [if_neg hg'] at hj'; exact absurd hj (far g' j hg' hj')
   ·rw [if_neg hg] at hj; rw [if_pos hg'] at hj'; exact absurd hj' (far g j hg hj)
   ·rw [if_neg hg] at hj; rw [if_neg hg'] at hj'; exact S.dis g g' j hj hj'
 ·have e : ¬ i + 3 ≤ s.length := by have := of_decide_eq_false e; omega
  refine .inl (hq h kv (Upd.refl _ _) ⟨S.map,fun g=>?_,S.own,S.dis⟩)
  rw [occ,if_neg (fun h=>e h.1),List.append_nil]
  exact S.vals g
end
end Go.Proofs.YtpaphfeihpgamaaDoor
namespace Go.Infl
open Go.Huff
def matchP (s:List UInt8) (at':Nat):Nat × Nat:=if (matchR s at').1<3 then (0,0) else matchR s at'
theorem matchR_ok {s:List UInt8} {at':Nat} (h:at'≤s.length) (h0:(matchR s at').1≠0):(matchR s at').1≤258∧at'+(matchR s at').1≤s.length∧1≤(matchR s at').2∧(matchR s at').2≤at'∧(matchR s at').2≤32768:=by
 obtain ⟨g1,_,_⟩:=iW s at' (min at' 32768)
 have hm:matchR s at'=matchTo s at' (min at' 32768):=rfl
 rw [hm] at h0 ⊢
 obtain ⟨a,b,e⟩:=g1.resolve_left h0
 obtain ⟨q1,q2,q3⟩:=lcp_ok (matchTo s at' (min at' 32768)).2 h
 rw [← e] at q1 q2 q3
 exact ⟨q1,q2,a,by omega,by omega⟩
theorem matchP_ok {s:List UInt8} {at':Nat} (h:at'≤s.length):(matchP s at')=(0,0)∨3≤(matchP s at').1∧(matchP s at').1≤258∧at'+(matchP s at').1≤s.length∧1≤(matchP s at').2∧(matchP s at').2≤32768:=by
 unfold matchP
 split
 ·exact .inl rfl
 ·rename_i h3
  obtain ⟨q1,q2,q3,q4,q5⟩:=matchR_ok h (by omega)
  exact .inr ⟨by omega,q1,q2,q3,q5⟩
theorem matchP_end {s:List UInt8} {at':Nat} (h:at'≤s.length) (h3:s.length<at'+3):matchP s at'=(0,0):=by
 rcases matchP_ok h with e | e
 ·exact e
 ·omega
theorem itemsR_none {s:List UInt8}:∀ (f at':Nat),s.length≤at'→itemsR s f at'=[]
 | 0,at',h=>rfl
 | f + 1, at', h => by
  unfold itemsR
  rw [List.getElem?_eq_none h]
theorem itemsR_step {s:List UInt8} {f at':Nat} {c:UInt8} (hc:s[at']? = some c):itemsR s (f+1) at'=(if (matchP s at').1=0 then Item.byte c else Item.copy (matchP s at').1 (matchP s at').2) :: itemsR s f (at'+max (matchP s at').1 1):=by
 have hlt:at'<s.length:=(List.getElem?_eq_some_iff.1 hc).1
 rw [itemsR,hc]
 unfold matchP
 simp only []
 by_cases h3:(matchR s at').1<3
 ·rw [if_pos h3, if_pos h3]
  first | done | rfl
 ·rw [if_neg h3,if_neg h3,if_neg (by omega),Nat.max_eq_left (by omega)]
end Go.Infl
namespace Go.Proofs.YtpaphfeihpgamaaDoor
open Go.GAM
def qL (s:List UInt8) (i:Nat) (c:UInt8):Row:=⟨c,(Infl.matchP s i).1,(Infl.matchP s i).2⟩
theorem zP {s:List UInt8} {f i:Nat} {c:UInt8} (hc:s[i]? = some c):Infl.itemsR s (f+1) i=(qL s i c).item :: Infl.itemsR s f (i+max (qL s i c).n 1):=Infl.itemsR_step hc
theorem aC7 {s:List UInt8} {i:Nat} {c:UInt8} (h:i<s.length):(qL s i c).ok∧i+max (qL s i c).n 1≤s.length:=by
 rcases Infl.matchP_ok (s:=s) (at':=i) (by omega) with e | ⟨e1,e2,e3,e4,e5⟩
 ·unfold qL Row.ok
  rw [e]
  exact ⟨.inl rfl,by simp only; omega⟩
 ·exact ⟨.inr ⟨e1,e2,e4,e5⟩,by show i+max (Infl.matchP s i).1 1≤_; omega⟩
def oJ [XR] (s:List UInt8):Prop:=∀ (h:aA) (Q:AV→aA→Prop) (i:Nat) (v:AV),i+3≤s.length→Stk h v (bB (occ s i (b8 s i)))→Q (.tu [iN (Infl.matchP s i).1,iN (Infl.matchP s i).2]) h→C Y40.id [.s s,iN i,v] h Q
section
variable [XR] {Q:AV→aA→Prop} {s:List UInt8} {sb bm mb:Nat} {h0:aA}
def It (h0 : aA) (sb bm mb : Nat) (s : List UInt8) (h : aA) (i : Nat) (kv : List (List UInt8 × AV)) (x3 : AV) (l : List Row) : Prop :=
 Upd (fun _=>False) h0 h∧bD h sb [.s s]∧bD h bm [.mp (some mb)]∧Arr 3 h x3 (jK l) l.length∧(∀ j,aS x3 j→h0.length≤j∧j≠sb∧j≠bm∧j≠mb) ∧
  zL h (fun j=>(h0.length≤j∧j≠sb∧j≠bm)∧¬ aS x3 j) s i mb kv
theorem It.ext {h h':aA} {i:Nat} {kv:List (List UInt8 × AV)} {x3:AV} {l:List Row} (I:It h0 sb bm mb s h i kv x3 l) (U:Upd (fun _=>False) h h'):It h0 sb bm mb s h' i kv x3 l:=by
 obtain ⟨a,b,c,d,e,f⟩:=I
 exact ⟨a.then U,b.upd U fun h=>h,c.upd U fun h=>h,d.upd U fun _ _ h=>h,e,f.upd U fun _ _ h=>h⟩
theorem It.own {h h':aA} {i x:Nat} {kv:List (List UInt8 × AV)} {x3:AV} {l:List Row} (I:It h0 sb bm mb s h i kv x3 l) (U:Upd (· = x) h h') (hx:h0.length≤x) (n1:x≠sb) (n2:x≠bm) (n3:x≠mb) (n4:¬ aS x3 x) (n5:∀ g, ¬ aS (jL kv g) x):It h0 sb bm mb s h' i kv x3 l:=by
 obtain ⟨a,b,c,d,e,f⟩:=I
 exact ⟨a.own U hx,b.upd U fun h=>n1 h.symm,c.upd U fun h=>n2 h.symm,d.upd U fun j hj h=>n4 (h ▸ hj),e,
  ⟨f.map.upd U fun h=>n3 h.symm,fun g=>(f.vals g).upd U fun j hj h=>n5 g (h ▸ hj),f.own,f.dis⟩⟩
theorem aB5 (hs : s.length < 2 ^ 40) (ns : sb ≠ bm) (nsm : sb ≠ mb) (nbm : bm ≠ mb) (hsb : h0.length ≤ sb) (hbm : h0.length ≤ bm) (hmb : h0.length ≤ mb) {x3 : AV} {l : List Row} {N : Nat} :
  ∀ (m k i : Nat) (h : aA) (kv : List (List UInt8 × AV)), k + m = N → i + m ≤ s.length → N ≤ 258 → It h0 sb bm mb s h i kv x3 l →
   (∀ h' kv',It h0 sb bm mb s h' (i+m) kv' x3 l→Y11.p0 Q (.p (some ⟨sb,1,0⟩)) x3 (.p (some ⟨bm,1,0⟩)) (Fn Y38.id [.p (some ⟨sb,1,0⟩),.p (some ⟨bm,1,0⟩)]) ((i+m:Nat):Int) h') →
   Y11.p2 Q (.p (some ⟨sb,1,0⟩)) x3 (.p (some ⟨bm,1,0⟩)) (Fn Y38.id [.p (some ⟨sb,1,0⟩),.p (some ⟨bm,1,0⟩)]) i N k h:=by
 intro m
 induction m with
 | zero =>
  intro k i h kv hk hi hN I hq
  refine Y11.i2 ?_
  simp only [Y11.t2, ← Y11.p0.eq_1]
  exact aX (by simp; omega) (hq h kv I)
 | succ m ih =>
  intro k i h kv hk hi hN I hq
  refine Y11.i2 ?_
  simp only [Y11.t2, ← Y11.p2.eq_1]
  refine bA (by simp; omega) ?_
  obtain ⟨a,b,c,d,e,f⟩:=I
  refine cR (by decide) (aFK hs (by omega) b c f (fun j hj=>⟨⟨by have:=a.1; omega, ?_, ?_⟩,fun hj2=>?_⟩) (fun h=>h.1.2.1 rfl) (fun h=>h.1.2.2 rfl) nsm nbm fun h' kv' U' S'=>?_)
  ·have:=b.lt; omega
  ·have:=c.lt; omega
  ·have:=d.rd.lt hj2; omega
  refine aG (n:=((i+1:Nat):Int)) (by rw [aL (by omega) (by omega)]; omega) ?_
  refine aG (n:=((k+1:Nat):Int)) (by rw [aL (by omega) (by omega)]; omega) ?_
  refine ih (k+1) (i+1) h' kv' (by omega) (by omega) hN ⟨?_, ?_, ?_, ?_,e,S'⟩ fun h2 kv2 I2=>?_
  ·exact a.ownP U' fun j hj=>by
    rcases hj with hj | hj
    ·exact hj.1.1
    ·rw [hj]; exact hmb
  ·exact b.upd U' fun h=>by
    rcases h with h | h
    ·exact h.1.2.1 rfl
    ·exact nsm h
  ·exact c.upd U' fun h=>by
    rcases h with h | h
    ·exact h.1.2.2 rfl
    ·exact nbm h
  ·exact d.upd U' fun j hj h=>by
    rcases h with h | h
    ·exact h.2 hj
    ·exact (e j hj).2.2.2 h
  ·have := hq h2 kv2 (by rw [show i + (m + 1) = i + 1 + m by omega]; exact I2)
   rw [show i+(m+1)=i+1+m by omega] at this
   exact this
theorem aCW (hs:s.length<2 ^ 40) (ns:sb≠bm) (nsm:sb≠mb) (nbm:bm≠mb) (hsb:h0.length≤sb) (hbm:h0.length≤bm) (hmb:h0.length≤mb) {x3:AV} {l:List Row} {r:Row} {i x:Nat} {h:aA} {kv:List (List UInt8 × AV)} (hll:l.length≤i)
  (hi:i+max r.n 1≤s.length) (hN:r.n≤258) (I:It h0 sb bm mb s h i kv x3 l) (Rx:bD h x r.cells) (nx:¬ aS x3 x)
  (hq:∀ h' kv' x',It h0 sb bm mb s h' (i+max r.n 1) kv' x' (l++[r])→Y11.p0 Q (.p (some ⟨sb,1,0⟩)) x' (.p (some ⟨bm,1,0⟩)) (Fn Y38.id [.p (some ⟨sb,1,0⟩),.p (some ⟨bm,1,0⟩)]) ((i+max r.n 1:Nat):Int) h') :
  Y11.p1 Q (.p (some ⟨sb,1,0⟩)) x3 (.p (some ⟨bm,1,0⟩)) (Fn Y38.id [.p (some ⟨sb,1,0⟩),.p (some ⟨bm,1,0⟩)]) i (.p (some ⟨x,3,0⟩)) h:=by
 refine Y11.i1 ?_
 simp only [Y11.t1, ← Y11.p2.eq_1]
 refine jJ Rx rfl ?_
 obtain ⟨a,b,c,d,e,f⟩:=I
 refine d.push (x:=.ag r.cells) (by decide) rfl rfl rfl (by omega) (by omega) fun v' h' U' A' g'=>?_
 have Rx':=Rx.upd U' nx
 refine cY (aE Rx' rfl rfl (aD ?_))
 rw [show (1:Int)=((1:Nat):Int) from rfl,aBB]
 have hrow:jK (l++[r])=jK l++r.cells:=by unfold jK; rw [List.flatMap_append]; simp
 refine aB5 hs ns nsm nbm hsb hbm hmb (l:=l++[r]) (x3:=v') (max r.n 1) 0 i h' kv (by omega) hi (by omega) ⟨a.ownP U' fun j hj=>(e j hj).1,b.upd U' fun h=>(e _ h).2.1 rfl,c.upd U' fun h=>(e _ h).2.2.1 rfl, ?_, ?_, ?_⟩ fun h2 kv2 I2=>hq h2 kv2 v' I2
 ·rw [hrow, List.length_append]
  exact A'
 ·intro j hj
  rcases g' j hj with h | h
  ·exact e j h
  ·have := b.lt
   have:=c.lt
   have:=f.map.lt
   have:=a.1
   exact ⟨by omega,by omega,by omega,by omega⟩
 ·refine ⟨f.map.upd U' fun h => (e _ h).2.2.2 rfl, fun g => (f.vals g).upd U' fun j hj h => (f.own g j hj).1.2 h, fun g j hj => ⟨⟨(f.own g j hj).1.1, fun h => ?_⟩, (f.own g j hj).2⟩, f.dis⟩
  rcases g' j h with h | h
  ·exact (f.own g j hj).1.2 h
  ·have := (f.vals g).rd.lt hj
   omega
theorem aAX (hm : oJ s) (hs : s.length < 2 ^ 40) (ns : sb ≠ bm) (nsm : sb ≠ mb) (nbm : bm ≠ mb) (hsb : h0.length ≤ sb) (hbm : h0.length ≤ bm) (hmb : h0.length ≤ mb)
  (hq:∀ h' x l,Upd (fun _=>False) h0 h'→Rd 3 h' x (jK l) l.length→(∀ j,aS x j→h0.length≤j)→(∀ r∈l,r.ok)→l.length≤s.length→l.map Row.item=Infl.itemsR s (s.length+1) 0→Q x h') :
  ∀ (f i : Nat) (h : aA) (kv : List (List UInt8 × AV)) (x3 : AV) (l : List Row), i ≤ s.length → s.length < i + f → l.length ≤ i → (∀ r ∈ l, r.ok) → It h0 sb bm mb s h i kv x3 l → l.map Row.item ++ Infl.itemsR s f i = Infl.itemsR s (s.length + 1) 0 →
   Y11.p0 (aK h0 Q) (.p (some ⟨sb,1,0⟩)) x3 (.p (some ⟨bm,1,0⟩)) (Fn Y38.id [.p (some ⟨sb,1,0⟩),.p (some ⟨bm,1,0⟩)]) i h:=by
 intro f
 induction f with
 | zero=>intro i h kv x3 l h1 h2; omega
 | succ f ih =>
  intro i h kv x3 l h1 h2 hll hok I hfin
  have I':=I
  obtain ⟨a,b,c,d,e,sn⟩:=I'
  refine Y11.i0 ?_
  simp only [Y11.t0, ← Y11.p1.eq_1]
  refine aE b rfl rfl (b7 ?_)
  refine aM (fun hc=>?_) fun hc=>?_
  ·have hc : i < s.length := by have := of_decide_eq_true hc; omega
   obtain ⟨ch,hch⟩:∃ ch,s[i]? = some ch:=⟨s[i],List.getElem?_eq_getElem hc⟩
   obtain ⟨rok,rle⟩:=aC7 (c:=ch) hc
   have rn:(qL s i ch).n≤258:=by rcases rok with h | h <;> omega
   refine aE b rfl rfl (b7 (kT hch ?_))
   refine cB fun h2' l2 U2 R2=>?_
   refine hP R2 rfl rfl rfl fun h3 l3 U3 R3=>?_
   have R3:bD h3 h.length [byteAV ch,iN 0,iN 0]:=R3
   have U23:Upd (fun _=>False) h h3:=U2.own U3 (Nat.le_refl _)
   have I3:=I.ext U23
   have nx:¬ aS x3 h.length:=fun hj=>by have:=d.rd.lt hj; omega
   have nv:∀ g, ¬ aS (jL kv g) h.length:=fun g hj=>by have:=(sn.vals g).rd.lt hj; omega
   have bl:=b.lt
   have cl:=c.lt
   have ml:=sn.map.lt
   have al:=a.1
   have fin:∀ h4,It h0 sb bm mb s h4 i kv x3 l→bD h4 h.length (qL s i ch).cells→Y11.p1 (aK h0 Q) (.p (some ⟨sb,1,0⟩)) x3 (.p (some ⟨bm,1,0⟩)) (Fn Y38.id [.p (some ⟨sb,1,0⟩),.p (some ⟨bm,1,0⟩)]) i (.p (some ⟨h.length,3,0⟩)) h4:=fun h4 I4 R4=>by
    refine aCW hs ns nsm nbm hsb hbm hmb hll rle rn I4 R4 nx fun h5 kv5 x5 I5=>?_
    refine ih (i+max (qL s i ch).n 1) h5 kv5 x5 (l++[qL s i ch]) rle (by omega) (by rw [List.length_append,List.length_singleton]; omega) ?_ I5 ?_
    ·intro r hr
     rcases List.mem_append.1 hr with h | h
     ·exact hok r h
     ·rw [List.mem_singleton.1 h]; exact rok
    ·rw [← hfin, zP hch, List.map_append, List.append_assoc]
     first | done | rfl
   refine aG (n:=((i+3:Nat):Int)) (by rw [aL (by omega) (by omega)]; omega) ?_
   refine aE (b.upd U23 fun h=>h) rfl rfl (b7 ?_)
   refine aM (fun e3=>?_) fun e3=>?_
   ·have e3 : i + 3 ≤ s.length := by have := of_decide_eq_true e3; omega
    refine aE (b.upd U23 fun h=>h) rfl rfl (b7 ?_)
    refine aE (c.upd U23 fun h=>h) rfl rfl ?_
    refine aE (b.upd U23 fun h=>h) rfl rfl (b7 ?_)
    refine aG (n:=((i+3:Nat):Int)) (by rw [aL (by omega) (by omega)]; omega) ?_
    refine qN (lo:=i) (hi:=i+3) (by omega) e3 ?_
    refine nD (κ:=fun l:List UInt8=>AV.s l) I3.2.2.2.2.2.map sV (by kernel_rfl) (z:=nilS) (by kernel_rfl) ?_
    refine hm h3 _ i _ e3 (I3.2.2.2.2.2.vals (b8 s i)) ?_
    simp only [d7,dW]
    refine aD (aD ?_)
    refine cY (aT R3 rfl (by show 1<3; decide) (hk:=fun h4 l4 U4 R4=>?_))
    refine cY (aT R4 rfl (by show 2<3; decide) (hk:=fun h5 l5 U5 R5=>?_))
    have I4:=I3.own U4 al (by omega) (by omega) (by omega) nx nv
    have I5:=I4.own U5 al (by omega) (by omega) (by omega) nx nv
    exact fin h5 I5 R5
   ·have e3 : s.length < i + 3 := by have := of_decide_eq_false e3; omega
    refine fin h3 I3 ?_
    have:qL s i ch=⟨ch,0,0⟩:=by unfold qL; rw [Infl.matchP_end h1 e3]
    rw [this]
    exact R3
  ·have hc : s.length ≤ i := by have := of_decide_eq_false hc; omega
   refine .inl (hq h x3 l a d.rd (fun j hj=>(e j hj).1) hok (by omega) ?_)
   rw [Infl.itemsR_none _ _ hc,List.append_nil] at hfin
   exact hfin
theorem aCX {h:aA} (hm:oJ s) (hs:s.length<2 ^ 40)
  (hq:∀ h' x l,Upd (fun _=>False) h h'→Rd 3 h' x (jK l) l.length→(∀ j,aS x j→h.length≤j)→(∀ r∈l,r.ok)→l.length≤s.length→l.map Row.item=Infl.itemsR s (s.length+1) 0→Q x h'):C Y11.id [.s s] h Q:=by
 refine Y11.call ?_
 simp only [Y11.t, ← Y11.p0.eq_1]
 refine bT (hk:=fun h1 l1 U1 R1=>?_)
 refine wN (fun l:List UInt8=>AV.s l) fun h2 l2 U2 M2=>?_
 refine cB fun h3 l3 U3 R3=>?_
 refine aT R3 rfl (by decide) (hk:=fun h4 l4 U4 R4=>?_)
 have U13:=(U1.then U2).then U3
 refine aAX (h0:=h) (sb:=h.length) (bm:=h2.length) (mb:=h1.length) hm hs (by omega) (by omega) (by omega) (Nat.le_refl _) (by omega) (by omega) hq (s.length+1) 0 h4 [] _ [] (Nat.zero_le _) (by omega) (Nat.le_refl _) (fun r hr=>by cases hr) ⟨?_, ?_, ?_, ?_,fun j hj=>hj.elim, ?_⟩ rfl
 ·exact U13.own U4 (by omega)
 ·exact ((R1.upd U2 fun h=>h).upd U3 fun h=>h).upd U4 fun h=>by omega
 ·exact R4
 ·exact .inl ⟨rfl,rfl,rfl⟩
 ·exact ⟨(M2.upd U3 fun h=>h).upd U4 fun h=>by omega,fun g=>.inl ⟨rfl,rfl⟩,fun g j hj=>hj.elim,fun g g' j hj=>hj.elim⟩
end
end Go.Proofs.YtpaphfeihpgamaaDoor
namespace Go.Proofs.YtpaphfeihpgamaaDoor
open Go.GAM
theorem dB.str {E:TypeId} {h:aA} {v:AV} {l:List UInt8} (B:dB E h v l) {K:List UInt8→Prop} (hk:K l):cJ v h K:=by
 refine Byt.str (l:=l) ?_ hk
 rcases B with ⟨rfl,rfl⟩ | ⟨id,b,rfl,h1,h2,h3,h4,h5⟩
 ·exact .inl ⟨rfl,rfl,rfl⟩
 ·have e : b.cells.length = l.length := by rw [h2]; simp
  refine .inr ⟨id,_,0,none,b,rfl,h1,.inl h3,h4,by show l.length≤_; omega,by omega, ?_⟩
  rw [List.drop_zero,Nat.mul_one, ← e,List.take_length,h2]
section
variable [XR] {Q:AV→aA→Prop} {s:List UInt8} {h:aA}
theorem pL (hm:oJ s) (hs:s.length<2 ^ 32) (hq:Q (.s (Infl.fixedText s)) h):C Y42.id [.s s] h Q:=by
 refine Y42.call ?_
 unfold Y42.t
 refine bT (hk:=fun h1 l1 U1 R1=>?_)
 have R1:bD h1 h.length [nilS,iN 0]:=R1
 let G:Nat→Prop:=fun i=>h.length≤i
 have W1:Wr h1 G h.length []:=⟨nilS,R1,.inl ⟨rfl,rfl⟩,fun i hi=>hi.elim,Nat.le_refl _,fun x hx=>by cases hx⟩
 refine kA (x:=3) (n:=3) (by decide) (by decide) (by decide) (fun i hi=>by show h.length≤i; omega) W1 fun h2 U2 W2=>?_
 refine jO fun h3 va vb U3 Ra Rb na nb=>?_
 simp only [d7,dW]
 refine aCX hm (by omega) fun h4 x l U4 R4 nx hok hll hfin=>?_
 have hl2:=U2.1
 have hl3:=U3.1
 have hl4:=U4.1
 have U24:=U3.then U4
 let G2:Nat→Prop:=fun i=>(G i∧i<h2.length)∨h4.length≤i
 have cut:∀ {x:AV},(∀ i,aS x i→h2.length≤i∧i<h4.length)→∀ i,aS x i→¬ G2 i:=fun hx i hi g=>by
  have:=hx i hi
  rcases g with ⟨_,g⟩ | g <;> omega
 have la:∀ i,aS va i→h2.length≤i∧i<h4.length:=fun i hi=>⟨na i hi,by have:=RdI.ltp Ra (by decide +kernel) hi; omega⟩
 have lb:∀ i,aS vb i→h2.length≤i∧i<h4.length:=fun i hi=>⟨nb i hi,by have:=RdI.ltp Rb (by decide +kernel) hi; omega⟩
 have lx:∀ i,aS x i→h2.length≤i∧i<h4.length:=fun i hi=>⟨by have:=nx i hi; omega,R4.lt hi⟩
 have W4:Wr h4 G2 h.length ([]++Huff.loBits 3 3):=W2.cut U24 fun i hi g=>.inl ⟨g,hi⟩
 refine aAY (a:=Infl.fixedL) (b:=Infl.fixedD) (l:=l) (by decide +kernel) (by decide +kernel) (by decide +kernel) (by decide +kernel) (by decide +kernel) (by decide +kernel) eM nC (by decide +kernel) (by decide +kernel) hok
  (by rw [List.nil_append,Infl.lo_length]; omega) (fun i hi=>.inr hi) (cut la) (cut lb) (cut lx) (Ra.ext U4) (Rb.ext U4) R4 W4 fun h5 U5 W5=>?_
 obtain ⟨v,R5,B5,_,_,_⟩:=W5
 refine gK (cY (aE R5 rfl rfl ?_))
 refine dB.str B5 ?_
 have hbits:([]++Huff.loBits 3 3)++(Infl.encItems Infl.fixedL Infl.fixedD (l.map Row.item)++Huff.codeBits Infl.fixedL 256)=Infl.fixedBits (Infl.itemsR s (s.length+1) 0):=by
  rw [hfin] <;> rfl
 rw [hbits]
 refine eC rfl (Upd.ext ?_) hq
 refine (U1.ownP U2 fun j hj=>hj).then U24 |>.ownP U5 fun j hj=>?_
 rcases hj with hj | hj
 ·exact hj.1
 ·have:=U1.1; omega
end
end Go.Proofs.YtpaphfeihpgamaaDoor
namespace Go.Infl
open Go.Huff
def mostAt (s:List UInt8) (at':Nat):Nat:=min 258 (s.length - at')
def srch (s:List UInt8) (at':Nat):List Nat→Nat × Nat→Nat × Nat
 | [],b=>b
 | f :: r,b=>if 32768<at' - f∨b.1=mostAt s at' then b else srch s at' r (better s at' b (at' - f))
theorem srch_is {s : List UInt8} {at' : Nat} (h : at' ≤ s.length) {cand : Nat → Prop} (hc : ∀ d, 1 ≤ d → d ≤ at' → 3 ≤ lcp s at' d → cand (at' - d)) (hc3 : ∀ f, cand f → f < at' → 3 ≤ lcp s at' (at' - f)) :
  ∀ (r : List Nat) (n d cV : Nat), cV ≤ at' → (∀ f ∈ r, f < cV ∧ cand f) → r.Pairwise (· > ·) → (∀ f, cand f → f < cV → f ∈ r) →
   (n=0∧d=0∨3≤n∧1≤d∧d≤min at' 32768∧n=lcp s at' d∧∀ d',1≤d'→d'<d→lcp s at' d'<n)→(∀ d',1≤d'→d'≤at'→cV≤at' - d'→lcp s at' d'≤max n 2) →
   srch s at' r (n,d)=matchP s at':=by
 have done:∀ (n d:Nat),(n=0∧d=0∨3≤n∧1≤d∧d≤min at' 32768∧n=lcp s at' d∧∀ d',1≤d'→d'<d→lcp s at' d'<n)→(∀ d',1≤d'→d'≤min at' 32768→lcp s at' d'≤max n 2)→(n,d)=matchP s at':=by
  intro n d hb hall
  rcases hb with ⟨rfl,rfl⟩ | ⟨b1,b2,b3,b4,b5⟩
  ·obtain ⟨g1, _, _⟩ := iW s at' (min at' 32768)
   unfold matchP
   rw [if_pos]
   show (matchTo s at' (min at' 32768)).1<3
   rcases g1 with g1 | ⟨g1,g2,g3⟩
   ·omega
   ·have := hall _ g1 g2
    omega
  ·have e : matchR s at' = (n, d) := wO b2 b3 b4 (by omega) (fun d' h1 h2 => by have := hall d' h1 h2; omega) b5
   unfold matchP
   rw [e,if_neg (by simp only; omega)]
 intro r
 induction r with
 | nil =>
  intro n d cV hb hr hp hall hbest hseen
  rw [srch]
  refine done n d hbest fun d' h1 h2=>?_
  by_cases hbd:cV≤at' - d'
  ·exact hseen d' h1 (by omega) hbd
  ·rcases Nat.lt_or_ge (lcp s at' d') 3 with h3 | h3
   ·omega
   ·have := hall (at' - d') (hc d' h1 (by omega) h3) (by omega)
    cases this
 | cons f r ih =>
  intro n d cV hb hr hp hall hbest hseen
  obtain ⟨f1,f2⟩:=hr f (by simp)
  obtain ⟨p1,p2⟩:=List.pairwise_cons.1 hp
  have gap:∀ d',1≤d'→d'≤at'→f<at' - d'→lcp s at' d'≤max n 2:=fun d' h1 h2 h3=>by
   by_cases hbd:cV≤at' - d'
   ·exact hseen d' h1 h2 hbd
   ·rcases Nat.lt_or_ge (lcp s at' d') 3 with h4 | h4
    ·omega
    ·have hm := hall (at' - d') (hc d' h1 h2 h4) (by omega)
     rcases List.mem_cons.1 hm with e | hm
     ·omega
     ·have:=p1 _ hm; omega
  rw [srch]
  split
  ·rename_i hstop
   refine done n d hbest fun d' h1 h2=>?_
   rcases hstop with hs | hs
   ·exact gap d' h1 (by omega) (by omega)
   ·obtain ⟨q1, q2, _⟩ := lcp_ok d' h
    have hs:n=min 258 (s.length - at'):=hs
    omega
  ·rename_i hstop
   have hstop:¬ 32768<at' - f:=fun h=>hstop (.inl h)
   have hf3:=hc3 f f2 (by omega)
   unfold better
   simp only []
   split
   ·rename_i hlt
    refine ih _ _ f (by omega) (fun x hx=>⟨p1 x hx,(hr x (by simp [hx])).2⟩) p2 (fun x hx1 hx2=>?_) (.inr ⟨hf3,by omega,by omega,rfl,fun d' h1 h2=>?_⟩) fun d' h1 h2 h3=>?_
    ·rcases List.mem_cons.1 (hall x hx1 (by omega)) with e | hm
     ·omega
     ·exact hm
    ·have := gap d' h1 (by omega) (by omega)
     omega
    ·by_cases e : at' - d' = f
     ·have : d' = at' - f := by omega
      subst this
      exact Nat.le_max_left _ _
     ·have := gap d' h1 h2 (by omega)
      omega
   ·rename_i hlt
    refine ih _ _ f (by omega) (fun x hx=>⟨p1 x hx,(hr x (by simp [hx])).2⟩) p2 (fun x hx1 hx2=>?_) hbest fun d' h1 h2 h3=>?_
    ·rcases List.mem_cons.1 (hall x hx1 (by omega)) with e | hm
     ·omega
     ·exact hm
    ·by_cases e : at' - d' = f
     ·have : d' = at' - f := by omega
      subst this
      omega
     ·exact gap d' h1 h2 (by omega)
end Go.Infl
namespace Go.Proofs.YtpaphfeihpgamaaDoor
open Go.GAM
theorem xH {s:List UInt8} {a d:Nat}:∀ (f n:Nat),n≤Infl.lcpF s a d f n
 | 0,n=>Nat.le_refl _
 | f + 1, n => by
  unfold Infl.lcpF
  split
  ·exact Nat.le_trans (Nat.le_succ n) (xH f (n+1))
  ·exact Nat.le_refl _
theorem y1 {s:List UInt8} {a d:Nat} (h:a+3≤s.length) (h0:s[a]? = s[a - d]?) (h1:s[a+1]? = s[a+1 - d]?) (h2:s[a+2]? = s[a+2 - d]?):3≤Infl.lcp s a d:=by
 unfold Infl.lcp
 rw [show 258=255+1+1+1 by rfl,Infl.lcpF,if_pos ⟨by omega,h0⟩,Infl.lcpF,if_pos ⟨by omega,h1⟩,Infl.lcpF,if_pos ⟨by omega,h2⟩]
 exact xH _ _
theorem sX {s:List UInt8} {i k:Nat} (hk:k<3):(b8 s i)[k]? = s[i+k]?:=by
 unfold b8
 rw [List.getElem?_drop,List.getElem?_take_of_lt (by omega)]
theorem aB3 {s:List UInt8} {a f:Nat} (ha:a+3≤s.length) (hf:f<a):b8 s f=b8 s a↔3≤Infl.lcp s a (a - f):=by
 constructor
 ·intro e
  have g:∀ k,k<3→s[a+k]? = s[f+k]?:=fun k hk=>by rw [← sX hk, ← sX hk,e]
  refine y1 ha ?_ ?_ ?_
  ·have:=g 0 (by decide); rw [show a - (a - f)=f by omega]; exact this
  ·have:=g 1 (by decide); rw [show a+1 - (a - f)=f+1 by omega]; exact this
  ·have:=g 2 (by decide); rw [show a+2 - (a - f)=f+2 by omega]; exact this
 ·intro h
  obtain ⟨_,_,q⟩:=Infl.lcp_ok (s:=s) (a - f) (show a≤s.length by omega)
  refine List.ext_getElem? fun k=>?_
  by_cases hk:k<3
  ·rw [sX hk, sX hk]
   have:=q k (by omega)
   rw [show a+k - (a - f)=f+k by omega] at this
   exact this.symm
  ·have e1 : (b8 s f).length = 3 := by unfold b8; simp; omega
   have e2:(b8 s a).length=3:=by unfold b8; simp; omega
   rw [List.getElem?_eq_none (by omega),List.getElem?_eq_none (by omega)]
theorem xB {s:List UInt8} {g:List UInt8}:∀ (i x:Nat),x<i→x+3≤s.length→b8 s x=g→x∈occ s i g
 | 0,x,h,_,_=>by omega
 | i + 1, x, h, h3, hk => by
  unfold occ
  by_cases e:x=i
  ·subst e
   rw [if_pos ⟨h3,hk⟩]; simp
  ·exact List.mem_append_left _ (xB i x (by omega) h3 hk)
theorem qC (s:List UInt8) (g:List UInt8):∀ i,(occ s i g).Pairwise (· < ·)
 | 0=>List.Pairwise.nil
 | i + 1 => by
  unfold occ
  refine List.pairwise_append.2 ⟨qC s g i, ?_,fun a ha b hb=>?_⟩
  ·split
   ·exact List.pairwise_singleton _ _
   ·exact List.Pairwise.nil
  ·have := (rX s g i a ha).1
   split at hb
   ·rw [List.mem_singleton.1 hb]; exact this
   ·cases hb
theorem aA9 {s:List UInt8} {a:Nat} (ha:a+3≤s.length):Infl.srch s a (occ s a (b8 s a)).reverse (0,0)=Infl.matchP s a:=by
 refine Infl.srch_is (cand:=fun f=>f<a∧b8 s f=b8 s a) (by omega) (fun d h1 h2 h3=>⟨by omega,(aB3 ha (by omega)).2 (by rw [show a - (a - d)=d by omega]; exact h3)⟩) (fun f hf hfa=>(aB3 ha hfa).1 hf.2)
  _ 0 0 a (Nat.le_refl _) (fun f hf=>?_) ?_ (fun f hf hfa=>?_) (.inl ⟨rfl,rfl⟩) fun d h1 h2 h3=>?_
 ·have := rX s _ a f (List.mem_reverse.1 hf)
  exact ⟨this.1,this.1,this.2.2⟩
 ·rw [List.pairwise_reverse]
  exact qC s _ a
 ·exact List.mem_reverse.2 (xB a f hfa (by omega) hf.2)
 ·omega
end Go.Proofs.YtpaphfeihpgamaaDoor
namespace Go.Proofs.YtpaphfeihpgamaaDoor
open Go.GAM
@[reducible] def xr0:XR:=⟨aDM aD3⟩
abbrev p1 (id:Nat):AV:=.p (some ⟨id,1,0⟩)
theorem mmF (n:Nat):mmI false 258 (n:Int)=((min 258 n:Nat):Int):=by
 unfold mmI
 simp only [cond_false]
 split <;> omega
theorem aEE (a b:UInt8):(decide ((a.toNat:Int)=(b.toNat:Int)))=decide (a=b):=by
 by_cases h:a=b
 ·subst h; simp
 ·have : a.toNat ≠ b.toNat := fun e => h (UInt8.toNat.inj e)
  simp [h,this]
  omega
structure MS (Hb:aA) (g nb fb:Nat) (rec:Loop) (st:LoopState) (pe:Option Code) (h:aA) (b:Nat × Nat):Prop where
 upd:Upd (fun i=>i=nb∨i=fb∨i=g) Hb h
 gh:h[g]? = some (dJ rec st pe)
 n:bD h nb [iN b.1]
 far:bD h fb [iN b.2]
section
variable {Hb:aA} {g sb ab nb fb mb:Nat} {rec:Loop} {s:List UInt8} {a:Nat}
theorem MS.set {st st':LoopState} {pe pe':Option Code} {h:aA} {b:Nat × Nat} (M:MS Hb g nb fb rec st pe h b) (h1:nb≠g) (h2:fb≠g):MS Hb g nb fb rec st' pe' (h.set g (dJ rec st' pe')) b:=
 ⟨M.upd.trans (Upd.set _ _ _) fun i _ e=>.inr (.inr e),List.getElem?_set_self (aN M.gh),M.n.upd (Upd.set _ _ _) h1,M.far.upd (Upd.set _ _ _) h2⟩
variable [XR] {X:Exit→aA→Prop}
theorem aF0 (hs : s.length < 2 ^ 40) (ha : a ≤ s.length) (Rs : bD Hb sb [.s s]) (Ra : bD Hb ab [iN a]) (Rm : bD Hb mb [iN (Infl.mostAt s a)]) (ns : sb ≠ nb ∧ sb ≠ fb ∧ sb ≠ g) (na : ab ≠ nb ∧ ab ≠ fb ∧ ab ≠ g) (nm : mb ≠ nb ∧ mb ≠ fb ∧ mb ≠ g)
  (n1:nb≠fb) (n2:nb≠g) (n3:fb≠g) {h:aA} {b:Nat × Nat} {f:Nat} (hf:f<a) (M:MS Hb g nb fb rec .busy none h b) (hb:b.1≤258)
  (hX:∀ h',MS Hb g nb fb rec .busy none h' (Infl.better s a b (a - f))→X .normal h') :
  ∀ (fu k:Nat),k+fu=258→a+k≤s.length→Infl.lcp s a (a - f)=Infl.lcpF s a (a - f) fu k→Y3.p1 X (p1 sb) (p1 ab) (p1 nb) (p1 fb) (p1 mb) f k h:=by
 have Rs:=Rs.upd M.upd fun h=>h.elim ns.1 fun h=>h.elim ns.2.1 ns.2.2
 have Ra:=Ra.upd M.upd fun h=>h.elim na.1 fun h=>h.elim na.2.1 na.2.2
 have Rm:=Rm.upd M.upd fun h=>h.elim nm.1 fun h=>h.elim nm.2.1 nm.2.2
 have fin:∀ k,k≤258→Infl.lcp s a (a - f)=k→Y3.p2 X (p1 sb) (p1 ab) (p1 nb) (p1 fb) (p1 mb) f k false h:=by
  intro k hk e
  refine Y3.i2 ?_
  unfold Y3.t2
  refine aX rfl ?_
  refine aE M.n rfl rfl (aD ?_)
  unfold Infl.better at hX
  rw [e] at hX
  refine aM (fun c=>?_) fun c=>?_
  ·have c : b.1 < k := by simpa using c
   simp only [if_pos c] at hX
   refine aE Ra rfl rfl (aD ?_)
   refine aG (n:=((a - f:Nat):Int)) (by rw [aL (by omega) (by omega)]; omega) ?_
   refine aT M.n rfl Nat.one_pos (hk:=fun h1 l1 U1 R1=>?_)
   refine aE (Ra.upd U1 fun h=>na.1 h) rfl rfl (aD ⟨rfl, ?_⟩)
   refine aT (M.far.upd U1 fun h=>n1 h.symm) rfl Nat.one_pos (hk:=fun h2 l2 U2 R2=>?_)
   refine hX h2 ⟨(M.upd.trans U1 fun i _ e=>.inl e).trans U2 fun i _ e=>.inr (.inl e), ?_,R1.upd U2 fun h=>n1 h,R2⟩
   rw [U2.2 g (by have:=aN M.gh; omega) (fun e=>n3 e.symm),U1.2 g (aN M.gh) (fun e=>n2 e.symm)]
   exact M.gh
  ·have c : ¬ b.1 < k := by simpa using c
   simp only [if_neg c] at hX
   exact hX h M
 intro fu
 induction fu with
 | zero =>
  intro k hk hle e
  refine Y3.i1 ?_
  unfold Y3.t1
  refine aE Rm rfl rfl (aD ?_)
  refine aX (decide_eq_false ?_) (fin k (by omega) e)
  unfold Infl.mostAt; omega
 | succ fu ih =>
  intro k hk hle e
  refine Y3.i1 ?_
  unfold Y3.t1
  refine aE Rm rfl rfl (aD ?_)
  unfold Infl.lcpF at e
  refine aM (fun c=>?_) fun c=>?_
  ·have c : a + k < s.length := by
    have c:=of_decide_eq_true c
    unfold Infl.mostAt at c; omega
   obtain ⟨x,hx⟩:∃ x,s[f+k]? = some x:=⟨_,List.getElem?_eq_getElem (by omega)⟩
   obtain ⟨y,hy⟩:∃ y,s[a+k]? = some y:=⟨_,List.getElem?_eq_getElem c⟩
   refine aE Rs rfl rfl (b7 ?_)
   refine aG (n:=((f+k:Nat):Int)) (by rw [aL (by omega) (by omega)]; omega) ?_
   refine kT hx (aE Rs rfl rfl (b7 (aE Ra rfl rfl (aD ?_))))
   refine aG (n:=((a+k:Nat):Int)) (by rw [aL (by omega) (by omega)]; omega) ?_
   refine kT hy ?_
   have hfk:a+k - (a - f)=f+k:=by omega
   rw [hfk,hx,hy] at e
   rw [aEE]
   by_cases hxy:x=y
   ·rw [if_pos ⟨c, by rw [hxy]⟩] at e
    rw [decide_eq_true hxy]
    refine Y3.i2 ?_
    unfold Y3.t2
    refine bA rfl ?_
    refine aG (n:=((k+1:Nat):Int)) (by rw [aL (by omega) (by omega)]; omega) ?_
    exact ih (k+1) (by omega) (by omega) e
   ·rw [if_neg fun hh => hxy (Option.some.inj hh.2).symm] at e
    rw [decide_eq_false hxy]
    exact fin k (by omega) e
  ·have c : ¬ (k : Int) < ((Infl.mostAt s a : Nat) : Int) := of_decide_eq_false c
   have c:¬ a+k<s.length:=by unfold Infl.mostAt at c; omega
   rw [if_neg fun hh=>c hh.1] at e
   exact fin k (by omega) e
theorem aF5 {X0 : aU} {l : Nat} {Y : List AV → aA → (AV → aA → Prop) → Prop} {S : aA → Nat × Nat → Prop} {E : aA → Nat × Nat → Prop} {bx : AV} {sv : AV} {xs : List Nat} {Q : AV → aA → Prop}
  (hlen:xs.length<1073741824) (hbx:∀ h b,S h b→∀ K:AV→Prop,K sv→aB bx h K) (hsv:∀ h b,S h b→Rd 1 h sv (bB xs) xs.length) (hx:∀ f∈xs,f<a) (hSE:∀ h b,S h b→E h b) (hb0:∀ h b,S h b→b.1≤258)
  (hY:∀ h b i f K,S h b→f<a→(32768<a - f∨b.1=Infl.mostAt s a→∀ h',E h' b→K (.b false) h')→(¬ (32768<a - f∨b.1=Infl.mostAt s a)→∀ h',S h' (Infl.better s a b (a - f))→K (.b true) h')→Y [iN i,iN f] h K) :
  ∀ (j:Nat) (h:aA) (b:Nat × Nat),j≤xs.length→S h b→(∀ h',E h' (Infl.srch s a (xs.take j).reverse b)→Q (.tu []) h') →
  @Y33.p0 ⟨orY (dS prog X0) l Y⟩ Q (.fn (.yield l) [] []) bx ((j:Int) - 1) h:=by
 letI:XR:=⟨orY (dS prog X0) l Y⟩
 intro j
 induction j with
 | zero =>
  intro h b hj hS hq
  refine Y33.i0 ?_
  unfold Y33.t0
  exact aX (by decide) (hq h (hSE h b hS))
 | succ j ih =>
  intro h b hj hS hq
  have ej:((j+1:Nat):Int) - 1=(j:Int):=by omega
  obtain ⟨f,hf⟩:∃ f,xs[j]? = some f:=⟨_,List.getElem?_eq_getElem (by omega)⟩
  have htk:(xs.take (j+1)).reverse=f :: (xs.take j).reverse:=by
   rw [List.take_add_one,hf]; simp
  rw [htk,Infl.srch] at hq
  refine Y33.i0 ?_
  unfold Y33.t0
  rw [ej]
  refine bA (decide_eq_true (by omega)) ?_
  refine hbx h b hS _ ?_
  refine (hsv h b hS).idx (by omega) (by omega) fun id ver off ⟨bk,g1,g2,g3,g4,g5⟩=>⟨bk,g1,⟨g2,g3,g4⟩, ?_⟩
  have hc:(bk.cells)[off]? = some (iN f):=by
   have e1:((bk.cells.drop off).take 1)[0]? = some (iN f):=by
    rw [g5,List.getElem?_take_of_lt (by decide),List.getElem?_drop,Int.toNat_natCast,Nat.mul_one,Nat.add_zero]
    unfold bB
    rw [List.getElem?_map,hf] <;> rfl
   rw [List.getElem?_take_of_lt (by decide),List.getElem?_drop,Nat.add_zero] at e1
   exact e1
  show asI .i64 (bk.cells.getD off .u) _
  rw [getD_some hc]
  refine aD ?_
  refine r9 (.inr ⟨rfl,hY h b j f _ hS (hx f (List.mem_of_getElem? hf)) (fun hstop h' hE=>?_) fun hgo h' hS'=>?_⟩)
  ·rw [if_pos hstop] at hq
   refine bP (bA rfl (hq h' hE))
  ·rw [if_neg hgo] at hq
   refine bP (aX rfl ?_)
   refine aG (n:=(j:Int) - 1) (by rw [aL (by omega) (by omega)]) ?_
   exact ih h' _ (by omega) hS' hq
end
end Go.Proofs.YtpaphfeihpgamaaDoor
namespace Go.Proofs.YtpaphfeihpgamaaDoor
open Go.GAM
theorem aAC {P:Program} {R:aU} {A:aU→aU} {gf:FuncId} {first cap:List AV} {Y:Nat→Loop→List AV→aA→(AV→aA→Prop)→Prop} {h:aA} {K:Loop→aA→Prop} (hc:(Nat.blt gf yid0&&iT P gf)=true)
  (hk:∀ l rec,A (orY R l (Y h.length rec)) gf (first++[.fn (.yield l) [] []]++cap) (h++[dJ rec .ready none]) (fun _ h'=>K rec h')):aDS P R A (.fn (.func gf) first cap) Y h K:=bA hc hk
section
attribute [local instance] xr0
theorem aDQ {s : List UInt8} {a : Nat} {h : aA} {v : AV} {Q : AV → aA → Prop} (hs : s.length < 1073741824) (ha : a + 3 ≤ s.length) (S : Stk h v (bB (occ s a (b8 s a))))
  (hq:Q (.tu [iN (Infl.matchP s a).1,iN (Infl.matchP s a).2]) h):aFX prog (@C xr0) (dS prog) Y40.id [.s s,iN a,v] h Q:=by
 refine Y40.callX ?_
 unfold Y40.tX
 refine bT (hk:=fun h1 l1 U1 R1=>?_)
 refine bT (hk:=fun h2 l2 U2 R2=>?_)
 refine cB fun h3 l3 U3 R3=>?_
 refine cB fun h4 l4 U4 R4=>?_
 have R1:=((R1.upd U2 fun h=>h).upd U3 fun h=>h).upd U4 fun h=>h
 have R2:=(R2.upd U3 fun h=>h).upd U4 fun h=>h
 have R3:=R3.upd U4 fun h=>h
 refine aE R1 rfl rfl (b7 (aE R2 rfl rfl (aD ?_)))
 refine aG (n:=((s.length - a:Nat):Int)) (by rw [aL (by omega) (by omega)]; omega) ?_
 rw [mmF]
 refine cB fun h5 l5 U5 R5=>?_
 refine aT R5 rfl Nat.one_pos (hk:=fun h6 l6 U6 R6=>?_)
 have R6:bD h6 h4.length [iN (Infl.mostAt s a)]:=R6
 have U56:Upd (fun _=>False) h4 h6:=U5.own U6 (Nat.le_refl _)
 have R1:bD h6 h.length [.s s]:=R1.upd U56 fun h=>h
 have R2:bD h6 h1.length [iN a]:=R2.upd U56 fun h=>h
 have R3:bD h6 h2.length [iN 0]:=R3.upd U56 fun h=>h
 have R4:bD h6 h3.length [iN 0]:=R4.upd U56 fun h=>h
 have Uh6:Upd (fun _=>False) h h6:=(((U1.then U2).then U3).then U4).then U56
 refine Y80.call ?_
 unfold Y80.t
 refine bT (hs:=by rcases S with ⟨rfl,_⟩ | ⟨_,_,rfl,_⟩ <;> rfl) (hk:=fun h7 l7 U7 R7=>.inl ?_)
 have hvp:v.parts=[v]:=by rcases S with ⟨rfl,_⟩ | ⟨_,_,rfl,_⟩ <;> rfl
 rw [hvp] at R7 ⊢
 have S7:Rd 1 h7 v (bB (occ s a (b8 s a))) (occ s a (b8 s a)).length:=by
  have:=(S.upd (Uh6.then U7) fun i hi h=>h).rd
  rwa [show (bB (occ s a (b8 s a))).length=(occ s a (b8 s a)).length by unfold bB; simp] at this
 have R1:=R1.upd U7 fun h=>h
 have R2:=R2.upd U7 fun h=>h
 have R3:=R3.upd U7 fun h=>h
 have R4:=R4.upd U7 fun h=>h
 have R6:=R6.upd U7 fun h=>h
 have hl1:=R1.lt
 have hlt:h.length<h1.length∧h1.length<h2.length∧h2.length<h3.length∧h3.length<h4.length∧h4.length<h6.length∧h6.length<h7.length:=by
  have:=U6.1
  omega
 obtain ⟨q1,q2,q3,q4,q5,q6⟩:=hlt
 refine aAC (by kernel_rfl) fun l rec=>?_
 obtain ⟨Hb,hHb⟩:∃ Hb,h7++[dJ rec .ready none]=Hb:=⟨_,rfl⟩
 have Ub:Upd (fun _=>False) h7 Hb:=by rw [← hHb]; exact Upd.app _ _
 have hgb:Hb[h7.length]? = some (dJ rec .ready none):=by rw [← hHb]; simp
 rw [hHb]
 have R1:=R1.upd Ub fun h=>h
 have R2:=R2.upd Ub fun h=>h
 have R3:=R3.upd Ub fun h=>h
 have R4:=R4.upd Ub fun h=>h
 have R6:=R6.upd Ub fun h=>h
 have R7:=R7.upd Ub fun h=>h
 have Sb:=S7.upd Ub fun i hi h=>h
 have hsvlt:∀ i,aS v i→i<h.length:=fun i hi=>S.rd.lt hi
 have hbase:Upd (fun _=>False) h Hb:=(Uh6.then U7).then Ub
 have M0:MS Hb h7.length h2.length h3.length rec .ready none Hb (0,0):=⟨Upd.refl _ _,hgb,R3,R4⟩
 have hocc:(occ s a (b8 s a)).length<1073741824:=Nat.lt_of_le_of_lt (wE s _ a) (by omega)
 refine @Y33.call ⟨orY (@C xr0) l _⟩ _ _ _ _ ?_
 unfold Y33.t
 refine aE R7 rfl rfl (S7.len ?_)
 refine aG (n:=(((occ s a (b8 s a)).length:Nat):Int) - 1) (aL (by omega) (by omega)) ?_
 refine aF5 (s:=s) (a:=a) (xs:=occ s a (b8 s a)) (sv:=v) (S:=fun h b=>MS Hb h7.length h2.length h3.length rec .ready none h b∧b.1≤258)
  (E:=fun h b=>(MS Hb h7.length h2.length h3.length rec .ready none h b∨MS Hb h7.length h2.length h3.length rec .done (some (.exit 0)) h b)∧b.1≤258) hocc ?_ ?_ (fun f hf=>(rX s _ a f hf).1) (fun h b hS=>⟨.inl hS.1,hS.2⟩) (fun h b hS=>hS.2) ?_
  _ Hb (0,0) (Nat.le_refl _) ⟨M0,by decide⟩ ?_
 ·intro h' b hS K hK
  exact aE (R7.upd hS.1.upd fun h=>h.elim (by omega) fun h=>h.elim (by omega) (by omega)) rfl rfl hK
 ·intro h' b hS
  exact Sb.upd hS.1.upd fun i hi h=>by
   have:=hsvlt i hi
   exact h.elim (by omega) fun h=>h.elim (by omega) (by omega)
 ·intro h' b i f K ⟨hM, hb⟩ hf hstop hgo
  refine ⟨hM.gh, ?_⟩
  refine aDJ (aD ⟨hM.gh, ?_⟩)
  unfold aB2 aBH
  have MB:MS Hb h7.length h2.length h3.length rec .busy none (h'.set h7.length (dJ rec .busy none)) b:=hM.set (by omega) (by omega)
  have Ra:=R2.upd MB.upd fun h=>h.elim (by omega) fun h=>h.elim (by omega) (by omega)
  have Rm:=R6.upd MB.upd fun h=>h.elim (by omega) fun h=>h.elim (by omega) (by omega)
  refine aE Ra rfl rfl (aD ?_)
  refine aG (n:=((a - f:Nat):Int)) (by rw [aL (by omega) (by omega)]; omega) ?_
  simp only [← Y3.p0.eq_1]
  have out:∀ c:Bool,(c=true↔32768<a - f∨b.1=Infl.mostAt s a)→Y3.p0 (aFB h7.length rec K) (p1 h.length) (p1 h1.length) (p1 h2.length) (p1 h3.length) (p1 h4.length) f c (h'.set h7.length (dJ rec .busy none)):=by
   intro c hc
   refine Y3.i0 ?_
   unfold Y3.t0
   simp only [← Y3.p1.eq_1]
   refine aM (fun e=>?_) fun e=>?_
   ·refine ⟨MB.gh,hstop (hc.1 e) _ ⟨.inr (MB.set (by omega) (by omega)),hb⟩⟩
   ·have hn : ¬ (32768 < a - f ∨ b.1 = Infl.mostAt s a) := fun hh => by rw [hc.2 hh] at e; cases e
    refine aF0 (s:=s) (a:=a) (Hb:=Hb) (b:=b) (by omega) (by omega) R1 R2 R6 ⟨by omega,by omega,by omega⟩ ⟨by omega,by omega,by omega⟩ ⟨by omega,by omega,by omega⟩ (by omega) (by omega) (by omega) hf MB hb (fun h2' M2=>?_) 258 0 (by omega) (by omega) rfl
    refine ⟨M2.gh,hgo hn _ ⟨M2.set (by omega) (by omega), ?_⟩⟩
    unfold Infl.better
    split
    ·exact (Infl.lcp_ok _ (by omega)).1
    ·exact hb
  refine aM (fun e=>out true ⟨fun _=>.inl (by have:=of_decide_eq_true e; omega),fun _=>rfl⟩) fun e=>?_
  have e:¬ 32768<a - f:=by have:=of_decide_eq_false e; omega
  refine aE MB.n rfl rfl (aD (aE Rm rfl rfl (aD (out _ ?_))))
  rw [decide_eq_true_iff]
  exact ⟨fun h=>.inr (by omega),fun h=>h.elim (fun h=>absurd h e) fun h=>by rw [h]⟩
 ·intro h' ⟨hE, hle⟩
  rw [List.take_length,aA9 ha] at hE
  refine .inl ?_
  obtain ⟨st,pe,hM⟩:∃ st pe,MS Hb h7.length h2.length h3.length rec st pe h' (Infl.matchP s a):=hE.elim (fun M=>⟨_,_,M⟩) fun M=>⟨_,_,M⟩
  have Ud:Upd (fun i=>i=h2.length∨i=h3.length∨i=h7.length) Hb (h'.set h7.length cF):=hM.upd.trans (Upd.set _ _ _) fun i _ e=>.inr (.inr e)
  have Rn:=hM.n.upd (Upd.set h' h7.length cF) (by omega)
  have Rf:=hM.far.upd (Upd.set h' h7.length cF) (by omega)
  have ret:∀ h'',Upd (fun i=>i=h2.length∨i=h3.length) (h'.set h7.length cF) h''→aK h Q (.tu [iN (Infl.matchP s a).1,iN (Infl.matchP s a).2]) h'':=by
   intro h'' U''
   have Uall:Upd (fun _=>False) h h'':=(hbase.trans Ud fun i hi e=>by omega).trans U'' fun i hi e=>by omega
   exact eC rfl ⟨Uall.1,fun i hi=>Uall.2 i hi fun h=>h⟩ hq
  have tail:aB (p1 h2.length) (h'.set h7.length cF) (fun v73=>asI .i64 v73 fun n74=>aB (p1 h3.length) (h'.set h7.length cF) fun v75=>asI .i64 v75 fun n76=>
    aV 1 (p1 h2.length) (AV.i .i64 n74) (h'.set h7.length cF) fun h77=>aB (p1 h3.length) h77 fun v78=>asI .i64 v78 fun n79=>((AV.i .i64 n76)=(AV.i .i64 n79) ∧
    (aV 1 (p1 h3.length) (AV.i .i64 n76) h77 fun h80=>aB (p1 h2.length) h80 fun v82=>aB (p1 h3.length) h80 fun v83=>aK h Q (AV.tu [v82,v83]) h80))):=by
   refine aE Rn rfl rfl (aD (aE Rf rfl rfl (aD ?_)))
   refine aT Rn rfl Nat.one_pos (hk:=fun h8 l8 U8 R8=>?_)
   have Rf8:=Rf.upd U8 (by omega)
   refine aE Rf8 rfl rfl (aD ⟨rfl, ?_⟩)
   refine aT Rf8 rfl Nat.one_pos (hk:=fun h9 l9 U9 R9=>?_)
   refine aE (R8.upd U9 (by omega)) rfl rfl (aE R9 rfl rfl (ret h9 ?_))
   exact (U8.mono fun i _ e=>.inl e).trans U9 fun i _ e=>.inr e
  rcases hE with M | M
  ·exact .inl ⟨M.gh,tail⟩
  ·exact .inr (.inl ⟨M.gh,tail⟩)
end
end Go.Proofs.YtpaphfeihpgamaaDoor
namespace Go.Proofs.YtpaphfeihpgamaaDoor
open Go.GAM
def dY (h:aA) (id N:Nat) (ex:Bool) (bs:List UInt8):Prop:=∃ b:ABlk,h[id]? = some b∧b.sz=1∧b.cells.length=N∧b.floor≤N∧b.ro=false∧(ex=true→b.ex=true)∧bs.length≤N∧b.cells.take bs.length=bs.map byteAV
theorem dY.lt {h:aA} {id N:Nat} {ex:Bool} {bs:List UInt8} (B:dY h id N ex bs):id<h.length:=by obtain ⟨b,h1,_⟩:=B; exact aN h1
theorem dY.upd {M:Nat→Prop} {h h':aA} {id N:Nat} {ex:Bool} {bs:List UInt8} (B:dY h id N ex bs) (U:Upd M h h') (hM:¬ M id):dY h' id N ex bs:=by
 have hl:=B.lt
 obtain ⟨b,h1,h2⟩:=B
 exact ⟨b,(U.2 id hl hM).trans h1,h2⟩
theorem dY.copy {h:aA} {id N:Nat} {ex:Bool} {bs ns:List UInt8} {x:AV} (B:dY h id N ex bs) (hN:bs.length+ns.length≤N) {c:Option Nat} (hx:∀ K:List AV→Nat→Prop,K (ns.map byteAV) ns.length→eI 1 x h K) {K:AV→aA→Prop}
  (hk:∀ h',h'.length=h.length→Upd (· = id) h h'→dY h' id N ex (bs++ns)→K (iN ns.length) h'):iA 1 (.sl (some ⟨id,N,bs.length⟩) ns.length c) x h K:=by
 have hl:=B.lt
 obtain ⟨b,h1,h2,h3,h4,h5,h6,h7,h8⟩:=B
 refine ⟨Nat.one_pos,hx _ ⟨b,h1,h2,⟨h4,by show N≤b.cells.length; omega,by show bs.length+ns.length * 1≤N; omega⟩,h5,h3.symm, ?_, ?_⟩⟩
 ·rw [List.all_eq_true]
  intro v hv
  obtain ⟨c,_,rfl⟩:=List.mem_map.1 (List.mem_of_mem_take hv)
  rfl
 ·have e1 : (ns.map byteAV).take (min ns.length ns.length * 1) = ns.map byteAV := List.take_of_length_le (by simp)
  rw [e1,Nat.min_self]
  refine hk _ (by simp) (Upd.set _ _ _) ⟨_,List.getElem?_set_self hl,h2, ?_, ?_,h5,h6,by rw [List.length_append]; exact hN, ?_⟩
  ·rw [eA]; exact h3
  ·show b.cells.length≤N; omega
  ·show (wr b.cells bs.length (ns.map byteAV)).take _ = _
   have e2:b.cells=bs.map byteAV++b.cells.drop bs.length:=by rw [← h8,List.take_append_drop]
   have e3:bs.length=(bs.map byteAV).length:=by simp
   rw [e2]
   conv=>lhs; arg 2; arg 2; rw [e3]
   rw [pF _ _ _ (by simp; omega),List.length_append, ← List.append_assoc,List.take_append_of_le_length (by simp),List.take_of_length_le (by simp),List.map_append]
def iK (h:aA) (d:Nat) (v:AV):Prop:=bD h d [v,iN 0,.i .i8 0]
abbrev bp (d:Nat):AV:=.p (some ⟨d,3,0⟩)
section
variable [XR] {h:aA} {Q:AV→aA→Prop} {d id N:Nat} {bs ns:List UInt8}
def tE [XR]:Prop:=∀ (h:aA) (Q:AV→aA→Prop) (id N n:Nat) (bs:List UInt8),dY h id N true bs→N≤1000→1≤n→n≤1000000000000 →
 (∀ h' N',Upd (fun _=>False) h h'→h.length<h'.length→bs.length+n≤N'→dY h' h.length N' false bs→Q (.sl (some ⟨h.length,N',0⟩) bs.length none) h')→C Y49.id [.sl (some ⟨id,N,0⟩) bs.length none,iN n] h Q
theorem aDT {K:AV→aA→Prop} (hk:K (.i .i64 0) h):s0 1 (.sl none 0 none) h K:=hk
theorem aBM {K:AV→Prop} {t:TypeId} (ht:aAL prog t=true) (hk:K (.b true)):eG prog .eql t (.sl none 0 none) (.sl none 0 none) K:=by
 simp only [eG,ht,cond_true]; exact hk
theorem yN {K:AV→Prop} {t:TypeId} {a:AA} {n:Nat} {c:Option Nat} (ht:aAL prog t=true) (hk:K (.b false)):eG prog .eql t (.sl (some a) n c) (.sl none 0 none) K:=by
 simp only [eG,ht,cond_true]; exact hk
theorem aB4 {l:List UInt8} {K:List AV→Nat→Prop} (hk:K (l.map byteAV) l.length):eI 1 (.s l) h K:=⟨rfl,hk⟩
theorem xP (R:iK h d (.sl none 0 none)) {n:Nat} (hn:0<n) (hq:Q (.tu [iN 0,.b false]) h):C Y37.id [bp d,iN n] h Q:=by
 refine Y37.call ?_
 simp only [Y37.t,bJ,bE]
 refine aE R rfl rfl (mN (aE R rfl rfl (aDT ?_)))
 refine aD (aG (n:=0) rfl ?_)
 exact aX (decide_eq_false (by omega)) (.inl hq)
theorem mI {id N l:Nat} (B:dY h id N true bs) {K:AV→aA→Prop} (hk:K (iN N) h):s0 1 (.sl (some ⟨id,N,0⟩) l none) h K:=by
 obtain ⟨b,h1,h2,h3,h4,h5,h6,h7,h8⟩:=B
 exact .inl ⟨b,N,h1,by omega,h6 rfl,h3.symm,h2,Nat.one_pos,by show 0+N * 1=b.cells.length; omega,hk⟩
theorem aA4 {ex:Bool} {id N l j:Nat} (B:dY h id N ex bs) (hj:j≤N) {K:AV→Prop} (hk:K (.sl (some ⟨id,N,0⟩) j none)):bG 1 (.sl (some ⟨id,N,0⟩) l none) none (some (iN j)) none h K:=by
 obtain ⟨b,h1,h2,h3,h4,h5,h6,h7,h8⟩:=B
 refine ⟨Nat.one_pos,fun h=>by simp at h,by omega,by simp,b,h1,by omega,by show b.floor≤N; omega,.inl h2, ?_⟩
 refine ⟨.inr (.inl ⟨rfl,by simp; omega⟩), ?_⟩
 simpa using hk
theorem oM {ex:Bool} {id N l i:Nat} (B:dY h id N ex bs) (hi:i≤l) {K:AV→Prop} (hk:K (.sl (some ⟨id,N,i⟩) (l - i) none)):bG 1 (.sl (some ⟨id,N,0⟩) l none) (some (iN i)) none none h K:=by
 obtain ⟨b,h1,h2,h3,h4,h5,h6,h7,h8⟩:=B
 refine ⟨Nat.one_pos,fun h=>by simp at h,by omega,by simp; omega,b,h1,by omega,by show b.floor≤N; omega,.inl h2, ?_⟩
 refine ⟨.inl (Nat.le_refl _), ?_⟩
 simpa using hk
theorem aC1 (R:iK h d (.sl (some ⟨id,N,0⟩) bs.length none)) (B:dY h id N true bs) (hne:d≠id) {n:Nat} (hN:N≤1000) (hn:bs.length+n≤N)
  (hq:∀ h',Upd (· = d) h h'→iK h' d (.sl (some ⟨id,N,0⟩) (bs.length+n) none)→Q (.tu [iN bs.length,.b true]) h'):C Y37.id [bp d,iN n] h Q:=by
 refine Y37.call ?_
 simp only [Y37.t,bJ,bE]
 refine aE R rfl rfl (mN (aE R rfl rfl (mI B (aD ?_))))
 refine aG (n:=((N - bs.length:Nat):Int)) (by rw [aL (by omega) (by omega)]; omega) ?_
 refine bA (decide_eq_true (by omega)) (aE R rfl rfl ?_)
 refine aG (n:=((bs.length+n:Nat):Int)) (by rw [aL (by omega) (by omega)]; omega) ?_
 refine aA4 B hn ?_
 exact aT R rfl (by show 0<3; decide) (hk:=fun h1 l1 U1 R1=>.inl (hq h1 U1 R1))
theorem aCK (R:iK h d (.sl (some ⟨id,N,0⟩) bs.length none)) (B:dY h id N true bs) {n:Nat} (hN:N≤1000) (hn2:n≤1099511627776) (hn:N<bs.length+n)
  (hq:Q (.tu [iN 0,.b false]) h):C Y37.id [bp d,iN n] h Q:=by
 have hbN:bs.length≤N:=by obtain ⟨b,_,_,_,_,_,_,h7,_⟩:=B; exact h7
 refine Y37.call ?_
 simp only [Y37.t,bJ,bE]
 refine aE R rfl rfl (mN (aE R rfl rfl (mI B (aD ?_))))
 refine aG (n:=((N - bs.length:Nat):Int)) (by rw [aL (by omega) (by omega)]; omega) ?_
 exact aX (decide_eq_false (by omega)) (.inl hq)
theorem aDY (R:iK h d (.sl none 0 none)) (hq:Q (iN 0) h):C Y39.id [bp d] h Q:=by
 refine Y39.call ?_
 simp only [Y39.t,bJ,bE]
 exact aE R rfl rfl (mN (aE R rfl rfl (aD (aG (n:=0) rfl (.inl hq)))))
theorem aE0 {a:AA} {l:Nat} (R:iK h d (.sl (some a) l none)) (hl:l<1099511627776) (hq:Q (iN l) h):C Y39.id [bp d] h Q:=by
 refine Y39.call ?_
 simp only [Y39.t,bJ,bE]
 exact aE R rfl rfl (mN (aE R rfl rfl (aD (aG (n:=(l:Int)) (by rw [aL (by omega) (by omega)]; omega) (.inl hq)))))
theorem aC0 (R:iK h d (.sl none 0 none)) {n:Nat} (h0:0<n) (hn:n≤64)
  (hq:∀ h' id,Upd (· = d) h h'→h.length≤id→iK h' d (.sl (some ⟨id,64,0⟩) n none)→dY h' id 64 true []→Q (iN 0) h'):C Y4.id [bp d,iN n] h Q:=by
 refine Y4.call ?_
 simp only [Y4.t, ← Y4.p0.eq_1,bJ,bE]
 refine aDY R (aD (bA rfl ?_))
 refine aE R rfl rfl (aD ?_)
 refine Y4.i0 ?_
 simp only [Y4.t0, ← Y4.p1.eq_1]
 refine aX rfl ?_
 refine Y4.i1 ?_
 simp only [Y4.t1, ← Y4.p2.eq_1,bJ,bE]
 refine xP R h0 ?_
 simp only [d7,dW]
 refine aD (bP (aX rfl (aE R rfl rfl (aBM (by kernel_rfl) ?_))))
 refine bP (bA rfl ?_)
 refine Y4.i2 ?_
 simp only [Y4.t2,bJ,bE]
 refine bA (decide_eq_true (by omega)) ?_
 refine ⟨by omega,by omega,by decide,by decide,rfl,Nat.one_pos, ?_⟩
 rw [Int.toNat_natCast]
 have U1:Upd (fun _=>False) h (h++[aY (List.replicate (64:Int).toNat [AV.i .u8 0]).flatten 1 true]):=Upd.app _ _
 refine aT (R.upd U1 fun h=>h) rfl (by show 0<3; decide) (hk:=fun h2 l2 U2 R2=>?_)
 refine .inl (hq h2 h.length ((U1.mono fun _ _ h=>h.elim).trans U2 fun _ _ h=>h) (Nat.le_refl _) R2 ?_)
 have hd:=R.lt
 refine dY.upd (h:=h++[aY (List.replicate (64:Int).toNat [AV.i .u8 0]).flatten 1 true]) ⟨_,by simp; rfl,rfl,rfl,Nat.le_refl _,rfl,fun _=>rfl,Nat.zero_le _,rfl⟩ U2 (by omega)
theorem z3 (hG:tE) (R:iK h d (.sl (some ⟨id,64,0⟩) bs.length none)) (B:dY h id 64 true bs) (hne:d≠id) {n:Nat} (h0:0<bs.length) (hn2:n≤1000000000000) (hn:64<bs.length+n)
  (hq:∀ h' N',Upd (· = d) h h'→h.length<h'.length→bs.length+n≤N'→iK h' d (.sl (some ⟨h.length,N',0⟩) (bs.length+n) none)→dY h' h.length N' false bs→Q (iN bs.length) h'):C Y4.id [bp d,iN n] h Q:=by
 have hbN:bs.length≤64:=by obtain ⟨b,_,_,_,_,_,_,h7,_⟩:=B; exact h7
 have hd:=R.lt
 refine Y4.call ?_
 simp only [Y4.t, ← Y4.p0.eq_1,bJ,bE]
 refine aE0 R (by omega) (aD (aX (decide_eq_false (by omega)) ?_))
 refine Y4.i0 ?_
 simp only [Y4.t0, ← Y4.p1.eq_1]
 refine aX rfl ?_
 refine Y4.i1 ?_
 simp only [Y4.t1, ← Y4.p2.eq_1,bJ,bE]
 refine aCK R B (by decide) (by omega) (by omega) ?_
 simp only [d7,dW]
 refine aD (bP (aX rfl (aE R rfl rfl (yN (by kernel_rfl) ?_))))
 refine bP (aX rfl ?_)
 refine Y4.i2 ?_
 simp only [Y4.t2, ← Y4.p3.eq_1,bJ,bE]
 refine aX rfl (aE R rfl rfl (mI B (aD ?_)))
 refine iH (n:=32) (by decide) (by decide) ?_
 refine aG (n:=32 - (bs.length:Int)) (aL (by omega) (by omega)) ?_
 refine aX (decide_eq_false (by omega)) ?_
 refine aG (n:=9223372036854775743) (by decide) ?_
 refine aG (n:=9223372036854775743 - (n:Int)) (aL (by omega) (by omega)) ?_
 refine aX (decide_eq_false (by omega)) ?_
 refine aE R rfl rfl (aE R rfl rfl (aD ?_))
 refine oM B (Nat.zero_le _) (aE R rfl rfl (aD ?_))
 refine aG (n:=(n:Int)) (by rw [aL (by omega) (by omega)]; simp) ?_
 refine hG h _ id 64 n bs B (by decide) (by omega) hn2 fun h1 N' U1 l1 hN' B1=>?_
 refine aT (R.upd U1 fun h=>h) rfl (by show 0<3; decide) (hk:=fun h2 l2 U2 R2=>?_)
 refine Y4.i3 ?_
 simp only [Y4.t3,bJ,bE]
 refine aT R2 rfl (by show 1<3; decide) (hk:=fun h3 l3 U3 R3=>?_)
 refine aE R3 rfl rfl ?_
 refine aG (n:=((bs.length+n:Nat):Int)) (by rw [aL (by omega) (by omega)]; omega) ?_
 have B3:dY h3 h.length N' false bs:=(B1.upd U2 (by omega)).upd U3 (by omega)
 refine aA4 B3 hN' ?_
 refine aT R3 rfl (by show 0<3; decide) (hk:=fun h4 l4 U4 R4=>?_)
 refine .inl (hq h4 N' ((((U1.mono fun _ _ h=>h.elim).trans U2 fun _ _ h=>h).trans U3 fun _ _ h=>h).trans U4 fun _ _ h=>h) (by omega) hN' R4 (B3.upd U4 (by omega)))
theorem uC (R:iK h d (.sl none 0 none)) {x:AV} {n0:0<ns.length} (hn:ns.length≤64) (B:Rd 1 h x (ns.map byteAV) ns.length) (hx:¬ aS x d)
  (hq:∀ h' id,Upd (· = d) h h'→h.length≤id→iK h' d (.sl (some ⟨id,64,0⟩) ns.length none)→dY h' id 64 true ns→Q (.tu [iN ns.length,.ni]) h'):C Y35.id [bp d,x] h Q:=by
 refine Y35.call ?_
 simp only [Y35.t, ← Y35.p0.eq_1,bJ,bE]
 refine aT R rfl (by show 2<3; decide) (hk:=fun h1 l1 U1 R1=>?_)
 have R1:iK h1 d (.sl none 0 none):=R1
 have B1:=B.upd U1 fun i hi e=>hx (e ▸ hi)
 refine B1.len (xP R1 n0 ?_)
 simp only [d7,dW]
 refine aD (bP (bA rfl (B1.len ?_)))
 refine aC0 R1 n0 hn fun h2 id U2 hid R2 B2=>aD ?_
 refine Y35.i0 ?_
 simp only [Y35.t0,bJ,bE]
 refine aE R2 rfl rfl (oM B2 (Nat.zero_le _) ?_)
 have Bx2:=B1.upd U2 fun i hi e=>hx (e ▸ hi)
 refine dY.copy (bs:=[]) (ns:=ns) B2 (by simpa using hn) (fun K hk=>Bx2.news hk) fun h3 l3 U3 B3=>aD (.inl ?_)
 have hd:=R.lt
 refine hq h3 id ((U1.trans U2 fun _ _ h=>h).trans U3 fun i hi e=>by omega) (by omega) (R2.upd U3 (by omega)) B3
theorem wZ (hG:bs.length+ns.length≤64∨tE) (R:iK h d (.sl (some ⟨id,64,0⟩) bs.length none)) (B:dY h id 64 true bs) (hne:d≠id) (h0:0<bs.length) (hn2:ns.length≤1000000000000)
  (hq:∀ h' id' N ex,Upd (fun i=>i=d∨i=id) h h'→(id'=id∨h.length≤id')→iK h' d (.sl (some ⟨id',N,0⟩) (bs.length+ns.length) none)→dY h' id' N ex (bs++ns)→Q (.tu [iN ns.length,.ni]) h'):C Y30.id [bp d,.s ns] h Q:=by
 have hbN:bs.length≤64:=by obtain ⟨b,_,_,_,_,_,_,h7,_⟩:=B; exact h7
 refine Y30.call ?_
 simp only [Y30.t, ← Y30.p0.eq_1,bJ,bE]
 refine aT R rfl (by show 2<3; decide) (hk:=fun h1 l1 U1 R1=>?_)
 have R1:iK h1 d (.sl (some ⟨id,64,0⟩) bs.length none):=R1
 have B1:=B.upd U1 fun e=>hne e.symm
 have hd:=R.lt
 have hidl:=B.lt
 have fin:∀ h2 id' N ex,Upd (fun i=>i=d∨i=id) h h2→(id'=id∨h.length≤id')→iK h2 d (.sl (some ⟨id',N,0⟩) (bs.length+ns.length) none)→dY h2 id' N ex bs→bs.length+ns.length≤N→Y30.p0 (aK h Q) (bp d) ns bs.length h2:=by
  intro h2 id' N ex U2 hid' R2 B2 hN
  refine Y30.i0 ?_
  simp only [Y30.t0,bJ,bE]
  refine aE R2 rfl rfl (oM B2 (Nat.le_add_right _ _) ?_)
  rw [Nat.add_sub_cancel_left]
  have hdi:d≠id':=by omega
  refine B2.copy hN (fun K hk=>aB4 hk) fun h3 l3 U3 B3=>aD (.inl ?_)
  exact hq h3 id' N ex (U2.trans U3 fun i hi e=>by omega) hid' (R2.upd U3 hdi) B3
 by_cases hc:bs.length+ns.length≤64
 ·refine aC1 R1 B1 hne (by decide) hc fun h2 U2 R2 => ?_
  simp only [d7,dW]
  refine aD (bP (aX rfl ?_))
  exact fin h2 id 64 true ((U1.mono fun _ _ e=>.inl e).trans U2 fun i _ e=>.inl e) (.inl rfl) R2 (B1.upd U2 fun e=>hne e.symm) hc
 ·refine aCK R1 B1 (by decide) (by omega) (by omega) ?_
  simp only [d7,dW]
  refine aD (bP (bA rfl ?_))
  refine z3 (hG.resolve_left hc) R1 B1 hne h0 hn2 (by omega) fun h2 N' U2 l2 hN' R2 B2=>aD ?_
  exact fin h2 _ N' false ((U1.mono fun _ _ e=>.inl e).trans U2 fun i _ e=>.inl e) (.inr (by omega)) R2 B2 hN'
theorem aFR {ex:Bool} (R:iK h d (.sl (some ⟨id,N,0⟩) bs.length none)) (B:dY h id N ex bs) (hq:Q (.s bs) h):C Y63.id [bp d] h Q:=by
 refine Y63.call ?_
 simp only [Y63.t,bJ,bE]
 refine j9 (by kernel_rfl) (bP (aX rfl (aE R rfl rfl (aE R rfl rfl (aD ?_)))))
 refine oM B (Nat.zero_le _) ?_
 rw [Nat.sub_zero]
 obtain ⟨b,h1,h2,h3,h4,h5,h6,h7,h8⟩:=B
 have Rb:Byt h (.sl (some ⟨id,N,0⟩) bs.length none) bs:=.inr ⟨id,N,0,none,b,rfl,h1,.inl h2,h4,by omega,by omega,by rw [List.drop_zero,Nat.mul_one]; exact h8⟩
 exact Rb.str (.inl hq)
end
end Go.Proofs.YtpaphfeihpgamaaDoor
namespace Go.Proofs.YtpaphfeihpgamaaDoor
open Go.GAM
theorem dY.rd {h:aA} {id N:Nat} {ex:Bool} {bs:List UInt8} (B:dY h id N ex bs):Rd 1 h (.sl (some ⟨id,N,0⟩) bs.length none) (bs.map byteAV) bs.length:=by
 obtain ⟨b,h1,h2,h3,h4,h5,h6,h7,h8⟩:=B
 exact .inr ⟨id,N,0,none,b,rfl,h1,.inl h2,h4,by omega,by omega,by rw [List.drop_zero,Nat.mul_one]; exact h8⟩
theorem vS:kQ prog Y81.id:=tF (fn:=Tryd.f102) Tryd.func102 (by kernel_rfl)
section
attribute [local instance] xr0
theorem aE7 {h : aA} {Q : AV → aA → Prop} {id N n : Nat} {bs : List UInt8} (B : dY h id N true bs) (hN : N ≤ 1000) (h1 : 1 ≤ n) (hn : n ≤ 1000000000000)
  (hq:∀ h' N',Upd (fun _=>False) h h'→h.length<h'.length→bs.length+n≤N'→dY h' h.length N' false bs→Q (.sl (some ⟨h.length,N',0⟩) bs.length none) h'):aFC prog (@C xr0) Y49.id [.sl (some ⟨id,N,0⟩) bs.length none,iN n] h Q:=by
 have hbN:bs.length≤N:=by obtain ⟨b,_,_,_,_,_,_,h7,_⟩:=B; exact h7
 have tail:∀ M:Nat,bs.length+n≤M→M≤1099511627776→fO (some 5) 1 1 [AV.i .u8 0] (AV.sl none 0 none) (.i .i64 (M:Int)) h fun v16 h17=>iA 1 v16 (.sl (some ⟨id,N,0⟩) bs.length none) h17 fun v19 h20=>
   asI .i64 v19 fun n21=>bG 1 v16 none (some (AV.i .i64 n21)) none h20 fun v23=>(([]:List AV)=[]∧kQ prog Y81.id∧aK h Q v23 h20):=by
  intro M h2 h3
  refine ⟨by omega,by omega,by omega,Nat.one_pos,rfl, ?_⟩
  rw [Int.toNat_natCast,Nat.mul_one]
  have U1:Upd (fun _=>False) h (h++[aY (List.replicate M [AV.i .u8 0]).flatten 1 false (some 5)]):=Upd.app _ _
  have hlen:(List.replicate M [AV.i .u8 0]).flatten.length=M:=by rw [pY,List.length_replicate]
  have hb:(h++[aY (List.replicate M [AV.i .u8 0]).flatten 1 false (some 5)])[h.length]? = some (aY (List.replicate M [AV.i .u8 0]).flatten 1 false (some 5)):=by simp
  generalize hH:h++[aY (List.replicate M [AV.i .u8 0]).flatten 1 false (some 5)]=H at U1 hb ⊢
  have hl:H.length=h.length+1:=by rw [← hH]; simp
  have hid:=B.lt
  refine ⟨Nat.one_pos,(B.rd.upd U1 fun _ _ h=>h).news ?_⟩
  refine ⟨_,hb,rfl,⟨by show (aY _ _ _ _).floor≤M; simp only [aY]; omega,by show M≤_; simp only [aY]; omega,by show 0+M * 1≤M; omega⟩,rfl,hlen.symm, ?_, ?_⟩
  ·rw [List.all_eq_true]
   intro v hv
   obtain ⟨c,_,rfl⟩:=List.mem_map.1 (List.mem_of_mem_take hv)
   rfl
  ·have e1 : min bs.length M = bs.length := by omega
   have e2:(bs.map byteAV).take (bs.length * 1)=bs.map byteAV:=List.take_of_length_le (by simp)
   rw [e1,e2]
   refine aD ?_
   have B2:dY (H.set h.length { (aY (List.replicate M [AV.i .u8 0]).flatten 1 false (some 5)) with cells:=wr (aY (List.replicate M [AV.i .u8 0]).flatten 1 false (some 5)).cells 0 (bs.map byteAV),floor:=(aY (List.replicate M [AV.i .u8 0]).flatten 1 false (some 5)).cells.length }) h.length M false bs:=by
    refine ⟨_,List.getElem?_set_self (by omega),rfl, ?_, ?_,rfl,fun h=>(by cases h),by omega, ?_⟩
    ·show (wr _ _ _).length = M
     rw [eA]; exact hlen
    ·show (aY _ _ _ _).cells.length ≤ M
     simp only [aY]; omega
    ·show (wr (List.replicate M [AV.i .u8 0]).flatten 0 (bs.map byteAV)).take _ = _
     have:=pF (bs.map byteAV) [] (List.replicate M [AV.i .u8 0]).flatten (by rw [hlen]; simp; omega)
     rw [List.nil_append,List.nil_append,List.length_nil] at this
     rw [this,List.take_append_of_le_length (by simp),List.take_of_length_le (by simp)]
   have U2:=Upd.set H h.length { (aY (List.replicate M [AV.i .u8 0]).flatten 1 false (some 5)) with cells:=wr (aY (List.replicate M [AV.i .u8 0]).flatten 1 false (some 5)).cells 0 (bs.map byteAV),floor:=(aY (List.replicate M [AV.i .u8 0]).flatten 1 false (some 5)).cells.length }
   refine aA4 B2 (by omega) ⟨rfl,vS,.inl (hq _ M (U1.own U2 (Nat.le_refl _)) ?_ h2 B2)⟩
   rw [List.length_set]; omega
 refine Y49.callC ?_
 unfold Y49.tC
 refine mN ?_
 refine aG (n:=((bs.length+n:Nat):Int)) (by rw [aL (by omega) (by omega)]; omega) ?_
 refine mI B (aD ?_)
 refine aG (n:=((2 * N:Nat):Int)) (by rw [aL (by omega) (by omega)]; omega) ?_
 refine aM (fun e=>?_) fun e=>?_
 ·have e : bs.length + n < 2 * N := by have := of_decide_eq_true e; omega
  refine mI B (aD ?_)
  refine aG (n:=((2 * N:Nat):Int)) (by rw [aL (by omega) (by omega)]; omega) ?_
  exact tail (2 * N) (by omega) (by omega)
 ·exact tail (bs.length+n) (Nat.le_refl _) (by omega)
end
end Go.Proofs.YtpaphfeihpgamaaDoor
namespace Go.Proofs.YtpaphfeihpgamaaDoor
open Go.GAM
open Go.Infl (cA d6 cH Out Lim)
theorem wrap_u64 {n:Int} (h0:0≤n) (h1:n<18446744073709551616):IntKind.wrap .u64 n=n:=by
 have e:IntKind.wrap .u64 n=n % 18446744073709551616:=by simp [IntKind.wrap,IntKind.signed,IntKind.bits]
 rw [e]; omega
structure RS where
 at':Nat
 outv:AV
 short:Bool
 e:Int
section
variable [XR] {h:aA} {Q:AV→aA→Prop} {L:Lim} {s:List UInt8} {d:Nat} {r:RS} {out:List UInt8} {F:Infl.Fin}
end
end Go.Proofs.YtpaphfeihpgamaaDoor
namespace Go.Proofs.YtpaphfeihpgamaaDoor
open Go.GAM
open Go.Infl (cA d6 cH Out Lim)
section
variable [XR] {h:aA} {Q:AV→aA→Prop} {v:AV} {l:List Nat}
theorem wW (R:RdI 1 h v (bB l) l.length) (hl:l.length≤320) (hq:Q (iN (Huff.used l)) h) {h0':aA}:∀ (m i:Nat),i+m=l.length→Y15.p0 (aK h0' Q) v (Huff.used (l.take i)) i h:=by
 intro m
 induction m with
 | zero =>
  intro i hi
  obtain rfl:i=l.length:=by omega
  rw [List.take_length]
  refine Y15.i0 ?_
  simp only [Y15.t0]
  exact R.len (aX (by simp) (.inl hq))
 | succ m ih =>
  intro i hi
  obtain ⟨x,hx⟩:∃ x,l[i]? = some x:=⟨_,List.getElem?_eq_getElem (by omega)⟩
  have nxt:=ih (i+1) (by omega)
  rw [dK hx,rJ] at nxt
  have k2:=yE (l.take i)
  rw [List.length_take] at k2
  refine Y15.i0 ?_
  simp only [Y15.t0, ← Y15.p1.eq_1]
  refine R.len (bA (by simp; omega) (dT R hx ?_))
  refine aM ?_ ?_ <;> intro e
  ·have e : 0 < x := by simp at e; omega
   rw [if_pos e] at nxt
   refine inc (by omega) (Y15.i1 ?_)
   simp only [Y15.t1, ← Y15.p0.eq_1]
   exact inc (by omega) nxt
  ·have e : ¬ 0 < x := by simp at e; omega
   rw [if_neg e] at nxt
   refine Y15.i1 ?_
   simp only [Y15.t1, ← Y15.p0.eq_1]
   exact inc (by omega) nxt
theorem aD6 (R:RdI 1 h v (bB l) l.length) (hl:l.length≤320) (hq:Q (iN (Huff.used l)) h):C Y15.id [v] h Q:=by
 refine Y15.call ?_
 simp only [Y15.t, ← Y15.p0.eq_1]
 exact wW R hl hq l.length 0 (by omega)
def m9 (n:Nat):Int:=match n with
 | 0=>0
 | 1=>2
 | _=>1
theorem iI {h0':aA} {e:Bool} (he:e=decide (Huff.kr l 15=32768∨Huff.used l=0∨Huff.used l=1∧Huff.kr l 15=16384)) (hk:Huff.kr l 15≤32768) (hq:Q (.i .i64 (m9 (Huff.checkR l))) h):Y7.p3 (aK h0' Q) e h:=by
 refine Y7.i3 ?_
 simp only [Y7.t3]
 unfold Huff.checkR at hq
 rw [if_neg (show ¬ 2 ^ 15<Huff.kr l 15 by omega)] at hq
 by_cases hc:Huff.kr l 15=2 ^ 15∨Huff.used l=0∨Huff.used l=1∧Huff.kr l 15=2 ^ 14
 ·rw [if_pos hc] at hq
  exact bA (by rw [he]; exact decide_eq_true hc) (.inl hq)
 ·rw [if_neg hc] at hq
  exact aX (by rw [he]; exact decide_eq_false hc) (.inl hq)
theorem uD {h0' : aA} (R : RdI 1 h v (bB l) l.length) (hl : l.length ≤ 320) (h15 : ∀ x ∈ l, x ≤ 15) (hq : Q (.i .i64 (m9 (Huff.checkR l))) h) : ∀ (m i : Nat), i + m = l.length → Y7.p0 (aK h0' Q) v (Huff.kr (l.take i) 15) i h := by
  intro m
  induction m with
  | zero =>
    intro i hi
    obtain rfl:i=l.length:=by omega
    rw [List.take_length]
    refine Y7.i0 ?_
    simp only [Y7.t0, ← Y7.p3.eq_1]
    refine R.len (aX (by simp) (aD6 R hl (aD ?_)))
    refine aM ?_ ?_ <;> intro e
    · have e : 32768 < Huff.kr l 15 := by simp at e; omega
      unfold Huff.checkR at hq
      rw [if_pos (show 2 ^ 15<Huff.kr l 15 from e)] at hq
      exact .inl hq
    · have e : Huff.kr l 15 ≤ 32768 := by simp at e; omega
      refine aM ?_ ?_ <;> intro e1
      · refine iI ?_ e hq
        simp only [decide_eq_true_eq] at e1
        exact (decide_eq_true (by omega)).symm
      · simp only [decide_eq_false_iff_not] at e1
        refine aM ?_ ?_ <;> intro e2
        · simp only [decide_eq_true_eq] at e2
          exact iI (decide_eq_true (by omega)).symm e hq
        · simp only [decide_eq_false_iff_not] at e2
          refine aM ?_ ?_ <;> intro e3
          · simp only [decide_eq_true_eq] at e3
            refine iI ?_ e hq
            rw [decide_eq_decide]; omega
          · simp only [decide_eq_false_iff_not] at e3
            exact iI (decide_eq_false (by omega)).symm e hq
  | succ m ih =>
    intro i hi
    obtain ⟨x,hx⟩:∃ x,l[i]? = some x:=⟨_,List.getElem?_eq_getElem (by omega)⟩
    have hx15:x≤15:=h15 x (List.mem_of_getElem? hx)
    have nxt:=ih (i+1) (by omega)
    rw [dK hx,sO] at nxt
    have k1:=aBW (L:=15) (l.take i)
    rw [List.length_take] at k1
    have k3:min i l.length * 2 ^ 15≤320 * 32768:=Nat.mul_le_mul (by omega) (by decide)
    refine Y7.i0 ?_
    simp only [Y7.t0, ← Y7.p1.eq_1]
    refine R.len (bA (by simp; omega) (dT R hx (aX (by simp) (dT R hx ?_))))
    refine Y7.i1 ?_
    simp only [Y7.t1, ← Y7.p2.eq_1]
    refine aX (by simp; omega) (dT R hx ?_)
    refine aM ?_ ?_ <;> intro e
    · have e : 0 < x := by simp at e; omega
      rw [if_pos ⟨e,hx15⟩] at nxt
      have hp:2 ^ (15 - x)≤32768:=Nat.pow_le_pow_right (n:=2) (by decide) (show 15 - x≤15 by omega)
      refine dT R hx ?_
      refine cQ (n:=((15 - x:Nat):Int)) (by omega) (by omega) (by omega) ?_
      rw [wrap_u64 (by omega) (by omega)]
      have sh:∀ K:Int→Prop,K ((2 ^ (15 - x):Nat):Int)→jS .i64 1 ((15 - x:Nat):Int) K:=fun K hk=>iR (a:=1) (b:=15 - x) (by omega) (by rw [Nat.one_mul]; omega) (by rw [Nat.one_mul]; exact hk)
      refine sh _ ?_
      generalize 2 ^ (15 - x)=pw at hp nxt
      refine cQ (n:=((Huff.kr (l.take i) 15+pw:Nat):Int)) (by omega) (by omega) (by omega) ?_
      refine Y7.i2 ?_
      simp only [Y7.t2, ← Y7.p0.eq_1]
      exact inc (by omega) nxt
    · have e : x = 0 := by simp at e; omega
      subst e
      rw [if_neg (by omega),Nat.add_zero] at nxt
      refine Y7.i2 ?_
      simp only [Y7.t2, ← Y7.p0.eq_1]
      exact inc (by omega) nxt
theorem aCR (R:RdI 1 h v (bB l) l.length) (hl:l.length≤320) (h15:∀ x∈l,x≤15) (hq:Q (.i .i64 (m9 (Huff.checkP l))) h):C Y7.id [v] h Q:=by
 rw [Huff.check_eq h15] at hq
 refine Y7.call ?_
 simp only [Y7.t, ← Y7.p0.eq_1]
 refine R.len (aX (by simp; omega) ?_)
 exact uD R hl h15 hq l.length 0 (by omega)
end
def j1 (l:List Nat) (n i:Nat):List Nat:=(List.range l.length).map fun j=>if 0<l.getD j 0∧(l.getD j 0<n∨l.getD j 0=n∧j<i) then Huff.codeAt l j else 0
theorem pX (l:List Nat) (n i:Nat):(j1 l n i).length=l.length:=by simp [j1]
theorem oK {l:List Nat} {n i j:Nat} (h:j<l.length):(j1 l n i)[j]? = some (if 0<l.getD j 0∧(l.getD j 0<n∨l.getD j 0=n∧j<i) then Huff.codeAt l j else 0):=by simp [j1,h]
theorem nH {l:List Nat} {n i j:Nat} (h:¬ j<l.length):(j1 l n i)[j]? = none:=by rw [List.getElem?_eq_none]; rw [pX]; omega
theorem sS {p q:Prop} [Decidable p] [Decidable q] {a b:Nat} (h:p↔q):(if p then a else b)=if q then a else b:=by
 by_cases hp:p
 ·rw [if_pos hp,if_pos (h.1 hp)]
 ·rw [if_neg hp,if_neg fun x=>hp (h.2 x)]
theorem aA5 {l:List Nat} {n i:Nat} (hi:i<l.length) (h0:0<n) (hn:l.getD i 0=n):(j1 l n i).set i (Huff.codeAt l i)=j1 l n (i+1):=by
 refine List.ext_getElem? fun j=>?_
 rw [List.getElem?_set]
 by_cases hj:j<l.length
 ·have a1 := oK (n := n) (i := i + 1) hj
  have a2:=oK (n:=n) (i:=i) hj
  rw [a1,a2]
  by_cases e:i=j
  ·subst e
   rw [if_pos rfl,if_pos (by rw [pX]; exact hj),if_pos ⟨by omega,.inr ⟨hn,by omega⟩⟩]
  ·rw [if_neg e]
   congr 1
   exact sS ⟨fun h=>⟨h.1,h.2.imp id fun h=>⟨h.1,by omega⟩⟩,fun h=>⟨h.1,h.2.imp id fun h=>⟨h.1,by omega⟩⟩⟩
 ·rw [nH hj,if_neg (by omega),nH hj]
theorem zI {l:List Nat} {n i:Nat} (hn:l.getD i 0≠n):j1 l n (i+1)=j1 l n i:=by
 refine List.map_congr_left fun j _=>sS ?_
 refine ⟨fun h=>⟨h.1,h.2.imp id fun h=>⟨h.1, ?_⟩⟩,fun h=>⟨h.1,h.2.imp id fun h=>⟨h.1,by omega⟩⟩⟩
 rcases Nat.lt_or_ge j i with g | g
 ·exact g
 ·have : j = i := by omega
  exact absurd (this ▸ h.1) hn
theorem zT (l:List Nat) (n:Nat):j1 l (n+1) 0=j1 l n l.length:=by
 refine List.map_congr_left fun j hj=>sS ?_
 have hj:=List.mem_range.1 hj
 omega
theorem yR (l:List Nat):j1 l 1 0=List.replicate l.length 0:=by
 refine List.ext_getElem? fun j=>?_
 by_cases hj:j<l.length
 ·rw [oK hj,if_neg (by omega),List.getElem?_replicate,if_pos hj]
 ·rw [nH hj,List.getElem?_replicate,if_neg hj]
def kY (l:List Nat):List Nat:=j1 l 16 0
theorem zK {l:List Nat} {j:Nat} (h:j<l.length) (h0:0<l.getD j 0) (h15:l.getD j 0≤15):(kY l)[j]? = some (Huff.codeAt l j):=by
 unfold kY
 rw [oK h,if_pos ⟨h0,.inl (by omega)⟩]
section
variable [XR] {h:aA} {Q:AV→aA→Prop} {v:AV} {l:List Nat}
theorem aBX (l:List Nat) (i n:Nat):(l.take i).countP (· == n)≤l.length:=Nat.le_trans List.countP_le_length (by simp; omega)
theorem zN {h0 h0':aA} (hl:l.length≤320) (R0:RdI 1 h0 v (bB l) l.length) {n:Nat} (hn0:0<n) (hn:n≤15) {w:AV}
  (hq:∀ h',Upd (fun _=>False) h0 h'→cM h' (fun i=>h0.length≤i) w (j1 l n l.length)→Y5.p1 (aK h0' Q) v w (Huff.fin l n) ((n+1:Nat):Int) h') :
  ∀ (m i:Nat) (h:aA),i+m=l.length→Upd (fun _=>False) h0 h→cM h (fun i=>h0.length≤i) w (j1 l n i)→Y5.p2 (aK h0' Q) v w ((Huff.fst l n+(l.take i).countP (· == n):Nat):Int) n i h:=by
 intro m
 induction m with
 | zero =>
  intro i h hi U A
  obtain rfl:i=l.length:=by omega
  rw [List.take_length]
  refine Y5.i2 ?_
  simp only [Y5.t2, ← Y5.p1.eq_1]
  refine (R0.ext U).len (aX (by simp) (inc (by omega) ?_))
  have e:Huff.fst l n+l.countP (· == n)=Huff.fin l n:=by
   obtain ⟨k,rfl⟩:∃ k,n=k+1:=⟨n - 1,by omega⟩
   rfl
  rw [e]
  exact hq h U A
 | succ m ih =>
  intro i h hi U A
  obtain ⟨x,hx⟩:∃ x,l[i]? = some x:=⟨_,List.getElem?_eq_getElem (by omega)⟩
  have hg:l.getD i 0=x:=by rw [List.getD_eq_getElem?_getD,hx] <;> rfl
  have c1:=aBX l i n
  have f1:=mW hl hn
  have nxt:∀ h',Upd (fun _=>False) h0 h'→cM h' (fun i=>h0.length≤i) w (j1 l n (i+1))→Y5.p3 (aK h0' Q) v w ((Huff.fst l n+(l.take (i+1)).countP (· == n):Nat):Int) n i h':=fun h' U' A'=>by
   refine Y5.i3 ?_
   simp only [Y5.t3, ← Y5.p2.eq_1]
   exact inc (by omega) (ih (i+1) h' (by omega) U' A')
  rw [dK hx,List.countP_append] at nxt
  refine Y5.i2 ?_
  simp only [Y5.t2, ← Y5.p3.eq_1]
  refine (R0.ext U).len (bA (by simp; omega) (dT (R0.ext U) hx ?_))
  refine aM ?_ ?_ <;> intro e
  ·have e : x = n := by simp at e; omega
   subst e
   refine A.store (by rw [pX]; omega) fun h1 l1 U1 A1=>inc (by omega) ?_
   have hc:Huff.codeAt l i=Huff.fst l x+(l.take i).countP (· == x):=by unfold Huff.codeAt; rw [hg]
   rw [← hc,aA5 (by omega) hn0 hg] at A1
   have hown:∀ j,aS w j→h0.length≤j:=fun j hj=>by obtain ⟨id,b,rfl,_,_,_,_,_,g⟩:=A; have e:id=j:=hj; exact e ▸ g
   have:=nxt h1 (U.ownP U1 hown) A1
   simpa [Nat.add_assoc] using this
  ·have e : ¬ x = n := by simp at e; omega
   have:=nxt h U (by rw [zI (by rw [hg]; exact e)]; exact A)
   simpa [e] using this
theorem vP {h0 h0':aA} (hl:l.length≤320) (R0:RdI 1 h0 v (bB l) l.length) {w:AV} (hq:∀ h',Upd (fun _=>False) h0 h'→cM h' (fun i=>h0.length≤i) w (kY l)→Q w h') :
  ∀ (m n:Nat) (h:aA),n+1+m=16→Upd (fun _=>False) h0 h→cM h (fun i=>h0.length≤i) w (j1 l (n+1) 0)→Y5.p1 (aK h0' Q) v w (Huff.fin l n) ((n+1:Nat):Int) h:=by
 intro m
 induction m with
 | zero =>
  intro n h hn U A
  obtain rfl:n=15:=by omega
  refine Y5.i1 ?_
  simp only [Y5.t1]
  exact aX (by simp) (.inl (hq h U A))
 | succ m ih =>
  intro n h hn U A
  have f1:=mW hl (n:=n+1) (by omega)
  have f2:Huff.fst l (n+1)=2 * Huff.fin l n:=rfl
  refine Y5.i1 ?_
  simp only [Y5.t1, ← Y5.p2.eq_1]
  refine bA (by simp; omega) ?_
  refine cQ (n:=((Huff.fst l (n+1)+(l.take 0).countP (· == n+1):Nat):Int)) (by simp; omega) (by omega) (by simp; omega) ?_
  refine zN hl R0 (n:=n+1) (by omega) (by omega) (fun h' U' A'=>?_) l.length 0 h (by omega) U A
  exact ih (n+1) h' (by omega) U' (by rw [zT]; exact A')
theorem aBT (R:RdI 1 h v (bB l) l.length) (hl:l.length≤320) (h15:∀ x∈l,x≤15) (hok:Huff.checkP l≠1) (hq:∀ h' w,Upd (fun _=>False) h h'→cM h' (fun i=>h.length≤i) w (kY l)→Q w h'):C Y5.id [v] h Q:=by
 have P0:Y5.p0 (aK h Q) v false h:=by
  refine Y5.i0 ?_
  simp only [Y5.t0, ← Y5.p1.eq_1]
  refine aX rfl (R.len ?_)
  refine mG (by omega) fun w h1 U1 A1=>?_
  have:=vP hl R (w:=w) (fun h' U A=>hq h' w U A) 15 0 h1 (by omega) U1 (by rw [yR]; exact A1) (h0':=h)
  exact this
 refine Y5.call ?_
 simp only [Y5.t, ← Y5.p0.eq_1]
 refine aCR R hl h15 (aD ?_)
 have hck:m9 (Huff.checkP l)=0∨m9 (Huff.checkP l)=1:=by
  unfold m9
  split
  ·exact .inl rfl
  ·rename_i e; exact absurd e hok
  ·exact .inr rfl
 rcases hck with e | e
 ·rw [e]; exact aX rfl P0
 ·rw [e]; exact bA rfl P0
end
end Go.Proofs.YtpaphfeihpgamaaDoor
namespace Go.Proofs.YtpaphfeihpgamaaDoor
open Go.GAM
open Go.Infl (cA d6 cH Out Lim)
section
variable [XR] {h:aA} {Q:AV→aA→Prop} {L:Lim} {s:List UInt8} {d:Nat} {r:RS} {out:List UInt8} {F:Infl.Fin}
theorem wC {h0' : aA} {n y : Nat} (hn : n ≤ 1000) : ∀ (m i : Nat) (h : aA) (v : AV) (l : List Nat), i + m = n → l.length + m ≤ 10000 → Exa h v l →
  (∀ h' v',Upd (aS v) h h'→Exa h' v' (l++List.replicate m y)→(∀ i,aS v' i→aS v i∨h.length≤i)→Q v' h')→Y24.p0 (aK h0' Q) v n y i h:=by
 intro m
 induction m with
 | zero =>
  intro i h v l hi hlen S hq
  obtain rfl:i=n:=by omega
  refine Y24.i0 ?_
  simp only [Y24.t0]
  exact aX (by simp) (.inl (hq h v (Upd.refl _ _) (by simpa using S) fun i hi=>.inl hi))
 | succ m ih =>
  intro i h v l hi hlen S hq
  refine Y24.i0 ?_
  simp only [Y24.t0, ← Y24.p0.eq_1]
  refine bA (by simp; omega) ?_
  refine dG (cs:=bB [y]) rfl rfl fun z h1 l1 U1 R1 F1=>?_
  have S1:Exa h1 v l:=S.upd U1 fun _ _ h=>h
  refine S1.app (ns:=[y]) (fun K hk=>R1.news hk) Nat.one_pos (by simp; omega) fun v2 h2 U2 S2 N2=>inc (by omega) ?_
  refine ih (i+1) h2 v2 (l++[y]) (by omega) (by simp; omega) S2 fun h3 v3 U3 S3 N3=>?_
  have hU1:=U1.1
  have hU2:=U2.1
  refine hq h3 v3 ?_ ?_ ?_
  ·refine (((U1.mono fun _ _ h => h.elim).trans U2 fun _ _ h => h)).trans U3 fun i hi hm => ?_
   rcases N2 i hm with g | g
   ·exact g
   ·omega
  ·rw [List.append_assoc] at S3
   rw [List.replicate_succ]
   exact S3
  ·intro i hi
   rcases N3 i hi with g | g
   ·rcases N2 i g with g2 | g2
    ·exact .inl g2
    ·right; omega
   ·right; omega
theorem oT {n y:Nat} {v:AV} {l:List Nat} (hn:n≤1000) (hlen:l.length+n≤10000) (S:Exa h v l) (hq:∀ h' v',Upd (aS v) h h'→Exa h' v' (l++List.replicate n y)→(∀ i,aS v' i→aS v i∨h.length≤i)→Q v' h'):C Y24.id [v,iN n,iN y] h Q:=by
 refine Y24.call ?_
 simp only [Y24.t, ← Y24.p0.eq_1]
 exact wC hn n 0 h v l (by omega) hlen S hq
theorem zX {n y:Nat} (hn:n≤1000) (hq:∀ h' v',Upd (fun _=>False) h h'→Exa h' v' (List.replicate n y)→(∀ i,aS v' i→h.length≤i)→Q v' h'):C Y24.id [.sl none 0 none,iN n,iN y] h Q:=
 oT hn (by simp; omega) (.inl ⟨rfl,rfl⟩) fun h' v' U S N=>hq h' v' (U.mono fun _ _ h=>h) (by simpa using S) fun i hi=>(N i hi).elim (fun h=>h.elim) fun h=>h
theorem aCA (hq:∀ h' v',Upd (fun _=>False) h h'→Exa h' v' Infl.fixedL→(∀ i,aS v' i→h.length≤i)→Q v' h'):C Y74.id [] h Q:=by
 refine Y74.call ?_
 simp only [Y74.t]
 refine zX (n:=144) (y:=8) (by decide) fun h1 v1 U1 S1 N1=>?_
 refine oT (n:=112) (y:=9) (by decide) (by simp) S1 fun h2 v2 U2 S2 N2=>?_
 refine oT (n:=24) (y:=7) (by decide) (by simp) S2 fun h3 v3 U3 S3 N3=>?_
 refine oT (n:=8) (y:=8) (by decide) (by simp) S3 fun h4 v4 U4 S4 N4=>?_
 have n2:∀ i,aS v2 i→h.length≤i:=fun i hi=>(N2 i hi).elim (N1 i) fun g=>Nat.le_trans U1.1 g
 have V2:Upd (fun _=>False) h h2:=U1.ownP U2 N1
 have n3:∀ i,aS v3 i→h.length≤i:=fun i hi=>(N3 i hi).elim (n2 i) fun g=>Nat.le_trans V2.1 g
 have V3:Upd (fun _=>False) h h3:=V2.ownP U3 n2
 exact .inl (hq h4 v4 (V3.ownP U4 n3) S4 fun i hi=>(N4 i hi).elim (n3 i) fun g=>Nat.le_trans V3.1 g)
end
end Go.Proofs.YtpaphfeihpgamaaDoor
