/- Lemmas (several texts in one). -/
import Derived.Test.YtpaphfeihpgamaaDoorMg4
set_option linter.unusedVariables false
set_option linter.unusedSimpArgs false
set_option linter.unusedSectionVars false
set_option maxRecDepth 20000
namespace Go.Proofs.YtpaphfeihpgamaaDoor
open Go.GAM
theorem cO {h:aA} {v:AV} {l:List Nat} (R:RdI 1 h v (bB l) l.length) {k:IntKind} {i x:Nat} (hx:l[i]? = some x) {K:Int→Prop} (hk:K (x:Int)):aN 1 v (.i k (i:Int)) h fun a=>aD a h fun y=>asI .i64 y K:=by
 have hi:=aM hx
 rw [aEE R (by omega) (by omega),Int.toNat_natCast,aDT R hi Nat.one_pos (c:=.i .i64 (x:Int)) (by unfold bB; rw [Nat.mul_one,Nat.add_zero,List.getElem?_map,hx] <;> rfl)]
 exact hk
theorem aY (l:List Nat):(bB l).length=l.length:=by simp [bB]
theorem gE {l:List Nat} {i x:Nat} (hx:l[i]? = some x):(bB l)[i]? = some (iN x):=by unfold bB; rw [List.getElem?_map,hx] <;> rfl
theorem iD (l:List Nat) (i x:Nat):(bB l).set i (iN x)=bB (l.set i x):=by unfold bB; rw [List.map_set]
theorem fA (a b:List Nat):bB (a++b)=bB a++bB b:=by unfold bB; rw [List.map_append]
theorem kV (l:List Nat):(bB l).all AV.cellOK=true:=by
 rw [List.all_eq_true]; intro x hx
 obtain ⟨i,_,rfl⟩:=List.mem_map.1 hx
 rfl
theorem aED (a b:Nat):mmI true (a:Int) (b:Int)=((max a b:Nat):Int):=by
 unfold mmI
 rw [cond_true]
 by_cases h:(b:Int) > a
 ·have : max a b = b := by omega
  rw [this,if_pos h]
 ·have : max a b = a := by omega
  rw [this,if_neg h]
theorem tT (x L:Nat):∀ l:List Nat,Huff.kr (l++[x]) L=Huff.kr l L+(if 0<x∧x≤L then 2 ^ (L - x) else 0)
 | []=>by simp [Huff.kr]
 | y :: l => by
  show _+Huff.kr (l++[x]) L=_+Huff.kr l L+_
  rw [tT x L l,Nat.add_assoc]
theorem aE9 {L:Nat}:∀ l:List Nat,Huff.kr l L≤l.length * 2 ^ L
 | []=>by simp [Huff.kr]
 | y :: l => by
  have:=aE9 (L:=L) l
  have h2:(if 0<y∧y≤L then 2 ^ (L - y) else 0)≤2 ^ L:=by
   split
   ·exact Nat.pow_le_pow_right (by decide) (by omega)
   ·exact Nat.zero_le _
  unfold Huff.kr
  rw [List.length_cons,Nat.succ_mul]
  omega
theorem tD (x:Nat) (l:List Nat):Huff.used (l++[x])=Huff.used l+(if 0<x then 1 else 0):=by
 unfold Huff.used
 rw [List.countP_append]
 by_cases h:0<x <;> simp [h]
theorem uC (x:Nat) (l:List Nat):Huff.longest (l++[x])=max (Huff.longest l) x:=by
 unfold Huff.longest
 rw [List.foldl_append] <;> rfl
theorem zS (l:List Nat):Huff.used l≤l.length:=List.countP_le_length
def gY (l:List Nat):Int:=match Huff.checkP l with
 | 0=>0
 | 1=>2
 | _=>1
section
variable [XR] {h:aA} {Q:AV→aA→Prop} {v:AV} {l:List Nat}
theorem kR {e:Bool} (he:e=decide (Huff.kr l 15<32768∧0<Huff.used l∧(1<Huff.used l∨1<Huff.longest l))) (hk:Huff.kr l 15≤32768) (hq:Q (.i .i64 (gY l)) h):Y10.p3 (aH h Q) e h:=by
 refine Y10.i3 ?_
 simp only [Y10.t3]
 unfold gY Huff.checkP at hq
 rw [if_neg (show ¬ 2 ^ 15<Huff.kr l 15 by omega)] at hq
 by_cases hc:Huff.kr l 15<2 ^ 15∧0<Huff.used l∧(1<Huff.used l∨1<Huff.longest l)
 ·rw [if_pos hc] at hq
  exact aW (by rw [he]; exact decide_eq_true hc) (.inl hq)
 ·rw [if_neg hc] at hq
  exact aL (by rw [he]; exact decide_eq_false hc) (.inl hq)
theorem yP (R : RdI 1 h v (bB l) l.length) (hl : l.length ≤ 320) (h15 : ∀ x ∈ l, x ≤ 15) (hq : Q (.i .i64 (gY l)) h) : ∀ (m i : Nat), i + m = l.length →
    Y10.p0 (aH h Q) (Huff.kr (l.take i) 15) (Huff.used (l.take i)) (Huff.longest (l.take i)) v l.length i h:=by
  intro m
  induction m with
  | zero =>
    intro i hi
    obtain rfl:i=l.length:=by omega
    rw [List.take_length]
    refine Y10.i0 ?_
    simp only [Y10.t0, ← Y10.p3.eq_1]
    refine aL (by simp) ?_
    refine aG (fun e=>?_) fun e=>?_
    · have e : 32768 < Huff.kr l 15 := by simp at e; omega
      unfold gY Huff.checkP at hq
      rw [if_pos (show 2 ^ 15<Huff.kr l 15 from e)] at hq
      exact .inl hq
    · have e : Huff.kr l 15 ≤ 32768 := by simp at e; omega
      refine aG ?_ ?_ <;> intro e1
      · refine aG (fun e2 => ?_) fun e2 => ?_
        · refine aG (fun e3 => ?_) fun e3 => ?_
          · refine kR ?_ e hq
            simp at e1 e2 e3 ⊢; omega
          · refine kR ?_ e hq
            simp only [decide_eq_true_eq,decide_eq_false_iff_not] at e1 e2 e3
            rw [decide_eq_decide]; omega
        · refine kR ?_ e hq
          simp at e1 e2 ⊢; omega
      · refine kR ?_ e hq
        simp at e1 ⊢; omega
  | succ m ih =>
    intro i hi
    obtain ⟨x,hx⟩:∃ x,l[i]? = some x:=⟨_,List.getElem?_eq_getElem (by omega)⟩
    have hx15:x≤15:=h15 x (List.mem_of_getElem? hx)
    have nxt:=ih (i+1) (by omega)
    rw [dR hx,tT,tD,uC] at nxt
    have k1:=aE9 (L:=15) (l.take i)
    have k2:=zS (l.take i)
    rw [List.length_take] at k1 k2
    have k3:min i l.length * 2 ^ 15≤320 * 32768:=Nat.mul_le_mul (by omega) (by decide)
    refine Y10.i0 ?_
    simp only [Y10.t0, ← Y10.p1.eq_1]
    refine aW (by simp; omega) (cO R hx ?_)
    refine aL (by simp) ?_
    refine Y10.i1 ?_
    simp only [Y10.t1, ← Y10.p2.eq_1]
    refine aL (by simp; omega) ?_
    refine aG (fun e=>?_) fun e=>?_
    · have e : 0 < x := by simp at e; omega
      rw [if_pos ⟨e,hx15⟩,if_pos e] at nxt
      have hp:2 ^ (15 - x)≤32768:=Nat.pow_le_pow_right (n:=2) (by decide) (show 15 - x≤15 by omega)
      have sh:∀ K:Int→Prop,K ((2 ^ (15 - x):Nat):Int)→jX .i64 1 ((15 - x:Nat):Int) K:=fun K hk=>eM (a:=1) (b:=15 - x) (by omega) (by rw [Nat.one_mul]; omega) (by rw [Nat.one_mul]; exact hk)
      generalize 2 ^ (15 - x)=pw at hp nxt sh
      refine bS (n:=((15 - x:Nat):Int)) (by omega) (by omega) (by omega) ?_
      refine sh _ ?_
      refine bS (n:=((Huff.kr (l.take i) 15+pw:Nat):Int)) (by omega) (by omega) (by omega) (inc (by omega) ?_)
      rw [aED]
      refine Y10.i2 ?_
      simp only [Y10.t2, ← Y10.p0.eq_1]
      exact inc (by omega) nxt
    · have e : x = 0 := by simp at e; omega
      subst e
      rw [if_neg (by omega),if_neg (by omega),Nat.add_zero,Nat.add_zero,Nat.max_zero] at nxt
      refine Y10.i2 ?_
      simp only [Y10.t2, ← Y10.p0.eq_1]
      exact inc (by omega) nxt
theorem zP (R:RdI 1 h v (bB l) l.length) (hl:l.length≤320) (h15:∀ x∈l,x≤15) (hq:Q (.i .i64 (gY l)) h):C Y10.id [v] h Q:=by
 refine Y10.call ?_
 simp only [Y10.t, ← Y10.p0.eq_1]
 refine R.len (aL (by simp; omega) (R.len ?_))
 exact yP R hl h15 hq l.length 0 (by omega)
end
def eI (l:List Nat):List Nat:=(List.range 16).map (Huff.cnt l)
def kY (l:List Nat) (n:Nat):List Nat:=(List.range 16).map fun j=>if j<n then Huff.fst l j else 0
theorem cB (l:List Nat):(eI l).length=16:=by simp [eI]
theorem iJ (l:List Nat) (n:Nat):(kY l n).length=16:=by simp [kY]
theorem mI (l:List Nat) {n:Nat} (h:n<16):(eI l)[n]? = some (Huff.cnt l n):=by simp [eI,h]
theorem uZ (l:List Nat) {n k:Nat} (h:k<16) (h2:k<n):(kY l n)[k]? = some (Huff.fst l k):=by simp [kY,h,h2]
theorem nE (l:List Nat) (x n:Nat):Huff.cnt (l++[x]) n=if 0<x∧n=x then Huff.cnt l n+1 else Huff.cnt l n:=by
 cases n with
 | zero =>
  rw [if_neg (by omega)] <;> rfl
 | succ n =>
  show List.countP _ _=if _ then List.countP _ _+1 else List.countP _ _
  rw [List.countP_append]
  by_cases h:x=n+1
  ·rw [if_pos ⟨by omega,h.symm⟩]; simp [h]
  ·rw [if_neg (by omega)]; simp [h]
theorem aAJ {l:List Nat} {x:Nat} (h0:0<x) (h:x<16):(eI l).set x (Huff.cnt l x+1)=eI (l++[x]):=by
 refine List.ext_getElem? fun j=>?_
 rw [List.getElem?_set]
 by_cases hj:j<16
 ·have a1 := mI (l ++ [x]) hj
  have a2:=mI l hj
  rw [a1,a2,nE]
  by_cases e:x=j
  ·subst e; rw [if_pos rfl,if_pos (by rw [cB]; exact h),if_pos ⟨h0,rfl⟩]
  ·rw [if_neg e,if_neg (by omega)]
 ·have e1 : (eI (l ++ [x]))[j]? = none := by rw [List.getElem?_eq_none]; rw [cB]; omega
  have e2:(eI l)[j]? = none:=by rw [List.getElem?_eq_none]; rw [cB]; omega
  rw [if_neg (by omega),e1,e2]
theorem y1 {l:List Nat}:eI (l++[0])=eI l:=by
 unfold eI
 exact List.map_congr_left fun j _=>by rw [nE,if_neg (by omega)]
theorem aC5 {l:List Nat} {n:Nat} (h:n<16):(kY l n).set n (Huff.fst l n)=kY l (n+1):=by
 refine List.ext_getElem? fun j=>?_
 rw [List.getElem?_set]
 by_cases hj:j<16
 ·by_cases e : n = j
  ·subst e; rw [if_pos rfl,if_pos (by rw [iJ]; exact h),uZ _ h (by omega)]
  ·rw [if_neg e]
   simp [kY,hj]
   by_cases hjn:j<n
   ·rw [if_pos hjn,if_pos (by omega)]
   ·rw [if_neg hjn,if_neg (by omega)]
 ·have e1 : (kY l (n + 1))[j]? = none := by rw [List.getElem?_eq_none]; rw [iJ]; omega
  have e2:(kY l n)[j]? = none:=by rw [List.getElem?_eq_none]; rw [iJ]; omega
  rw [if_neg (by omega),e1,e2]
theorem aCU (l:List Nat):kY l 16=(List.range 16).map (Huff.fst l):=List.map_congr_left fun j hj=>by rw [if_pos (List.mem_range.1 hj)]
theorem aC7 (l:List Nat):kY l 1=List.replicate 16 0:=by
 refine List.ext_getElem? fun j=>?_
 by_cases hj:j<16
 ·by_cases e : j = 0
  ·subst e; rw [uZ _ (by omega) (by omega)] <;> rfl
  ·rw [show (kY l 1)[j]? = some 0 from by simp [kY,hj,e]]; rw [List.getElem?_replicate,if_pos hj]
 ·rw [List.getElem?_eq_none (by rw [iJ]; omega),List.getElem?_eq_none (by simp; omega)]
theorem mA (l:List Nat):∀ n,Huff.cnt l n≤l.length
 | 0=>Nat.zero_le _
 | n+1=>List.countP_le_length
theorem aCT (l:List Nat):∀ n,Huff.fst l n≤l.length * (2 ^ (n+1) - 2)
 | 0=>Nat.zero_le _
 | n + 1 => by
  have:=aCT l n
  have h2:=mA l n
  have hp:2≤2 ^ (n+1):=by rw [Nat.pow_succ]; have:=Nat.pow_pos (n:=n) (show 0<2 by decide); omega
  show 2 * (Huff.fst l n+Huff.cnt l n)≤_
  have e:2 ^ (n+1+1) - 2=2 * (2 ^ (n+1) - 2)+2:=by rw [Nat.pow_succ]; omega
  rw [e]
  generalize 2 ^ (n+1) - 2=P at *
  have:l.length * (2 * P+2)=2 * (l.length * P)+2 * l.length:=by rw [Nat.mul_add,Nat.mul_left_comm,Nat.mul_comm l.length 2]
  omega
theorem mB {l:List Nat} (hl:l.length≤320) {n:Nat} (hn:n≤15):Huff.fst l n≤320 * 65536:=by
 refine Nat.le_trans (aCT l n) (Nat.mul_le_mul hl ?_)
 have:2 ^ (n+1)≤65536:=Nat.pow_le_pow_right (n:=2) (by decide) (show n+1≤16 by omega)
 omega
def tab (c f:List Nat):List AV:=bB c++bB f
theorem d6 {c f:List Nat} (hc:c.length=16) (hf:f.length=16):32=(tab c f).length:=by simp [tab,aY,hc,hf]
theorem tK {c f:List Nat} (hc:c.length=16) {n x:Nat} (hx:c[n]? = some x):(tab c f)[n]? = some (iN x):=by
 have:=aM hx
 unfold tab
 rw [List.getElem?_append_left (by rw [aY]; omega)]; exact gE hx
theorem aAA {c f:List Nat} (hc:c.length=16) {n x:Nat} (hx:f[n]? = some x):(tab c f)[16+n]? = some (iN x):=by
 unfold tab
 rw [List.getElem?_append_right (by rw [aY]; omega),aY,hc,Nat.add_sub_cancel_left]; exact gE hx
theorem aD6 {c f:List Nat} (hc:c.length=16) {n x:Nat} (hn:n<16):(tab c f).set n (iN x)=tab (c.set n x) f:=by
 unfold tab
 rw [List.set_append_left _ _ (by rw [aY]; omega),iD]
theorem aEW {c f:List Nat} (hc:c.length=16) {n x:Nat}:(tab c f).set (16+n) (iN x)=tab c (f.set n x):=by
 unfold tab
 rw [List.set_append_right _ _ (by rw [aY]; omega),aY,hc,Nat.add_sub_cancel_left,iD]
theorem aHO (c f:List Nat):(tab c f).all AV.cellOK=true:=by unfold tab; rw [List.all_append,kV,kV] <;> rfl
section
variable [XR] {h:aA} {Q:AV→aA→Prop} {v:AV} {l:List Nat}
theorem aBC (hl : l.length ≤ 320) {h0 : aA} {a b : Nat} (hab : a ≠ b) (ha : h0.length ≤ a) (hb : h0.length ≤ b) (hq : ∀ h', Upd (fun _ => False) h0 h' → Q (.ag (tab (eI l) ((List.range 16).map (Huff.fst l)))) h') :
  ∀ (m n:Nat) (h:aA) (ca:List AV),n+m=16→1≤n→Upd (fun _=>False) h0 h→bC h a ca→ca.length=32→bC h b (tab (eI l) (kY l n))→Y14.p2 (aH h0 Q) (.p (some ⟨a,32,0⟩)) (.p (some ⟨b,32,0⟩)) n h:=by
 intro m
 induction m with
 | zero =>
  intro n h ca hn h1 U Ra hca Rb
  obtain rfl:n=16:=by omega
  rw [aCU] at Rb
  refine Y14.i2 ?_
  simp only [Y14.t2]
  refine aL (by simp) ?_
  have tl:=d6 (cB l) (f:=(List.range 16).map (Huff.fst l)) (by simp)
  refine fC Rb tl (iL Ra hca.symm tl.symm (aHO _ _) fun h1 l1 U1 R1=>fC R1 tl ?_)
  exact .inl (hq h1 (U.own U1 ha))
 | succ m ih =>
  intro n h ca hn h1 U Ra hca Rb
  refine Y14.i2 ?_
  simp only [Y14.t2,bD, ← Y14.p2.eq_1]
  refine aW (by simp; omega) ?_
  have tl:=d6 (cB l) (iJ l n)
  have c1:=mA l (n - 1)
  have f1:=mB hl (n:=n - 1) (by omega)
  refine bS (n:=((n - 1:Nat):Int)) (by omega) (by omega) (by omega) ?_
  refine ⟨by omega,by omega, ?_⟩
  refine aE Rb tl (o:=0+16+((n - 1:Nat):Int).toNat * 1) (v:=iN (Huff.fst l (n - 1))) ?_ (aC ?_)
  ·rw [Int.toNat_natCast,Nat.mul_one,Nat.zero_add]; exact aAA (cB l) (uZ l (by omega) (by omega))
  refine bS (n:=((n - 1:Nat):Int)) (by omega) (by omega) (by omega) ?_
  refine ⟨by omega,by omega, ?_⟩
  refine aE Rb tl (o:=0+0+((n - 1:Nat):Int).toNat * 1) (v:=iN (Huff.cnt l (n - 1))) ?_ (aC ?_)
  ·rw [Int.toNat_natCast,Nat.mul_one,Nat.zero_add]; exact tK (cB l) (mI l (by omega))
  refine bS (n:=((Huff.fst l (n - 1)+Huff.cnt l (n - 1):Nat):Int)) (by omega) (by omega) (by omega) ?_
  have sh:∀ K:Int→Prop,K ((Huff.fst l n:Nat):Int)→jX .i64 ((Huff.fst l (n - 1)+Huff.cnt l (n - 1):Nat):Int) 1 K:=fun K hk=>by
   obtain ⟨k,rfl⟩:∃ k,n=k+1:=⟨n - 1,by omega⟩
   refine eM (b:=1) (by omega) (by simp at c1 f1 ⊢; omega) ?_
   have:(Huff.fst l (k+1 - 1)+Huff.cnt l (k+1 - 1)) * 2 ^ 1=Huff.fst l (k+1):=by
    show _=2 * (Huff.fst l k+Huff.cnt l k)
    simp; omega
   rw [this]; exact hk
  refine sh _ ?_
  refine ⟨by omega,by omega, ?_⟩
  refine aP Rb tl (o:=0+16+(n:Int).toNat * 1) (by rw [← tl]; simp; omega) (hk:=fun h1 l1 U1 R1=>?_)
  refine inc (by omega) (ih (n+1) h1 ca (by omega) (by omega) (U.own U1 hb) (Ra.upd U1 hab) hca ?_)
  rw [Int.toNat_natCast,Nat.mul_one,Nat.zero_add,aEW (cB l),aC5 (by omega)] at R1
  exact R1
theorem aCL (hl:l.length≤320) (h15:∀ x∈l,x≤15) {h0:aA} (R0:RdI 1 h0 v (bB l) l.length) {a b:Nat} (hab:a≠b) (ha:h0.length≤a) (hb:h0.length≤b) (hq:∀ h',Upd (fun _=>False) h0 h'→Q (.ag (tab (eI l) ((List.range 16).map (Huff.fst l)))) h') :
  ∀ (m i:Nat) (h:aA) (ca:List AV),i+m=l.length→Upd (fun _=>False) h0 h→bC h a ca→ca.length=32→bC h b (tab (eI (l.take i)) (kY l 1))→Y14.p0 (aH h0 Q) (.p (some ⟨a,32,0⟩)) (.p (some ⟨b,32,0⟩)) v l.length i h:=by
 intro m
 induction m with
 | zero =>
  intro i h ca hi U Ra hca Rb
  obtain rfl:i=l.length:=by omega
  rw [List.take_length] at Rb
  refine Y14.i0 ?_
  simp only [Y14.t0, ← Y14.p2.eq_1]
  exact aL (by simp) (aBC hl hab ha hb hq 15 1 h ca (by omega) (by omega) U Ra hca Rb)
 | succ m ih =>
  intro i h ca hi U Ra hca Rb
  obtain ⟨x,hx⟩:∃ x,l[i]? = some x:=⟨_,List.getElem?_eq_getElem (by omega)⟩
  have hx15:x≤15:=h15 x (List.mem_of_getElem? hx)
  have c1:=mA (l.take i) x
  rw [List.length_take] at c1
  have nxt:∀ h',Upd (fun _=>False) h0 h'→bC h' a ca→bC h' b (tab (eI (l.take (i+1))) (kY l 1))→Y14.p1 (aH h0 Q) (.p (some ⟨a,32,0⟩)) (.p (some ⟨b,32,0⟩)) v l.length i h':=fun h' U' Ra' Rb'=>by
   refine Y14.i1 ?_
   simp only [Y14.t1, ← Y14.p0.eq_1]
   exact inc (by omega) (ih (i+1) h' ca (by omega) U' Ra' hca Rb')
  rw [dR hx] at nxt
  refine Y14.i0 ?_
  simp only [Y14.t0,bD, ← Y14.p1.eq_1]
  refine aW (by simp; omega) (cO (R0.ext U) hx ?_)
  have tl:=d6 (cB (l.take i)) (iJ l 1)
  refine aG (fun e=>?_) fun e=>?_
  ·have e : 0 < x := by simp at e; omega
   refine ⟨by omega,by omega, ?_⟩
   refine aE Rb tl (o:=0+0+(x:Int).toNat * 1) (v:=iN (Huff.cnt (l.take i) x)) ?_ (aC (inc (by omega) ?_))
   ·rw [Int.toNat_natCast,Nat.mul_one,Nat.zero_add]; exact tK (cB _) (mI _ (by omega))
   refine ⟨by omega,by omega, ?_⟩
   refine aP Rb tl (o:=0+0+(x:Int).toNat * 1) (by rw [← tl]; simp; omega) (hk:=fun h1 l1 U1 R1=>?_)
   refine nxt h1 (U.own U1 hb) (Ra.upd U1 hab) ?_
   rw [Int.toNat_natCast,Nat.mul_one,Nat.zero_add,Nat.zero_add,aD6 (cB _) (by omega),aAJ e (by omega)] at R1
   exact R1
  ·have e : x = 0 := by simp at e; omega
   subst e
   rw [y1] at nxt
   exact nxt h U Ra Rb
theorem y8 (hl:l.length≤320) (h15:∀ x∈l,x≤15) (R:RdI 1 h v (bB l) l.length) (hq:∀ h',Upd (fun _=>False) h h'→Q (.ag (tab (eI l) ((List.range 16).map (Huff.fst l)))) h'):C Y14.id [v] h Q:=by
 refine Y14.call ?_
 simp only [Y14.t, ← Y14.p0.eq_1]
 refine cF fun h1 l1 U1 R1=>cF fun h2 l2 U2 R2=>R.len ?_
 have U:=U1.then U2
 refine aCL hl h15 R (by omega) (Nat.le_refl _) (by omega) hq l.length 0 h2 _ (by omega) U (R1.upd U2 fun h=>h) rfl ?_
 rw [aC7]
 exact R2
end
end Go.Proofs.YtpaphfeihpgamaaDoor
namespace Go.Proofs.YtpaphfeihpgamaaDoor
open Go.GAM
theorem nN (n x:Nat):∀ (r:List Nat) (i:Nat),jQ n (r++[x]) i=jQ n r i++(if x=n then [i+r.length] else [])
 | [], i => by
  by_cases h:x=n <;> simp [jQ,h]
 | y :: r, i => by
  have:=nN n x r (i+1)
  have e:i+1+r.length=i+(r.length+1):=by omega
  rw [e] at this
  simp only [List.cons_append,jQ,List.length_cons]
  by_cases h:y=n
  ·rw [if_pos h,if_pos h,this] <;> rfl
  ·rw [if_neg h,if_neg h,this]
theorem mO (n:Nat):∀ (r:List Nat) (i:Nat),(jQ n r i).length=r.countP (· == n)
 | [],i=>rfl
 | y :: r, i => by
  unfold jQ
  rw [List.countP_cons]
  by_cases h:y=n
  ·rw [if_pos h,List.length_cons,mO n r]; simp [h]
  ·rw [if_neg h,mO n r]; simp [h]
theorem j0 (n:Nat):∀ (r:List Nat) (i k:Nat),Huff.pickFrom n r i k=(jQ n r i)[k]?
 | [],i,k=>by simp [Huff.pickFrom,jQ]
 | y :: r, i, k => by
  unfold Huff.pickFrom jQ
  by_cases h:y=n
  ·rw [if_pos h, if_pos h]
   cases k with
   | zero=>rfl
   | succ k=>rw [if_neg (by omega),j0 n r] <;> rfl
  ·rw [if_neg h,if_neg h,j0 n r]
theorem aGP (l:List Nat) (n k:Nat):Huff.pick l n k=(yF l n)[k]?:=j0 n l 0 k
theorem wE (l:List Nat) (n:Nat):(yF l (n+1)).length=Huff.cnt l (n+1):=mO _ _ _
theorem gM (l:List Nat) (n:Nat):eW l (n+1)=eW l n++yF l (n+1):=by simp [eW,List.range_succ]
theorem o4 (l:List Nat) (n:Nat):dB l (n+1)=dB l n+Huff.cnt l n:=by simp [dB,List.range_succ]
theorem gA (l:List Nat):∀ n,(eW l n).length=dB l (n+1)
 | 0=>rfl
 | n+1=>by rw [gM,List.length_append,gA l n,wE,o4 l (n+1)]
theorem oK (l:List Nat):∀ n,dB l n≤n * l.length
 | 0=>Nat.zero_le _
 | n + 1 => by
  have:=oK l n
  have:=mA l n
  rw [o4,Nat.succ_mul]; omega
theorem rT (l:List Nat) (n:Nat):∀ m, ∃ t,eW l (n+m)=eW l n++t
 | 0=>⟨[],by simp⟩
 | m + 1 => by
  obtain ⟨t,ht⟩:=rT l n m
  exact ⟨t++yF l (n+m+1),by rw [show n+(m+1)=n+m+1 by omega,gM,ht,List.append_assoc]⟩
theorem aGX {l:List Nat} {n k j:Nat} (h0:0<n) (h:n≤15) (hp:Huff.pick l n k=some j):(eW l 15)[dB l n+k]? = some j:=by
 obtain ⟨n,rfl⟩:∃ m,n=m+1:=⟨n - 1,by omega⟩
 obtain ⟨t,ht⟩:=rT l (n+1) (15 - (n+1))
 rw [show n+1+(15 - (n+1))=15 by omega,gM l n] at ht
 rw [aGP] at hp
 have hlt:=aM hp
 rw [ht,List.append_assoc,List.getElem?_append_right (by rw [gA]; omega),gA,Nat.add_sub_cancel_left,List.getElem?_append_left hlt]
 exact hp
def lg (l:List Nat):Nat→Nat
 | 0=>0
 | n+1=>if yF l (n+1)=[] then lg l n else n+1
theorem fV {l : List Nat} (h15 : ∀ x ∈ l, x ≤ 15) : lg l 15 = Huff.longest l := by
 have key:∀ n,lg l n≤n∧(∀ x∈l,x≤n→x≤lg l n)∧(lg l n=0∨lg l n∈l):=by
  intro n
  induction n with
  | zero=>exact ⟨Nat.le_refl _,fun x _ h=>h,.inl rfl⟩
  | succ n ih =>
   unfold lg
   have hc:=wE l n
   by_cases he:yF l (n+1)=[]
   ·rw [if_pos he]
    rw [he] at hc
    have h0:List.countP (· == n+1) l=0:=hc.symm
    refine ⟨by omega,fun x hx hxn=>?_,ih.2.2⟩
    have:¬ x=n+1:=by have:=List.countP_eq_zero.1 h0 x hx; simpa using this
    exact ih.2.1 x hx (by omega)
   ·rw [if_neg he]
    refine ⟨Nat.le_refl _,fun x _ h=>h,.inr ?_⟩
    have:0<List.countP (· == n+1) l:=by
     have e:Huff.cnt l (n+1)=List.countP (· == n+1) l:=rfl
     rw [← e, ← hc]
     exact List.length_pos_iff.2 he
    obtain ⟨x,hx,hxe⟩:=List.countP_pos_iff.1 this
    have:x=n+1:=by simpa using hxe
    exact this ▸ hx
 obtain ⟨h1,h2,h3⟩:=key 15
 have a:Huff.longest l≤lg l 15:=by
  have:∀ (r:List Nat) (a b:Nat),a≤b→(∀ x∈r,x≤b)→r.foldl max a≤b:=by
   intro r
   induction r with
   | nil=>intro a b h _; exact h
   | cons y r ih=>intro a b h hr; exact ih _ _ (by have:=hr y (by simp); omega) fun x hx=>hr x (by simp [hx])
  exact this l 0 _ (Nat.zero_le _) fun x hx=>h2 x hx (h15 x hx)
 have b:lg l 15≤Huff.longest l:=by
  rcases h3 with h | h
  ·rw [h]; exact Nat.zero_le _
  ·exact Huff.le_longest h
 omega
def eH (l:List Nat) (n:Nat):List Nat:=(List.range 16).map fun j=>if j<n then dB l j else 0
theorem d7 (l:List Nat) (n:Nat):(eH l n).length=16:=by simp [eH]
theorem tC (l:List Nat) {n k:Nat} (h:k<16) (h2:k<n):(eH l n)[k]? = some (dB l k):=by simp [eH,h,h2]
theorem yI {l:List Nat} {n:Nat} (h:n<16):(eH l n).set n (dB l n)=eH l (n+1):=by
 refine List.ext_getElem? fun j=>?_
 rw [List.getElem?_set]
 by_cases hj:j<16
 ·by_cases e : n = j
  ·subst e; rw [if_pos rfl,if_pos (by rw [d7]; exact h),tC _ h (by omega)]
  ·rw [if_neg e]
   simp [eH,hj]
   by_cases hjn:j<n
   ·rw [if_pos hjn,if_pos (by omega)]
   ·rw [if_neg hjn,if_neg (by omega)]
 ·rw [if_neg (by omega),List.getElem?_eq_none (by rw [d7]; omega),List.getElem?_eq_none (by rw [d7]; omega)]
theorem yD (l:List Nat):eH l 16=(List.range 16).map (dB l):=List.map_congr_left fun j hj=>by rw [if_pos (List.mem_range.1 hj)]
theorem yN (l:List Nat):eH l 1=List.replicate 16 0:=by
 refine List.ext_getElem? fun j=>?_
 by_cases hj:j<16
 ·by_cases e : j = 0
  ·subst e; rw [tC _ (by omega) (by omega)] <;> rfl
  ·rw [show (eH l 1)[j]? = some 0 from by simp [eH,hj,e]]; rw [List.getElem?_replicate,if_pos hj]
 ·rw [List.getElem?_eq_none (by rw [d7]; omega),List.getElem?_eq_none (by simp; omega)]
def eA (c f:List Nat) (sym:AV) (s:List Nat) (g x n:Nat):List AV:=(tab c f++[sym])++(bB s++[iN g,iN x,iN n])
section
variable {c f s:List Nat} {sym:AV} {g x n:Nat}
theorem iE (hc:c.length=16) (hf:f.length=16):(tab c f++[sym]).length=33:=by rw [List.length_append, ← d6 hc hf] <;> rfl
theorem cM (hc:c.length=16) (hf:f.length=16) (hs:s.length=16):52=(eA c f sym s g x n).length:=by
 unfold eA
 rw [List.length_append,iE hc hf,List.length_append,aY,hs] <;> rfl
theorem aFI (hc:c.length=16) (hf:f.length=16) {i y:Nat} (hx:c[i]? = some y):(eA c f sym s g x n)[i]? = some (iN y):=by
 have:=aM hx
 unfold eA
 rw [List.getElem?_append_left (by rw [iE hc hf]; omega),List.getElem?_append_left (by rw [← d6 hc hf]; omega)]; exact tK hc hx
theorem tV (hc:c.length=16) (hf:f.length=16) {i y:Nat} (hx:f[i]? = some y):(eA c f sym s g x n)[16+i]? = some (iN y):=by
 have:=aM hx
 unfold eA
 rw [List.getElem?_append_left (by rw [iE hc hf]; omega),List.getElem?_append_left (by rw [← d6 hc hf]; omega)]; exact aAA hc hx
theorem uH (hc:c.length=16) (hf:f.length=16):(eA c f sym s g x n)[32]? = some sym:=by
 unfold eA
 rw [List.getElem?_append_left (by rw [iE hc hf]; omega),List.getElem?_append_right (by rw [← d6 hc hf]; omega), ← d6 hc hf] <;> rfl
theorem aBB (hc:c.length=16) (hf:f.length=16) {i y:Nat} (hx:s[i]? = some y):(eA c f sym s g x n)[33+i]? = some (iN y):=by
 have:=aM hx
 unfold eA
 rw [List.getElem?_append_right (by rw [iE hc hf]; omega),iE hc hf,Nat.add_sub_cancel_left,List.getElem?_append_left (by rw [aY]; omega)]; exact gE hx
theorem e9 (hc:c.length=16) (hf:f.length=16) (hs:s.length=16) {i:Nat}:(eA c f sym s g x n)[49+i]? = [iN g,iN x,iN n][i]?:=by
 unfold eA
 rw [List.getElem?_append_right (by rw [iE hc hf]; omega),iE hc hf,List.getElem?_append_right (by rw [aY]; omega),aY,hs]
 congr 1
 omega
theorem aBR (hc:c.length=16) (hf:f.length=16) {v:AV}:(eA c f sym s g x n).set 32 v=eA c f v s g x n:=by
 unfold eA
 rw [List.set_append_left _ _ (by rw [iE hc hf]; omega),List.set_append_right _ _ (by rw [← d6 hc hf]; omega), ← d6 hc hf] <;> rfl
theorem aE2 (hc:c.length=16) (hf:f.length=16) {i y:Nat} (hi:i<s.length):(eA c f sym s g x n).set (33+i) (iN y)=eA c f sym (s.set i y) g x n:=by
 unfold eA
 rw [List.set_append_right _ _ (by rw [iE hc hf]; omega),iE hc hf,Nat.add_sub_cancel_left,List.set_append_left _ _ (by rw [aY]; exact hi),iD]
theorem j9 (hc:c.length=16) (hf:f.length=16) (hs:s.length=16) {i:Nat} {v:AV}:(eA c f sym s g x n).set (49+i) v=(tab c f++[sym])++(bB s++[iN g,iN x,iN n].set i v):=by
 unfold eA
 rw [List.set_append_right _ _ (by rw [iE hc hf]; omega),iE hc hf,List.set_append_right _ _ (by rw [aY]; omega),aY,hs,show 49+i - 33 - 16=i by omega]
end
theorem wF:∀ (cs pre z1 z2:List AV),z1.length=cs.length→(cs.zipIdx pre.length).foldl (fun a (p:AV × Nat)=>a.set (0+p.2) p.1) (pre++(z1++z2))=pre++(cs++z2)
 | [], pre, z1, z2, h => by
  have:z1=[]:=List.eq_nil_of_length_eq_zero h
  subst this; rfl
 | c :: cs,pre,[],z2,h=>by simp at h
 | c :: cs, pre, z :: z1, z2, h => by
  rw [List.zipIdx_cons,List.foldl_cons]
  have e:(pre++(z :: z1++z2)).set (0+pre.length) c=(pre++[c])++(z1++z2):=by
   rw [Nat.zero_add,List.set_append_right _ _ (Nat.le_refl _)]; simp
  have:=wF cs (pre++[c]) z1 z2 (by simpa using h)
  simp only at this ⊢
  rw [e]
  rw [show (pre++[c]).length=pre.length+1 by simp] at this
  rw [this]; simp
theorem yQ {z1 z2 cs:List AV} (h:z1.length=cs.length):eQ (z1++z2) [(0,cs.length,.ag cs)]=some (cs++z2):=by
 unfold eQ
 have hc:((AV.ag cs).sizeOK&&(AV.ag cs).parts.length == cs.length&&decide (0+(AV.ag cs).parts.length≤(z1++z2).length))=true:=by
  have e1:(AV.ag cs).parts=cs:=rfl
  have e2:(AV.ag cs).sizeOK=true:=rfl
  rw [e1,e2]; simp; omega
 simp only [hc,if_true]
 unfold eQ
 congr 1
 exact wF cs [] z1 z2 h
theorem aHW {c f:List Nat} (hc:c.length=16) (hf:f.length=16):eQ (List.replicate 32 (iN 0)++([.sl none 0 none]++List.replicate 19 (iN 0))) [(0,32,.ag (tab c f))]=some (eA c f (.sl none 0 none) (List.replicate 16 0) 0 0 0):=by
 have:=yQ (z1:=List.replicate 32 (iN 0)) (z2:=[.sl none 0 none]++List.replicate 19 (iN 0)) (cs:=tab c f) (by rw [← d6 hc hf]; simp)
 rw [← d6 hc hf] at this
 rw [this]
 unfold eA
 rw [List.append_assoc] <;> rfl
theorem eE (l:List Nat) (sym:AV) (n x:Nat):cZ l sym n x=eA (eI l) ((List.range 16).map (Huff.fst l)) sym ((List.range 16).map (dB l)) (Huff.longest l) x n:=by
 simp [cZ,eA,tab,eI]
section
variable [XR] {h:aA} {Q:AV→aA→Prop} {v:AV} {l:List Nat}
theorem aBD:((List.range 16).map (Huff.fst l)).length=16:=by simp
theorem aF3 (hl : l.length ≤ 320) (h15 : ∀ x ∈ l, x ≤ 15) (hok : Huff.checkP l = 0) {h0 : aA} (R0 : RdI 1 h0 v (bB l) l.length) {id : Nat} (hid : h0.length ≤ id) (hq : ∀ h' sym, Upd (fun _ => False) h0 h' → b9 h' (fun i => h0.length ≤ i) id l sym 0 0 → Q (.tu [cp id, iN 0]) h') :
  ∀ (m n:Nat) (h:aA) (sym:AV),n+1+m=16→Upd (fun _=>False) h0 h→bC h id (eA (eI l) ((List.range 16).map (Huff.fst l)) sym (eH l (n+1)) (lg l n) 0 0)→Stk h sym (bB (eW l n))→(∀ i,aQ sym i→h0.length≤i∧i≠id) →
  Y13.p0 (aH h0 Q) v (cp id) ((n+1:Nat):Int) h:=by
 intro m
 induction m with
 | zero =>
  intro n h sym hn U R S N
  obtain rfl:n=15:=by omega
  refine Y13.i0 ?_
  simp only [Y13.t0]
  refine aL (by simp) (.inl (hq h sym U ?_))
  refine ⟨?_, ?_,hid,fun i hi=>⟨(N i hi).1,(N i hi).2,S.rd.lt hi⟩,hok,hl,h15⟩
  ·rw [eE, ← fV h15, ← yD]; exact R
  ·have := S.rd.i
   rw [aY] at this
   exact this
 | succ m ih =>
  intro n h sym hn U R S N
  have hst:=oK l (n+1)
  have hst2:(n+1) * l.length≤15 * 320:=Nat.mul_le_mul (by omega) hl
  refine Y13.i0 ?_
  simp only [Y13.t0,bF,bD, ← Y13.p1.eq_1]
  refine aW (by simp; omega) ?_
  have cl:=cB l
  have fl:=aBD (l:=l)
  have sl:=d7 l (n+1)
  refine aE R (cM cl fl sl) (uH cl fl) (S.rd.len ?_)
  refine ⟨by omega,by omega, ?_⟩
  refine aP R (cM cl fl sl) (o:=0+33+((n+1:Nat):Int).toNat * 1) (by rw [← cM cl fl sl]; simp; omega) (hk:=fun h1 l1 U1 R1=>?_)
  rw [Int.toNat_natCast,Nat.mul_one,Nat.zero_add,aY,gA,aE2 cl fl (by rw [d7]; omega),yI (by omega)] at R1
  have inn:∀ (k i:Nat) (h:aA) (sym:AV),i+k=l.length→Upd (fun _=>False) h0 h→bC h id (eA (eI l) ((List.range 16).map (Huff.fst l)) sym (eH l (n+2)) (if jQ (n+1) (l.take i) 0=[] then lg l n else n+1) 0 0) →
    Stk h sym (bB (eW l n++jQ (n+1) (l.take i) 0))→(∀ i,aQ sym i→h0.length≤i∧i≠id)→Y13.p1 (aH h0 Q) v (cp id) ((n+1:Nat):Int) v l.length i h:=by
   intro k
   induction k with
   | zero =>
    intro i h sym hi U R S N
    obtain rfl:i=l.length:=by omega
    rw [List.take_length] at R S
    refine Y13.i1 ?_
    simp only [Y13.t1, ← Y13.p0.eq_1]
    refine aL (by simp) (inc (by omega) (ih (n+1) h sym (by omega) U R ?_ N))
    rw [gM]; exact S
   | succ k ihk =>
    intro i h sym hi U R S N
    obtain ⟨x,hx⟩:∃ x,l[i]? = some x:=⟨_,List.getElem?_eq_getElem (by omega)⟩
    have sl:=d7 l (n+2)
    have nxt:∀ h' sym',Upd (fun _=>False) h0 h'→bC h' id (eA (eI l) ((List.range 16).map (Huff.fst l)) sym' (eH l (n+2)) (if jQ (n+1) (l.take i++[x]) 0=[] then lg l n else n+1) 0 0) →
      Stk h' sym' (bB (eW l n++jQ (n+1) (l.take i++[x]) 0))→(∀ i,aQ sym' i→h0.length≤i∧i≠id)→Y13.p2 (aH h0 Q) v (cp id) ((n+1:Nat):Int) v l.length i h':=fun h' sym' U' R' S' N'=>by
     refine Y13.i2 ?_
     simp only [Y13.t2, ← Y13.p1.eq_1]
     rw [← dR hx] at R' S'
     exact inc (by omega) (ihk (i+1) h' sym' (by omega) U' R' S' N')
    refine Y13.i1 ?_
    simp only [Y13.t1,bF,bD, ← Y13.p2.eq_1]
    refine aW (by simp; omega) (cO (R0.ext U) hx ?_)
    refine aG ?_ ?_ <;> intro e
    ·have e : x = n + 1 := by simp at e; omega
     rw [nN,if_pos e] at nxt
     have hil:(jQ (n+1) (l.take i) 0).length≤320:=by rw [mO]; refine Nat.le_trans List.countP_le_length ?_; simp; omega
     have hll:(eW l n).length≤4800:=by rw [gA]; omega
     refine aE R (cM cl fl sl) (uH cl fl) ?_
     refine S.push rfl rfl (by rw [aY]; simp; omega) (by rw [aY]; simp; omega) fun sym' h2 U2 S2 N2=>?_
     have R2:=R.upd U2 fun hh=>(N id hh).2 rfl
     refine aP R2 (cM cl fl sl) (by rw [← cM cl fl sl]; omega) (hv:=by rcases S2 with ⟨rfl,_⟩ | ⟨id,b,rfl,_⟩ <;> rfl) (hs:=by rcases S2 with ⟨rfl,_⟩ | ⟨id,b,rfl,_⟩ <;> rfl) (hc:=by rcases S2 with ⟨rfl,_⟩ | ⟨id,b,rfl,_⟩ <;> rfl) (hk:=fun h3 l3 U3 R3=>?_)
     rw [Nat.zero_add,aBR cl fl] at R3
     refine aP R3 (cM cl fl sl) (by rw [← cM cl fl sl]; omega) (hk:=fun h4 l4 U4 R4=>?_)
     rw [Nat.zero_add,show 49=49+0 from rfl,j9 cl fl sl] at R4
     have hidh:=R.lt
     have ne:∀ i,aQ sym' i→h0.length≤i∧i≠id:=fun i hi=>by
      rcases N2 i hi with g | g
      ·exact N i g
      ·have:=U.1; exact ⟨by omega,by omega⟩
     refine nxt h4 sym' (((U.ownP U2 fun i hi=>(N i hi).1).own U3 hid).own U4 hid) ?_ ?_ ne
     ·rw [if_neg (by simp)]; exact R4
     ·rw [← List.append_assoc, fA, show bB [0 + (l.take i).length] = [iN i] by simp [bB]; omega]
      exact (S2.upd U3 fun i hi e=>(ne i hi).2 e).upd U4 fun i hi e=>(ne i hi).2 e
    ·have e : ¬ x = n + 1 := by simp at e; omega
     rw [nN,if_neg e,List.append_nil] at nxt
     exact nxt h sym U R S N
  refine R0.len ?_
  refine inn l.length 0 h1 sym (by omega) (U.own U1 hid) ?_ ?_ N
  ·exact R1
  ·rw [show jQ (n+1) (l.take 0) 0=[] from rfl,List.append_nil]; exact S.upd U1 fun i hi e=>(N i hi).2 e
theorem rH (R:RdI 1 h v (bB l) l.length) (hl:l.length≤320) (h15:∀ x∈l,x≤15) (hq0:Huff.checkP l≠0→∀ e:Int,e≠0→Q (.tu [.p none,.i .i64 e]) h)
  (hq:Huff.checkP l=0→∀ h' id sym,Upd (fun _=>False) h h'→b9 h' (fun i=>h.length≤i) id l sym 0 0→Q (.tu [cp id,iN 0]) h'):C Y13.id [v] h Q:=by
 refine Y13.call ?_
 simp only [Y13.t, ← Y13.p0.eq_1]
 refine zP R hl h15 (aC ?_)
 by_cases hok:Huff.checkP l=0
 ·have e : gY l = 0 := by simp only [gY, hok]
  rw [e]
  refine aL rfl (y8 hl h15 R fun h1 U1=>?_)
  refine aAI (aHW (c:=eI l) (f:=(List.range 16).map (Huff.fst l)) (cB l) aBD) ?_
  refine bQ (hk:=fun h2 l2 U2 R2=>?_)
  have U:=U1.then U2
  have hlen:(AV.ag (eA (eI l) ((List.range 16).map (Huff.fst l)) (.sl none 0 none) (List.replicate 16 0) 0 0 0)).parts.length=52:=(cM (cB l) aBD (by simp)).symm
  rw [hlen]
  refine aF3 hl h15 hok R (id:=h1.length) U1.1 (fun h' sym=>hq hok h' _ sym) 15 0 h2 _ (by omega) U ?_ (.inl ⟨rfl,rfl⟩) fun i hi=>hi.elim
  rw [yN]
  exact R2
 ·have e : gY l ≠ 0 := by
   unfold gY
   split
   ·contradiction
   ·decide
   ·decide
  refine aW (by simp [e]) (.inl (hq0 hok _ e))
theorem aHD (x:Nat) {b:Nat} (hb:b<2):2 * x ||| b=2 * x+b:=(Nat.two_pow_add_eq_or_of_lt (i:=1) hb x).symm
theorem z7 {b:Nat} (hb:b<2):b &&& 1=b:=by
 obtain rfl | rfl:b=0∨b=1:=by omega
 ·rfl
 ·rfl
theorem aE4 {h0':aA} {G:Nat→Prop} {id n x s:Nat} {sym:AV} {b:Bool} {e:Int} {ca:List AV} (hc:cZ l sym 0 0=(ca.set 50 (iN 0)).set 51 (iN 0)) (hl:ca.length=52) (R:bC h id ca) (hq:∀ h',Upd (· = id) h h'→bC h' id (cZ l sym 0 0)→Q (.tu [iN s,.b b,.i .i64 e]) h') :
  Y25.p1 (aH h0' Q) (cp id) s b e h:=by
 refine Y25.i1 ?_
 simp only [Y25.t1,bF,bD]
 refine aP R hl.symm (by rw [hl]; omega) (hk:=fun h1 l1 U1 R1=>?_)
 refine aP R1 (by simp [hl]) (by simp [hl]) (hk:=fun h2 l2 U2 R2=>?_)
 refine .inl (hq h2 (U1.trans U2 fun _ _ h=>h) ?_)
 rw [hc]
 exact R2
end
end Go.Proofs.YtpaphfeihpgamaaDoor
namespace Go.Proofs.YtpaphfeihpgamaaDoor
open Go.GAM
section
variable [XR] {h:aA} {Q:AV→aA→Prop} {l:List Nat}
omit [XR] in
theorem zE {f:Nat→Nat} {n:Nat} (h:n<16):((List.range 16).map f)[n]? = some (f n):=by simp [h]
theorem aF8 {h0' : aA} {G : Nat → Prop} {id N X : Nat} {sym : AV} {t : Bool} (A : b9 h G id l sym N X) (hN0 : 0 < N) (hN : N ≤ 16) (hX : X < 2 ^ 16) (ht : t = decide (N ≤ Huff.longest l ∧ X - Huff.fst l N < Huff.cnt l N ∧ Huff.fst l N ≤ X))
  (hq:∀ h',Upd (· = id) h h'→match Huff.stepP l N X with
   | .sym i=>bC h' id (cZ l sym 0 0)→i<l.length→Q (.tu [iN i,.b true,iN 0]) h'
   | .more=>bC h' id (cZ l sym N X)→Q (.tu [iN 0,.b false,iN 0]) h'
   | .bad=>bC h' id (cZ l sym 0 0)→Q (.tu [iN 0,.b false,iN 2]) h'):Y25.p0 (aH h0' Q) (cp id) 0 false 0 N t h:=by
 have R:=A.recd
 have hlong:Huff.longest l≤15:=by
  rw [← fV A.le]
  have:∀ n,lg l n≤n:=by
   intro n
   induction n with
   | zero=>exact Nat.le_refl _
   | succ n ih=>unfold lg; split <;> omega
  exact this 15
 have cl:=cB l
 have fl:=aBD (l:=l)
 have sl:((List.range 16).map (dB l)).length=16:=by simp
 rw [eE] at R
 have tl:=cM (sym:=sym) (g:=Huff.longest l) (x:=X) (n:=N) cl fl sl
 have fin:∀ {s:Nat} {b:Bool} {e:Int},(∀ h',Upd (· = id) h h'→bC h' id (cZ l sym 0 0)→Q (.tu [iN s,.b b,.i .i64 e]) h')→Y25.p1 (aH h0' Q) (cp id) s b e h:=fun {s b e} hf=>by
  refine aE4 (l:=l) (sym:=sym) (G:=G) (n:=N) (x:=X) ?_ tl.symm R hf
  rw [eE,show 50=49+1 from rfl,show 51=49+2 from rfl,j9 cl fl sl]
  have:=j9 (c:=eI l) (f:=(List.range 16).map (Huff.fst l)) (sym:=sym) (s:=(List.range 16).map (dB l)) (g:=Huff.longest l) (x:=0) (n:=N) (i:=2) (v:=iN 0) cl fl sl
  unfold eA at this ⊢
  exact this.symm
 refine Y25.i0 ?_
 simp only [Y25.t0,bF,bD, ← Y25.p1.eq_1]
 by_cases hc:N≤Huff.longest l∧X - Huff.fst l N<Huff.cnt l N∧Huff.fst l N≤X
 ·rw [decide_eq_true hc] at ht
  refine aW ht ?_
  obtain ⟨hc1,hc2,hc3⟩:=hc
  obtain ⟨j,hj,_,hjl,_⟩:=Huff.pick_some hN0 hc2
  have hst:Huff.stepP l N X = .sym j:=by
   unfold Huff.stepP
   rw [if_pos ⟨hc1,hc2,hc3⟩,hj] <;> rfl
  rw [hst] at hq
  have hsy:=aGX hN0 (by omega) hj
  have hsl:=aM hsy
  have b1:=oK l N
  have b2:N * l.length≤16 * 320:=Nat.mul_le_mul hN A.len
  have b3:=mA l N
  have b4:=A.len
  refine aE R tl (uH cl fl) ?_
  refine ⟨by omega,by omega, ?_⟩
  refine aE R tl (o:=33+(N:Int).toNat * 1) (v:=iN (dB l N)) ?_ (aC ?_)
  ·rw [Int.toNat_natCast,Nat.mul_one]; exact aBB cl fl (zE (by omega))
  refine aE R tl (o:=49+1) (e9 cl fl sl) (aC ?_)
  refine bS (n:=((dB l N+X:Nat):Int)) (by omega) (by omega) (by omega) ?_
  refine ⟨by omega,by omega, ?_⟩
  refine aE R tl (o:=16+(N:Int).toNat * 1) (v:=iN (Huff.fst l N)) ?_ (aC ?_)
  ·rw [Int.toNat_natCast,Nat.mul_one]; exact tV cl fl (zE (by omega))
  refine bS (n:=((dB l N+(X - Huff.fst l N):Nat):Int)) (by omega) (by omega) (by omega) ?_
  refine cO A.syms hsy ?_
  exact fin fun h' U R'=>hq h' U R' hjl
 ·rw [decide_eq_false hc] at ht
  refine aL ht ?_
  refine aE R tl (o:=49+0) (e9 cl fl sl) (aC ?_)
  refine aG ?_ ?_ <;> intro e
  ·have e : N < Huff.longest l := by simp at e; omega
   have hst:Huff.stepP l N X = .more:=by
    unfold Huff.stepP
    rw [if_neg hc,if_pos e]
   rw [hst] at hq
   exact .inl (hq h (Upd.refl _ _) A.recd)
  ·have e : ¬ N < Huff.longest l := by simp at e; omega
   have hst:Huff.stepP l N X = .bad:=by
    unfold Huff.stepP
    rw [if_neg hc,if_neg e]
   rw [hst] at hq
   exact fin (s:=0) (b:=false) (e:=2) fun h' U R'=>hq h' U R'
theorem aHM {G:Nat→Prop} {id n x b:Nat} {sym:AV} (A:b9 h G id l sym n x) (hn:n≤15) (hx:x<2 ^ n) (hb:b<2)
  (hq:∀ h',Upd (· = id) h h'→match Huff.stepP l (n+1) (2 * x+b) with
   | .sym i=>bC h' id (cZ l sym 0 0)→i<l.length→Q (.tu [iN i,.b true,iN 0]) h'
   | .more=>bC h' id (cZ l sym (n+1) (2 * x+b))→Q (.tu [iN 0,.b false,iN 0]) h'
   | .bad=>bC h' id (cZ l sym 0 0)→Q (.tu [iN 0,.b false,iN 2]) h'):C Y25.id [cp id,iN b] h Q:=by
 have R:=A.recd
 have cl:=cB l
 have fl:=aBD (l:=l)
 have sl:((List.range 16).map (dB l)).length=16:=by simp
 rw [eE] at R
 have tl:=cM (sym:=sym) (g:=Huff.longest l) (x:=x) (n:=n) cl fl sl
 have hx15:x<2 ^ 15:=Nat.lt_of_lt_of_le hx (Nat.pow_le_pow_right (by decide) hn)
 refine Y25.call ?_
 simp only [Y25.t, ← Y25.p0.eq_1]
 refine dI (by kernel_rfl) (aV (aL rfl ?_))
 simp only [bF,bD]
 refine aE R tl (o:=49+1) (e9 cl fl sl) (aC ?_)
 have sh:∀ K:Int→Prop,K ((2 * x:Nat):Int)→jX .i64 (x:Int) 1 K:=fun K hk=>eM (b:=1) (by omega) (by omega) (by rw [show x * 2 ^ 1=2 * x by omega]; exact hk)
 refine sh _ ?_
 have hand:bO .and .i64 (b:Int) 1=(b:Int):=by
  have:=fW (x:=b) (y:=1) (by omega) (by decide)
  rw [z7 hb] at this
  exact this
 rw [hand]
 have hor:bO .or .i64 ((2 * x:Nat):Int) (b:Int)=((2 * x+b:Nat):Int):=by
  rw [zH (by omega) (by omega),aHD x hb]
 refine aX hor ?_
 refine aE R tl (o:=49+2) (e9 cl fl sl) (aC (inc (by omega) ?_))
 refine aP R tl (o:=49+1) (by rw [← tl]; omega) (hk:=fun h1 l1 U1 R1=>?_)
 rw [j9 cl fl sl] at R1
 have R1:bC h1 id (eA (eI l) ((List.range 16).map (Huff.fst l)) sym ((List.range 16).map (dB l)) (Huff.longest l) (2 * x+b) n):=R1
 refine aP R1 (cM cl fl sl) (o:=49+2) (by rw [← cM cl fl sl]; omega) (hk:=fun h2 l2 U2 R2=>?_)
 rw [j9 cl fl sl] at R2
 have R2:bC h2 id (eA (eI l) ((List.range 16).map (Huff.fst l)) sym ((List.range 16).map (dB l)) (Huff.longest l) (2 * x+b) (n+1)):=R2
 have U:=U1.trans U2 fun _ _ h=>h
 have A2:b9 h2 G id l sym (n+1) (2 * x+b):={ A with recd:=by rw [eE]; exact R2,syms:=A.syms.upd U fun i hi e=>(A.gs i hi).2.1 e,gs:=fun i hi=>⟨(A.gs i hi).1,(A.gs i hi).2.1,Nat.lt_of_lt_of_le (A.gs i hi).2.2 U.1⟩ }
 have tl2:=cM (sym:=sym) (g:=Huff.longest l) (x:=2 * x+b) (n:=n+1) cl fl sl
 have fb:=mB A.len (n:=n+1)
 have hlong:Huff.longest l≤15:=by
  rw [← fV A.le]
  have:∀ n,lg l n≤n:=by
   intro n
   induction n with
   | zero=>exact Nat.le_refl _
   | succ n ih=>unfold lg; split <;> omega
  exact this 15
 have P0:∀ t,t=decide (n+1≤Huff.longest l∧2 * x+b - Huff.fst l (n+1)<Huff.cnt l (n+1)∧Huff.fst l (n+1)≤2 * x+b)→Y25.p0 (aH h Q) (cp id) 0 false 0 ((n+1:Nat):Int) t h2:=fun t ht=>
  aF8 A2 (by omega) (by omega) (by omega) ht fun h' U'=>hq h' (U.trans U' fun _ _ h=>h)
 refine aE R2 tl2 (o:=49+2) (e9 cl fl sl) (aC ?_)
 refine aE R2 tl2 (o:=49+0) (e9 cl fl sl) (aC ?_)
 refine aG ?_ ?_ <;> intro e
 ·have e : n + 1 ≤ Huff.longest l := by simp at e; omega
  have fb:=fb (by omega)
  have b3:=mA l (n+1)
  have b4:=A.len
  refine aE R2 tl2 (o:=49+1) (e9 cl fl sl) (aC ?_)
  refine ⟨by omega,by omega, ?_⟩
  refine aE R2 tl2 (o:=16+((n+1:Nat):Int).toNat * 1) (v:=iN (Huff.fst l (n+1))) ?_ (aC ?_)
  ·rw [Int.toNat_natCast,Nat.mul_one]; exact tV cl fl (zE (by omega))
  refine bS (n:=((2 * x+b:Nat):Int) - (Huff.fst l (n+1):Nat)) rfl (by omega) (by omega) ?_
  refine ⟨by omega,by omega, ?_⟩
  refine aE R2 tl2 (o:=0+((n+1:Nat):Int).toNat * 1) (v:=iN (Huff.cnt l (n+1))) ?_ (aC ?_)
  ·rw [Int.toNat_natCast,Nat.mul_one,Nat.zero_add]; exact aFI cl fl (mI l (by omega))
  refine aG ?_ ?_ <;> intro e2
  ·refine aE R2 tl2 (o := 49 + 1) (e9 cl fl sl) (aC ?_)
   refine ⟨by omega,by omega, ?_⟩
   refine aE R2 tl2 (o:=16+((n+1:Nat):Int).toNat * 1) (v:=iN (Huff.fst l (n+1))) ?_ (aC ?_)
   ·rw [Int.toNat_natCast,Nat.mul_one]; exact tV cl fl (zE (by omega))
   refine P0 _ ?_
   simp only [decide_eq_true_eq] at e2
   rw [decide_eq_decide]; omega
  ·refine P0 _ ?_
   simp only [decide_eq_false_iff_not] at e2
   refine (decide_eq_false ?_).symm
   omega
 ·have e : ¬ n + 1 ≤ Huff.longest l := by simp at e; omega
  refine P0 _ (decide_eq_false fun hh=>e hh.1).symm
end
end Go.Proofs.YtpaphfeihpgamaaDoor
namespace Go.Proofs.YtpaphfeihpgamaaDoor
open Go.GAM
theorem cR.mono {h:aA} {G G':Nat→Prop} {v:AV} {l:List Nat} (A:cR h G v l) (hG:∀ i,i<h.length→G i→G' i):cR h G' v l:=A.upd (Upd.refl (fun _=>False) h) (fun _ _ h=>h) hG
theorem cR.rd {h:aA} {G:Nat→Prop} {v:AV} {l:List Nat} (A:cR h G v l):Rd 1 h v (bB l) l.length:=by
 obtain ⟨id,b,rfl,h1,h2,h3,h4,h5,g⟩:=A
 have e:b.cells.length=l.length:=by rw [h2,aY]
 exact .inr ⟨id,_,0,none,b,rfl,h1,.inl h5,by omega,by omega,by omega,by rw [h2,List.drop_zero,Nat.mul_one, ← aY l,List.take_length]⟩
theorem mN {h:aA} {K:AV→aA→Prop} {n:Nat} (hn:n≤1000) (hk:∀ v h',Upd (fun _=>False) h h'→cR h' (fun i=>h.length≤i) v (List.replicate n 0)→K v h'):nB 1 8 [.i .i64 0] (.i .i64 (n:Int)) (.i .i64 (n:Int)) h K:=by
 refine ⟨by omega,by omega,by omega,by omega,rfl,Nat.one_pos, ?_⟩
 refine hk _ _ (Upd.app _ _) ⟨h.length,bE (List.replicate n (.i .i64 0)) 1 true, ?_, ?_, ?_, ?_,rfl,rfl,Nat.le_refl _⟩
 ·rw [Int.toNat_natCast,Nat.mul_one,List.length_replicate]
 ·rw [Int.toNat_natCast,wS,List.getElem?_append_right (Nat.le_refl _),Nat.sub_self] <;> rfl
 ·simp [bE,bB]
 ·simp [bE]
theorem tS:∀ (ws pre cs:List AV),ws.length≤cs.length→wr (pre++cs) pre.length ws=pre++(ws++cs.drop ws.length)
 | [],pre,cs,h=>by simp [wr]
 | w :: ws,pre,[],h=>by simp at h
 | w :: ws, pre, c :: cs, h => by
  simp only [wr]
  have e:(pre++c :: cs).set pre.length w=(pre++[w])++cs:=by simp
  rw [e]
  have:=tS ws (pre++[w]) cs (by simpa using h)
  simpa using this
theorem aGY:∀ n:Fin 300,bO .and .u64 ((n.1:Nat):Int) 4294967295=(n.1:Int)∧((n.1:Nat):Int).fdiv (2 ^ (min (32:Int).toNat IntKind.u64.bits))=0∧IntKind.wrap .u64 (1 * ((n.1:Nat):Int))=(n.1:Int):=by decide +kernel
section
variable [XR] {h:aA} {Q:AV→aA→Prop}
theorem aIW {n:Nat} (hn:n<300) (hq:Q (.tu [.i .u64 0,.i .u64 (n:Int)]) h):C Y71.id [.i .u64 1,.i .u64 (n:Int)] h Q:=by
 obtain ⟨m1,m2,m3⟩:=aGY ⟨n,hn⟩
 simp only at m1 m2 m3
 refine Y71.call ?_
 simp only [Y71.t]
 refine Y91.call ?_
 simp only [Y91.t]
 have z:Int.fdiv 0 (2 ^ (min (32:Int).toNat IntKind.u64.bits))=0:=by decide
 have o:Int.fdiv 1 (2 ^ (min (32:Int).toNat IntKind.u64.bits))=0:=by decide
 refine aX (n:=1) (by decide) ⟨by decide, ?_⟩
 rw [o]
 refine aX m1 ⟨by decide, ?_⟩
 rw [m2]
 refine aX m3 (aX (n:=0) (by rw [Int.zero_mul]; decide) ⟨by decide, ?_⟩)
 rw [m2]
 refine aX (n:=0) (by decide) (aX (n:=0) (by decide) ⟨by decide, ?_⟩)
 rw [z]
 refine aX (n:=0) (by decide) (aX (n:=0) (by decide) (aX (n:=0) (by decide) (aX (n:=0) (by decide) ⟨by decide, ?_⟩)))
 rw [z]
 refine aX (n:=0) (by decide) (aX m3 (.inl ?_))
 exact ⟨by simp,lL ⟨by simp,lL (.inl hq)⟩⟩
theorem aDG {h0 : aA} {n y : Nat} (hn : n < 300) (hq : ∀ h' v, Upd (fun _ => False) h0 h' → cR h' (fun i => h0.length ≤ i) v (List.replicate n y) → Q v h') :
  ∀ (f m:Nat) (h:aA) (v:AV),0<m→m+f=n→Upd (fun _=>False) h0 h→cR h (fun i=>h0.length≤i) v (List.replicate m y++List.replicate f 0)→Y27.p1 (aH h0 Q) v m h:=by
 intro f
 induction f using Nat.strongRecOn with
 | _ f ih =>
  intro m h v hm hmf U A
  refine Y27.i1 ?_
  simp only [Y27.t1, ← Y27.p1.eq_1]
  refine A.rd.len ?_
  have hlen:(List.replicate m y++List.replicate f 0).length=n:=by simp; omega
  rw [hlen]
  by_cases hf:f=0
  ·subst hf
   refine aL (by simp; omega) (.inl (hq h v U ?_))
   rw [List.replicate_zero,List.append_nil,show m=n by omega] at A
   exact A
  ·refine aW (by simp; omega) ?_
   obtain ⟨id,b,rfl,h1,h2,h3,h4,h5,g⟩:=A
   have hbl:b.cells.length=n:=by rw [h2,aY,hlen]
   rw [hlen] at h3 ⊢
   refine ⟨Nat.one_pos,(fun hh=>by cases hh),⟨by omega,by simp; omega,b,h1,by omega,by show b.floor≤n; omega,.inl h5,.inl (Nat.le_refl _), ?_⟩⟩
   refine ⟨Nat.one_pos,(fun hh=>by cases hh),⟨by omega,Nat.zero_le _,b,h1,by omega,by show b.floor≤n; omega,.inl h5,.inl (by simp; omega), ?_⟩⟩
   rw [Int.toNat_natCast]
   have hnews:∀ K:List AV→Nat→Prop,K (bB (List.replicate m y)) m→eK 1 (.sl (some ⟨id,n,0+0 * 1⟩) (m - 0) (Option.map (fun x=>x - 0) (none:Option Nat))) h K:=fun K hk=>by
    refine .inr ⟨b,h1,⟨by simp only; omega,by simp only; omega,by simp only; omega⟩, ?_⟩
    rw [h2,fA]
    have:((bB (List.replicate m y)++bB (List.replicate f 0)).drop (0+0 * 1)).take ((m - 0) * 1)=bB (List.replicate m y):=by
     rw [show 0+0 * 1=0 from rfl,List.drop_zero,show (m - 0) * 1=m by omega]
     exact List.take_left' (by simp [bB])
    simp only [this]
    exact hk
   refine ⟨Nat.one_pos,hnews _ ?_⟩
   refine ⟨b,h1,h5,⟨by simp only; omega,by simp only; omega,by simp only; omega⟩,h4,by simp only; omega, ?_, ?_⟩
   ·rw [List.all_eq_true]
    intro x hx
    exact List.all_eq_true.1 (kV (List.replicate m y)) x (List.mem_of_mem_take hx)
   refine aC ?_
   refine bS (n:=((m+min m f:Nat):Int)) (by omega) (by omega) (by omega) ?_
   refine ih (f - min m f) (by omega) (m+min m f) _ _ (by omega) (by omega) (U.own (Upd.set _ _ _) g) ?_
   have hl2:(List.replicate (m+min m f) y++List.replicate (f - min m f) 0).length=n:=by simp; omega
   have hcells:wr b.cells (0+m * 1) ((bB (List.replicate m y)).take (min m (n - m) * 1))=bB (List.replicate (m+min m f) y++List.replicate (f - min m f) 0):=by
    rw [h2,fA]
    have:=tS ((bB (List.replicate m y)).take (min m (n - m) * 1)) (bB (List.replicate m y)) (bB (List.replicate f 0)) (by rw [List.length_take,aY,aY]; simp; omega)
    rw [aY,List.length_replicate] at this
    rw [show 0+m * 1=m by omega,this]
    rw [List.length_take,aY,List.length_replicate,show n - m=f by omega]
    unfold bB
    rw [← List.map_take, ← List.map_drop,List.take_replicate,List.drop_replicate, ← List.map_append, ← List.map_append]
    congr 1
    rw [show min (min m f * 1) m=min m f by omega, ← List.append_assoc,List.replicate_append_replicate]
   refine ⟨id,{ b with cells:=wr b.cells (0+m * 1) ((bB (List.replicate m y)).take (min m (n - m) * 1)),floor:=b.cells.length }, ?_, ?_,hcells, ?_,h4,h5,g⟩
   ·rw [hl2]
   ·rw [List.getElem?_set_self (aM h1)]
   ·show b.cells.length≤_; rw [hl2]; omega
theorem vB {x:AV} {n y:Nat} (R:RdI 1 h x (bB [y]) 1) (h0:0<n) (hn:n<300) (hq:∀ h' v,Upd (fun _=>False) h h'→cR h' (fun i=>h.length≤i) v (List.replicate n y)→Q v h') :
  C Y27.id [x,iN n] h Q:=by
 refine Y27.call ?_
 simp only [Y27.t, ← Y27.p0.eq_1]
 refine aL (by simp) (R.len ?_)
 have e1:IntKind.wrap .u64 ((1:Nat):Int)=1:=by decide
 have e2:IntKind.wrap .u64 (n:Int)=(n:Int):=by have:=(aGY ⟨n,hn⟩).2.2; rw [Int.one_mul] at this; exact this
 rw [e1,e2]
 refine aIW hn ⟨by simp,lL ⟨by simp,lL ?_⟩⟩
 refine aL rfl ?_
 refine Y27.i0 ?_
 simp only [Y27.t0, ← Y27.p1.eq_1]
 refine aL (by simp; omega) ?_
 rw [bA (by omega) (by omega)]
 refine mN (by omega) fun v h1 U1 A1=>?_
 have R1:=R.ext U1
 refine ⟨Nat.one_pos,R1.news ?_⟩
 obtain ⟨id,b,rfl,k1,k2,k3,k4,k5,g⟩:=A1
 have hbl:b.cells.length=n:=by rw [k2,aY]; simp
 rw [List.length_replicate] at k3 ⊢
 refine ⟨b,k1,k5,⟨by simp only; omega,by simp only; omega,by simp only; omega⟩,k4,by simp only; omega, ?_, ?_⟩
 ·rw [List.all_eq_true]
  intro x hx
  exact List.all_eq_true.1 (kV [y]) x (List.mem_of_mem_take hx)
 refine aC ?_
 rw [show min 1 n=1 by omega]
 refine aDG hn hq (n - 1) 1 _ _ (by omega) (by omega) (U1.own (Upd.set _ _ _) g) ?_
 refine ⟨id,{ b with cells:=wr b.cells 0 ((bB [y]).take (1 * 1)),floor:=b.cells.length }, ?_,by rw [List.getElem?_set_self (aM k1)], ?_, ?_,k4,k5,g⟩
 ·simp; omega
 ·show wr b.cells 0 (bB [y]) = _
  rw [k2]
  have:=tS (bB [y]) [] (bB (List.replicate n 0)) (by rw [aY,aY]; simp; omega)
  simp only [List.nil_append,List.length_nil] at this
  rw [this,fA,aY]
  unfold bB
  rw [← List.map_drop,List.drop_replicate] <;> rfl
 ·show b.cells.length≤_; simp; omega
theorem aCH:∀ i,i<288→Infl.fixedL[i]? = some (if i<144∨280≤i then 8 else if i<256 then 9 else 7):=by decide +kernel
theorem y6 {h0 : aA} (hq : ∀ h' v w, Upd (fun _ => False) h0 h' → RdI 1 h' v (bB Infl.fixedL) Infl.fixedL.length → RdI 1 h' w (bB Infl.fixedD) Infl.fixedD.length → (∀ j, aQ v j → h0.length ≤ j) → (∀ j, aQ w j → h0.length ≤ j) → Q (.tu [v, w]) h') :
  ∀ (m i:Nat) (h:aA) (v:AV),i+m=288→Upd (fun _=>False) h0 h→Stk h v (bB (Infl.fixedL.take i))→(∀ j,aQ v j→h0.length≤j)→Y17.p0 (aH h0 Q) v i h:=by
 intro m
 induction m with
 | zero =>
  intro i h v hi U S N
  obtain rfl:i=288:=by omega
  refine Y17.i0 ?_
  simp only [Y17.t0]
  refine aL (by decide) ?_
  refine dZ (cs:=bB [5]) rfl rfl fun y h1 l1 U1 R1 F1=>?_
  have S1:=S.upd U1 fun _ _ h=>h
  refine vB (n:=32) (y:=5) R1.i (by decide) (by decide) fun h2 w U2 A2=>?_
  have S2:=S1.upd U2 fun _ _ h=>h
  refine .inl (hq h2 v w ((U.then U1).then U2) ?_ A2.rd.i N fun j hj=>?_)
  rotate_left
  ·obtain ⟨id, b, rfl, _, _, _, _, _, g⟩ := A2
   cases hj
   have g:h1.length≤id:=g
   have:=U.1
   show h0.length≤id
   omega
  have:=S2.rd.i
  rw [aY,show Infl.fixedL.take 288=Infl.fixedL from by decide +kernel] at this
  exact this
 | succ m ih =>
  intro i h v hi U S N
  have hil:(Infl.fixedL.take i).length≤288:=by rw [List.length_take]; omega
  have hL:=aCH i (by omega)
  have push:∀ (c:Nat),Infl.fixedL[i]? = some c→∀ (K:AV→aA→Prop),(∀ v' h',Y17.p2 (aH h0 Q) v' i h'→K v' h')→(bN 1 1 [.i .i64 0] [(0,1,iN c)] h fun y h1=>bW none 1 8 v y h1 K):=fun c hc K hk=>by
   refine S.push rfl rfl (by rw [aY]; omega) (by rw [aY]; omega) fun v' h' U' S' N'=>hk v' h' ?_
   refine Y17.i2 ?_
   simp only [Y17.t2, ← Y17.p0.eq_1]
   refine inc (by omega) (ih (i+1) h' v' (by omega) (U.ownP U' N) ?_ fun j hj=>?_)
   ·rw [dR hc,fA]; exact S'
   ·rcases N' j hj with g | g
    ·exact N j g
    ·have:=U.1; omega
  have P1:∀ t,t=decide (i<144∨280≤i)→Y17.p1 (aH h0 Q) v i i t h:=fun t ht=>by
   refine Y17.i1 ?_
   simp only [Y17.t1, ← Y17.p2.eq_1]
   by_cases hc:i<144∨280≤i
   ·rw [decide_eq_true hc] at ht
    rw [if_pos hc] at hL
    exact aW ht (push 8 hL _ fun v' h' hp=>hp)
   ·rw [decide_eq_false hc] at ht
    rw [if_neg hc] at hL
    refine aL ht ?_
    refine aG ?_ ?_ <;> intro e
    ·rw [if_pos (by simp at e; omega)] at hL
     exact push 9 hL _ fun v' h' hp=>hp
    ·rw [if_neg (by simp at e; omega)] at hL
     exact push 7 hL _ fun v' h' hp=>hp
  refine Y17.i0 ?_
  simp only [Y17.t0, ← Y17.p1.eq_1]
  refine aW (by simp; omega) ?_
  refine aG ?_ ?_ <;> intro e
  ·exact P1 _ (decide_eq_true (by simp at e; omega)).symm
  ·refine P1 _ ?_
   simp only [decide_eq_false_iff_not] at e
   rw [decide_eq_decide]; omega
theorem jU (hq:∀ h' v w,Upd (fun _=>False) h h'→RdI 1 h' v (bB Infl.fixedL) Infl.fixedL.length→RdI 1 h' w (bB Infl.fixedD) Infl.fixedD.length→(∀ j,aQ v j→h.length≤j)→(∀ j,aQ w j→h.length≤j)→Q (.tu [v,w]) h'):C Y17.id [] h Q:=by
 refine Y17.call ?_
 simp only [Y17.t, ← Y17.p0.eq_1]
 exact y6 hq 288 0 h _ rfl (Upd.refl _ _) (.inl ⟨rfl,rfl⟩) fun _ h=>h.elim
end
end Go.Proofs.YtpaphfeihpgamaaDoor
namespace Go.Proofs.YtpaphfeihpgamaaDoor
open Go.GAM
open Go.Infl (bL cV bY Out Lim)
theorem m8:∀ x,x<286→257≤x→(Infl.least x).1+2 ^ (Infl.least x).2≤300∧(Infl.least x).2≤16:=by decide +kernel
theorem uV:∀ x,x<30→0<(Infl.farOf x).1∧(Infl.farOf x).1+2 ^ (Infl.farOf x).2≤32769∧(Infl.farOf x).2≤16:=by decide +kernel
section
variable [XR] {h:aA} {Q:AV→aA→Prop} {L:Lim} {F:Nat→Prop} {d:Nat} {r:DR} {out:List UInt8} {told:Nat}
theorem qE {x:Nat} (h1:257≤x) (h2:x≤285) (hq:Q (.tu [iN (Infl.least x).1,iN (Infl.least x).2]) h):C Y52.id [iN x] h Q:=by
 refine Y52.call ?_
 simp only [Y52.t]
 unfold Infl.least at hq
 refine aG ?_ ?_ <;> intro e
 ·have e : x ≤ 264 := by simp at e; omega
  rw [if_pos e] at hq
  exact bS (n:=((x - 254:Nat):Int)) (by omega) (by omega) (by omega) (.inl hq)
 ·have e : ¬ x ≤ 264 := by simp at e; omega
  rw [if_neg e] at hq
  refine aG ?_ ?_ <;> intro e2
  ·have e2 : x = 285 := by simp at e2; omega
   rw [if_pos e2] at hq
   exact .inl hq
  ·have e2 : ¬ x = 285 := by simp at e2; omega
   rw [if_neg e2] at hq
   refine bS (n:=((x - 261:Nat):Int)) (by omega) (by omega) (by omega) ?_
   refine kF (n:=(((x - 261) / 4:Nat):Int)) (by decide) (by rw [Int.tdiv_eq_ediv_of_nonneg (by omega),bA (by omega) (by omega)]; omega) ?_
   refine bS (n:=((x - 265:Nat):Int)) (by omega) (by omega) (by omega) ?_
   refine lR (n:=(((x - 265) % 4:Nat):Int)) (by decide) (by rw [Int.tmod_eq_emod_of_nonneg (by omega)]; omega) ?_
   refine bS (n:=((4+(x - 265) % 4:Nat):Int)) (by omega) (by omega) (by omega) ?_
   have hp:2 ^ ((x - 261) / 4)≤2 ^ 6:=Nat.pow_le_pow_right (by decide) (by omega)
   have hm:(4+(x - 265) % 4) * 2 ^ ((x - 261) / 4)≤8 * 2 ^ 6:=Nat.mul_le_mul (by omega) hp
   refine eM (by omega) (by omega) ?_
   generalize (4+(x - 265) % 4) * 2 ^ ((x - 261) / 4)=y at *
   exact bS (n:=((y+3:Nat):Int)) (by omega) (by omega) (by omega) (.inl hq)
theorem lN {x:Nat} (h2:x≤29) (hq:Q (.tu [iN (Infl.farOf x).1,iN (Infl.farOf x).2]) h):C Y49.id [iN x] h Q:=by
 refine Y49.call ?_
 simp only [Y49.t]
 unfold Infl.farOf at hq
 refine aG ?_ ?_ <;> intro e
 ·have e : x < 4 := by simp at e; omega
  rw [if_pos e] at hq
  exact inc (by omega) (.inl hq)
 ·have e : ¬ x < 4 := by simp at e; omega
  rw [if_neg e] at hq
  refine kF (n:=((x / 2:Nat):Int)) (by decide) (by rw [Int.tdiv_eq_ediv_of_nonneg (by omega),bA (by omega) (by omega)]; omega) ?_
  refine bS (n:=((x / 2 - 1:Nat):Int)) (by omega) (by omega) (by omega) ?_
  refine lR (n:=((x % 2:Nat):Int)) (by decide) (by rw [Int.tmod_eq_emod_of_nonneg (by omega)]; omega) ?_
  refine bS (n:=((2+x % 2:Nat):Int)) (by omega) (by omega) (by omega) ?_
  have hp:2 ^ (x / 2 - 1)≤2 ^ 13:=Nat.pow_le_pow_right (by decide) (by omega)
  have hm:(2+x % 2) * 2 ^ (x / 2 - 1)≤4 * 2 ^ 13:=Nat.mul_le_mul (by omega) hp
  refine eM (by omega) (by omega) ?_
  generalize (2+x % 2) * 2 ^ (x / 2 - 1)=y at *
  exact inc (by omega) (.inl hq)
theorem oQ {a b:List Nat} {ia ib:Nat} {syma symb:AV} (D:Dec L h F d r out told) (hF:∀ i,h.length≤i→F i) (hd:r.done=false) (T:Two h (Gd F d r) ia syma a ib symb b)
  (hq:∀ e h' r',cP (· = d) L h F d r told (Infl.litW ⟨out,r.last,r.skip⟩ a b) e h' r'→Q (.i .i64 e) h'):C Y51.id [dp d,cp ia,cp ib] h Q:=by
 refine Y51.call ?_
 simp only [Y51.t]
 refine bQ (hk:=fun h1 l1 U1 R1=>?_)
 refine bQ (hk:=fun h2 l2 U2 R2=>?_)
 refine bQ (hk:=fun h3 l3 U3 R3=>?_)
 have U:=(U1.then U2).then U3
 have R1:=(R1.upd U2 fun h=>h).upd U3 fun h=>h
 have R2:=R2.upd U3 fun h=>h
 have ha:=T.1.recd.lt
 have hb:=T.2.recd.lt
 have G:∀ {i},h.length≤i→Gd F d r i∧i≠ia:=fun hi=>⟨D.gd hF hi,by omega⟩
 have B1:Bx h3 (fun i=>Gd F d r i∧i≠ia) (.p (some ⟨h.length,1,0⟩)) (dp d):=⟨_,rfl,R1,G (Nat.le_refl _)⟩
 have B2:Bx h3 (fun i=>Gd F d r i∧i≠ia) (.p (some ⟨h1.length,1,0⟩)) (cp ia):=⟨_,rfl,R2,G (by omega)⟩
 have B3:Bx h3 (fun i=>Gd F d r i∧i≠ia) (.p (some ⟨h2.length,1,0⟩)) (cp ib):=⟨_,rfl,R3,G (by omega)⟩
 refine aE R1 rfl rfl (aE R2 rfl rfl ?_)
 refine rK (D.ext U) hd (l:=a) (ic:=ia) (sym:=syma) (c:=.lit a b) (T.1.upd U (fun _ _ h=>h) fun i _ hi=>hi.1) ⟨_,_,_,ib,symb,rfl,B1,B2,B3,T.2.upd U (fun _ _ h=>h) fun i _ hi=>hi,fun hs=>(T.1.gs ib hs).1.2 rfl⟩ ⟨by decide,by decide,fun v hv=>Nat.lt_of_lt_of_le hv (by have:=T.1.len; omega)⟩ fun h4 r4 P=>aC (.inl (hq 0 h4 r4 ?_))
 exact P.from U (fun _ _ h=>h.elim) (fun _ _ h=>h) rfl rfl rfl
theorem z6 {a b : List Nat} {va vb : AV} (D : Dec L h F d r out told) (hF : ∀ i, h.length ≤ i → F i) (hd : r.done = false) (Ra : RdI 1 h va (bB a) a.length) (Rb : RdI 1 h vb (bB b) b.length) (la : a.length ≤ 320) (lb : b.length ≤ 320) (a15 : ∀ x ∈ a, x ≤ 15) (b15 : ∀ x ∈ b, x ≤ 15)
  (hq:∀ e h' r',cP (· = d) L h F d r told (Infl.codes ⟨out,r.last,r.skip⟩ a b) e h' r'→Q (.i .i64 e) h'):C Y64.id [dp d,va,vb] h Q:=by
 refine Y64.call ?_
 simp only [Y64.t]
 refine rH Ra la a15 (fun hn e he=>?_) fun ha h1 ia syma U1 A1=>?_
 ·simp only [cW, cX]
  refine aC (aW (by simp [he]) (.inl (hq 2 h r ?_)))
  unfold Infl.codes
  rw [if_neg fun hh=>hn hh.1]
  exact ⟨Upd.refl _ _,fun _ _ h=>h,D,rfl,rfl,rfl,rfl,.inl rfl,hd⟩
 ·simp only [cW, cX]
  refine aC (aL rfl ?_)
  refine rH (Rb.ext U1) lb b15 (fun hn e he=>?_) fun hb h2 ib symb U2 A2=>?_
  ·simp only [cW, cX]
   refine aC (aW (by simp [he]) (.inl (hq 2 h1 r ?_)))
   unfold Infl.codes
   rw [if_neg fun hh=>hn hh.2]
   exact ⟨U1.mono fun _ _ h=>h.elim,fun _ _ h=>h,D.ext U1,rfl,rfl,rfl,rfl,.inl rfl,hd⟩
  ·simp only [cW, cX]
   refine aC (aL rfl ?_)
   have U:=U1.then U2
   have hlt:=A1.recd.lt
   have hge:=A2.g
   have hU1:=U1.1
   have T:Two h2 (Gd F d r) ia syma a ib symb b:=by
    refine ⟨{ A1.upd (G':=fun i=>h.length≤i) U2 (fun _ _ h=>h) (fun i hl hi=>hi) with g:=⟨D.gd hF A1.g,by omega⟩,gs:=fun i hi=>?_ },{ A2 with g:=⟨D.gd hF (by omega),by omega⟩,gs:=fun i hi=>?_ }⟩
    ·obtain ⟨g1, g2, g3⟩ := A1.gs i hi
     exact ⟨⟨D.gd hF g1,by omega⟩,g2,Nat.lt_of_lt_of_le g3 U2.1⟩
    ·obtain ⟨g1, g2, g3⟩ := A2.gs i hi
     exact ⟨⟨D.gd hF (by omega),by omega⟩,g2,g3⟩
   refine oQ (D.ext U) (fun i hi=>hF i (Nat.le_trans U.1 hi)) hd T fun e h3 r3 P=>aC (.inl (hq e h3 r3 ?_))
   unfold Infl.codes
   rw [if_pos ⟨ha,hb⟩]
   exact P.from U (fun _ _ h=>h.elim) (fun _ _ h=>h) rfl rfl rfl
theorem nO:∀ x∈Infl.fixedL,x≤15:=by decide +kernel
theorem oG:∀ x∈Infl.fixedD,x≤15:=by decide +kernel
theorem aFV (D:Dec L h F d r out told) (hF:∀ i,h.length≤i→F i) (hd:r.done=false)
  (hq:∀ e h' r',cP (· = d) L h F d r told (Infl.codes ⟨out,r.last,r.skip⟩ Infl.fixedL Infl.fixedD) e h' r'→Q (.i .i64 e) h'):C Y69.id [dp d] h Q:=by
 refine Y69.call ?_
 simp only [Y69.t]
 refine jU fun h1 v w U1 Rv Rw _ _=>?_
 simp only [cW,cX]
 refine z6 (D.ext U1) (fun i hi=>hF i (Nat.le_trans U1.1 hi)) hd Rv Rw (by decide +kernel) (by decide +kernel) nO oG fun e h2 r2 P=>aC (.inl (hq e h2 r2 ?_))
 exact P.from U1 (fun _ _ h=>h.elim) (fun _ _ h=>h) rfl rfl rfl
theorem aF4 {x : Nat} {v : AV} (D : Dec L h F d r out told) (hF : ∀ i, h.length ≤ i → F i) (hd : r.done = false) (hc : Clo h (Gd F d r) d 0 (.p none) .block v) (hf : fit .block x)
  (hq:∀ e h' r',cP F L h F d r told (Infl.apply L r.input ⟨out,r.last,r.skip⟩ x .block) e h' r'→Q (.i .i64 e) h'):bZ C v [iN x] h Q:=by
 obtain ⟨bd,rfl,B⟩:=hc
 have hf:x<8:=hf
 refine cY (by decide) (Y86.call ?_)
 simp only [Y86.t,B.ld,bF,bD]
 have hand:bO .and .i64 (x:Int) 1=((x % 2:Nat):Int):=by
  have:=fW (x:=x) (y:=1) (by omega) (by decide)
  rw [Nat.and_one_is_mod] at this
  exact this
 rw [hand]
 have hlast:decide (((x % 2:Nat):Int)=1)=(x % 2 == 1):=by
  rw [Bool.eq_iff_iff]; simp; omega
 rw [hlast]
 refine aP D.recd rfl (ltr rfl) (hk:=fun h1 l1 U1 R1=>?_)
 have D1:Dec L h1 F d { r with last:=x % 2 == 1 } out told:=D.with U1 R1 rfl rfl rfl rfl
 have B1:Bx h1 (Gd F d { r with last:=x % 2 == 1 }) bd (dp d):=B.upd U1 (fun i hi e=>hi.2 (.inl e)) fun _ _ h=>h
 have hF1:∀ i,h1.length≤i→F i:=fun i hi=>hF i (by omega)
 refine oB (a:=x) (b:=1) (by decide) ?_
 rw [B1.ld]
 have hx4:x / 2 ^ 1=x / 2:=rfl
 have hm:∀ {o:Out} {e:Int} {h':aA} {r':DR},cP (· = d) L h1 F d { r with last:=x % 2 == 1 } told o e h' r'→cP F L h F d r told o e h' r':=fun {o e h' r'} P=>by
  have P':cP F L h1 F d { r with last:=x % 2 == 1 } told o e h' r':=P.mono fun i _ e=>D.f i (.inl e)
  exact P'.from U1 (fun i _ e=>D.f i (.inl e)) (fun _ _ h=>h) rfl rfl rfl
 simp only [Infl.apply] at hq
 refine aG ?_ ?_ <;> intro e0
 ·have e0 : x / 2 = 0 := by simp at e0; omega
  simp only [e0] at hq
  simp only [bF,bD]
  refine aP D1.recd rfl (ltr rfl) (hk:=fun h2 l2 U2 R2=>?_)
  have D2:Dec L h2 F d { r with last:=x % 2 == 1,skip:=true } out told:=D1.with U2 R2 rfl rfl rfl rfl
  have B2:Bx h2 (Gd F d { r with last:=x % 2 == 1,skip:=true }) bd (dp d):=B1.upd U2 (fun i hi e=>hi.2 (.inl e)) fun _ _ h=>h
  rw [B2.ld]
  refine aDL D2 (fun i hi=>hF i (by omega)) hd fun e h3 r3 P=>aC (.inl (hq e h3 r3 ?_))
  refine hm (P.from U2 (fun i _ e=>e) (fun _ _ h=>h) rfl rfl rfl)
 ·refine aG ?_ ?_ <;> intro e1
  ·have e1 : x / 2 = 1 := by simp at e1; omega
   simp only [e1] at hq
   rw [B1.ld]
   refine aFV D1 hF1 hd fun e h3 r3 P=>aC (.inl (hq e h3 r3 (hm P)))
  ·refine aG ?_ ?_ <;> intro e2
   ·have e2 : x / 2 = 2 := by simp at e2; omega
    simp only [e2] at hq
    rw [B1.ld]
    refine aB5 D1 hF1 hd fun e h3 r3 P=>aC (.inl (hq e h3 r3 (hm P)))
   ·have e3 : x / 2 = 3 := by simp at e0 e1 e2; omega
    simp only [e3] at hq
    exact .inl (hq 2 h1 { r with last:=x % 2 == 1 } ⟨U1.mono fun i _ e=>D.f i (.inl e),fun _ _ h=>h,D1,rfl,rfl,rfl,rfl,.inl rfl,hd⟩)
theorem aAG {a b:List Nat} {ic ib:Nat} {sym symb:AV} (A:b9 h (Gd F d r) ic a sym 0 0) (Bc:b9 h (fun i=>Gd F d r i∧i≠ic) ib b symb 0 0) (hs:¬ aQ sym ib):Two h (Gd F d r) ic sym a ib symb b:=
 ⟨{ A with g:=⟨A.g,fun e=>Bc.g.2 e.symm⟩,gs:=fun i hi=>⟨⟨(A.gs i hi).1,fun e=>hs (e ▸ hi)⟩,(A.gs i hi).2⟩ },Bc⟩
theorem aIM {x ic : Nat} {sym : AV} {a b : List Nat} {v : AV} (D : Dec L h F d r out told) (hF : ∀ i, h.length ≤ i → F i) (hd : r.done = false) (A : b9 h (Gd F d r) ic a sym 0 0) (hc : Clo h (fun i => Gd F d r i ∧ i ≠ ic) d ic sym (.lit a b) v) (hf : fit (.lit a b) x)
  (hq:∀ e h' r',cP F L h F d r told (Infl.apply L r.input ⟨out,r.last,r.skip⟩ x (.lit a b)) e h' r'→Q (.i .i64 e) h'):bZ C v [iN x] h Q:=by
 obtain ⟨bd,ba,bb,ib,symb,rfl,B,Ba,Bb,Bc,hs⟩:=hc
 have hf:x<320:=hf
 have T:=aAG A Bc hs
 have w:∀ {y z},Bx h (fun i=>Gd F d r i∧i≠ic) y z→Bx h (Gd F d r) y z:=fun B=>B.upd (Upd.refl (fun _=>False) h) (fun _ _ h=>h) fun i _ hi=>hi.1
 have B:=w B
 have Ba:=w Ba
 have Bb:=w Bb
 refine cY (by decide) (Y75.call ?_)
 simp only [Y75.t,B.ld]
 simp only [Infl.apply,Infl.putP] at hq
 refine aG ?_ ?_ <;> intro e0
 ·have e0 : x < 256 := by simp at e0; omega
  rw [if_pos e0] at hq
  rw [wN e0]
  refine aEQ D hF (fun hfull=>?_) fun hfull p f h1 U1 K1 D1=>?_
  ·refine aC (aW rfl (.inl (hq 16 h r ?_)))
   rw [if_pos hfull]
   exact ⟨Upd.refl _ _,fun _ _ h=>h,D,rfl,rfl,rfl,rfl,.inr rfl,hd⟩
  ·refine aC (aL rfl ?_)
   have B1:=B.upd U1 (fun i hi hm=>hi.2 hm) (eY K1)
   have Ba1:=Ba.upd U1 (fun i hi hm=>hi.2 hm) (eY K1)
   have Bb1:=Bb.upd U1 (fun i hi hm=>hi.2 hm) (eY K1)
   rw [B1.ld,Ba1.ld,Bb1.ld]
   refine oQ D1 (fun i hi=>hF i (Nat.le_trans U1.1 hi)) hd (T.upd U1 (fun i hi hm=>hi.2 hm) (eY K1)) fun e h2 r2 P=>aC (.inl (hq e h2 r2 ?_))
   rw [if_neg (by simp [hfull])]
   exact (P.mono fun i _ e=>D1.f i (.inl e)).from U1 (fun i _ hm=>D.f i hm) K1 rfl rfl rfl
 ·have e0 : ¬ x < 256 := by simp at e0; omega
  rw [if_neg e0] at hq
  refine aG ?_ ?_ <;> intro e1
  ·have e1 : x = 256 := by simp at e1; omega
   rw [if_pos e1] at hq
   exact uR D hF hd fun e h1 r1 P=>aC (.inl (hq e h1 r1 (P.mono fun i _ e=>D.f i (.inl e))))
  ·have e1 : ¬ x = 256 := by simp at e1; omega
   rw [if_neg e1] at hq
   refine aG ?_ ?_ <;> intro e2
   ·have e2 : 285 < x := by simp at e2; omega
    rw [if_pos e2] at hq
    exact .inl (hq 2 h r ⟨Upd.refl _ _,fun _ _ h=>h,D,rfl,rfl,rfl,rfl,.inl rfl,hd⟩)
   ·have e2 : ¬ 285 < x := by simp at e2; omega
    rw [if_neg e2] at hq
    obtain ⟨b1,b2⟩:=m8 x (by omega) (by omega)
    refine qE (by omega) (by omega) ?_
    simp only [cW,cX]
    refine aC (aC (cF fun h1 l1 U1 R1=>?_))
    refine aP R1 rfl (ltr rfl) (hk:=fun h2 l2 U2 R2=>?_)
    have U:Upd (fun _=>False) h h2:=U1.own U2 (Nat.le_refl _)
    have up:∀ {y z},Bx h (Gd F d r) y z→Bx h2 (Gd F d r) y z:=fun B=>B.upd U (fun _ _ h=>h) fun _ _ h=>h
    have Bn:Bx h2 (Gd F d r) (.p (some ⟨h.length,1,0⟩)) (iN (Infl.least x).1):=⟨_,rfl,R2,D.gd hF (Nat.le_refl _)⟩
    rw [(up B).ld]
    refine dO (D.ext U) hd (c:=.more a b (Infl.least x).1) ⟨_,_,_,_,ic,sym,ib,symb,rfl,up B,up Bb,Bn,up Ba,T.upd U (fun _ _ h=>h) fun _ _ h=>h⟩ ⟨b2,by simp, ?_,fun v hv=>?_⟩ fun h3 r3 P=>aC (.inl (hq 0 h3 r3 ?_))
    ·by_cases hz : (Infl.least x).2 = 0
     ·exact .inr ⟨hz,rfl,trivial⟩
     ·exact .inl (by omega)
    ·show (Infl.least x).1+v≤300; omega
    ·exact (P.from U (fun _ _ h=>h.elim) (fun _ _ h=>h) rfl rfl rfl).mono fun i _ e=>D.f i (.inl e)
theorem aH6 {x n:Nat} {a b:List Nat} {v:AV} (D:Dec L h F d r out told) (hF:∀ i,h.length≤i→F i) (hd:r.done=false) (hc:Clo h (Gd F d r) d 0 (.p none) (.more a b n) v) (hf:fit (.more a b n) x)
  (hq:∀ e h' r',cP F L h F d r told (Infl.apply L r.input ⟨out,r.last,r.skip⟩ x (.more a b n)) e h' r'→Q (.i .i64 e) h'):bZ C v [iN x] h Q:=by
 obtain ⟨bd,bb,bn,ba,ia,syma,ib,symb,rfl,B,Bb,Bn,Ba,T⟩:=hc
 have hf:n+x≤300:=hf
 refine cY (by decide) (Y78.call ?_)
 simp only [Y78.t]
 refine bQ (hk:=fun h1 l1 U1 R1=>?_)
 have hib:=T.2.recd.lt
 have up:∀ {y z},Bx h (Gd F d r) y z→Bx h1 (Gd F d r) y z:=fun B=>B.upd U1 (fun _ _ h=>h) fun _ _ h=>h
 rw [(up B).ld,(up Bb).ld]
 have sep:∀ {y z},Bx h1 (Gd F d r) y z→Bx h1 (fun i=>Gd F d r i∧i≠ib) y z:=fun {y z} B=>by
  obtain ⟨id,e,R,g⟩:=B
  refine ⟨id,e,R,g, ?_⟩
  rintro rfl
  have R':=(T.2.recd.upd U1 fun h=>h)
  obtain ⟨b1,p1,p2,_⟩:=R
  obtain ⟨b2,q1,q2,_⟩:=R'
  rw [p1] at q1
  cases q1
  rw [p2] at q2
  have:=congrArg List.length q2
  rw [eE, ← cM (cB b) aBD (by simp)] at this
  simp at this
 refine rK (D.ext U1) hd (l:=b) (ic:=ib) (sym:=symb) (c:=.far a b (n+x)) (T.2.upd U1 (fun _ _ h=>h) fun i _ hi=>hi.1) ⟨bd,bn,_,ba,bb,n,x,ia,syma,rfl,rfl,sep (up B),sep (up Bn),sep (Bx.new R1 (D.gd hF (Nat.le_refl _))),sep (up Ba),sep (up Bb),T.1.upd U1 (fun _ _ h=>h) fun i _ hi=>hi,fun hs=>(T.2.gs ia hs).1.2 rfl⟩ ⟨by decide,by decide,fun v hv=>⟨hf,by have:=T.2.len; omega⟩⟩ fun h2 r2 P=>aC (.inl (hq 0 h2 r2 ?_))
 exact (P.from U1 (fun _ _ h=>h.elim) (fun _ _ h=>h) rfl rfl rfl).mono fun i _ e=>D.f i (.inl e)
theorem aH8 {x n ic:Nat} {sym:AV} {a b:List Nat} {v:AV} (D:Dec L h F d r out told) (hF:∀ i,h.length≤i→F i) (hd:r.done=false) (A:b9 h (Gd F d r) ic b sym 0 0) (hc:Clo h (fun i=>Gd F d r i∧i≠ic) d ic sym (.far a b n) v) (hf:fit (.far a b n) x)
  (hq:∀ e h' r',cP F L h F d r told (Infl.apply L r.input ⟨out,r.last,r.skip⟩ x (.far a b n)) e h' r'→Q (.i .i64 e) h'):bZ C v [iN x] h Q:=by
 obtain ⟨bd,bn,bm,ba,bb,n0,m,ia,syma,rfl,hn,B,Bn,Bm,Ba,Bb,Ac,hs⟩:=hc
 obtain ⟨hf1,hf2⟩:=hf
 have T:Two h (Gd F d r) ia syma a ic sym b:=by
  have:=aAG A Ac hs
  exact ⟨this.2,this.1⟩
 have w:∀ {y z},Bx h (fun i=>Gd F d r i∧i≠ic) y z→Bx h (Gd F d r) y z:=fun B=>B.upd (Upd.refl (fun _=>False) h) (fun _ _ h=>h) fun i _ hi=>hi.1
 refine cY (by decide) (Y89.call ?_)
 simp only [Y89.t]
 simp only [Infl.apply] at hq
 refine aG ?_ ?_ <;> intro e0
 ·have e0 : 29 < x := by simp at e0; omega
  rw [if_pos e0] at hq
  exact .inl (hq 2 h r ⟨Upd.refl _ _,fun _ _ h=>h,D,rfl,rfl,rfl,rfl,.inl rfl,hd⟩)
 ·have e0 : ¬ 29 < x := by simp at e0; omega
  rw [if_neg e0] at hq
  obtain ⟨b0,b1,b2⟩:=uV x (by omega)
  refine lN (by omega) ?_
  simp only [cW,cX]
  refine aC (aC (cF fun h1 l1 U1 R1=>?_))
  refine aP R1 rfl (ltr rfl) (hk:=fun h2 l2 U2 R2=>?_)
  have U:Upd (fun _=>False) h h2:=U1.own U2 (Nat.le_refl _)
  have up:∀ {y z},Bx h (fun i=>Gd F d r i∧i≠ic) y z→Bx h2 (Gd F d r) y z:=fun B=>(w B).upd U (fun _ _ h=>h) fun _ _ h=>h
  have Bf:Bx h2 (Gd F d r) (.p (some ⟨h.length,1,0⟩)) (iN (Infl.farOf x).1):=⟨_,rfl,R2,D.gd hF (Nat.le_refl _)⟩
  rw [(up B).ld]
  refine dO (D.ext U) hd (c:=.farMore a b n (Infl.farOf x).1) ⟨_,_,_,_,_,_,n0,m,ia,syma,ic,sym,rfl,hn,up B,up Bn,up Bm,Bf,up Ba,up Bb,T.upd U (fun _ _ h=>h) fun _ _ h=>h⟩ ⟨b2,by simp, ?_,fun v hv=>⟨hf1,b0,by omega⟩⟩ fun h3 r3 P=>aC (.inl (hq 0 h3 r3 ?_))
  ·by_cases hz : (Infl.farOf x).2 = 0
   ·exact .inr ⟨hz,rfl,trivial⟩
   ·exact .inl (by omega)
  ·exact (P.from U (fun _ _ h=>h.elim) (fun _ _ h=>h) rfl rfl rfl).mono fun i _ e=>D.f i (.inl e)
theorem aBE {x n f : Nat} {a b : List Nat} {v : AV} (D : Dec L h F d r out told) (hF : ∀ i, h.length ≤ i → F i) (hd : r.done = false) (hc : Clo h (Gd F d r) d 0 (.p none) (.farMore a b n f) v) (hf : fit (.farMore a b n f) x)
  (hq:∀ e h' r',cP F L h F d r told (Infl.apply L r.input ⟨out,r.last,r.skip⟩ x (.farMore a b n f)) e h' r'→Q (.i .i64 e) h'):bZ C v [iN x] h Q:=by
 obtain ⟨bd,bn,bm,bf,ba,bb,n0,m,ia,syma,ib,symb,rfl,hn,B,Bn,Bm,Bf,Ba,Bb,T⟩:=hc
 obtain ⟨hf1,hf2,hf3⟩:=hf
 refine cY (by decide) (Y84.call ?_)
 simp only [Y84.t,B.ld,Bn.ld,Bm.ld,Bf.ld,iH]
 simp only [Infl.apply] at hq
 refine bS (n:=(n:Int)) (by omega) (by omega) (by omega) ?_
 refine bS (n:=((f+x:Nat):Int)) (by omega) (by omega) (by omega) ?_
 refine aHH (by omega) hf1 hf3 D hF (fun hlt=>?_) fun hge e h1 p f' t U1 K1 D1 he=>?_
 ·rw [if_pos hlt] at hq
  exact aC (aW rfl (.inl (hq 2 h r ⟨Upd.refl _ _,fun _ _ h=>h,D,rfl,rfl,rfl,rfl,.inl rfl,hd⟩)))
 ·rw [if_neg (by omega)] at hq
  have hcore:=qW (L:=L) (input:=r.input) (far:=f+x) n ⟨out,r.last,r.skip⟩
  cases hcp:Infl.copyP L r.input (f+x) n ⟨out,r.last,r.skip⟩ with
  | mk k ok =>
   rw [hcp] at hcore D1 he hq
   simp only at hcore D1 he hq
   rcases he with ⟨rfl,rfl⟩ | ⟨rfl,rfl⟩
   ·refine aC (aL rfl ?_)
    have B1:=B.upd U1 (fun i hi hm=>hi.2 hm) (eY K1)
    have Ba1:=Ba.upd U1 (fun i hi hm=>hi.2 hm) (eY K1)
    have Bb1:=Bb.upd U1 (fun i hi hm=>hi.2 hm) (eY K1)
    rw [B1.ld,Ba1.ld,Bb1.ld]
    refine oQ D1 (fun i hi=>hF i (Nat.le_trans U1.1 hi)) hd (T.upd U1 (fun i hi hm=>hi.2 hm) (eY K1)) fun e h2 r2 P=>aC (.inl (hq e h2 r2 ?_))
    rw [hcore]
    exact (P.mono fun i _ e=>D1.f i (.inl e)).from U1 (fun i _ hm=>D.f i hm) K1 rfl rfl rfl
   ·refine aC (aW rfl (.inl (hq 16 h1 { r with past := p, total := t, fresh := f' } ?_)))
    exact ⟨U1.mono fun i _ hm=>D.f i hm,K1,D1,rfl,rfl,rfl,rfl,.inr rfl,hd⟩
end
end Go.Proofs.YtpaphfeihpgamaaDoor
namespace Go.Proofs.YtpaphfeihpgamaaDoor
open Go.GAM
theorem eR.load {E:TypeId} {h:aA} {v:AV} {l:List UInt8} {c:UInt8} (B:eR E h v l) {k:IntKind} {i:Nat} (hi:l[i]? = some c) {K:AV→Prop} (hk:K (byteAV c)):aN 1 v (.i k (i:Int)) h fun a=>aD a h K:=by
 have hlt:=(List.getElem?_eq_some_iff.1 hi).1
 rcases B with ⟨rfl,rfl⟩ | ⟨id,b,rfl,h1,h2,h3,h4,h5⟩
 ·simp at hlt
 ·have e : b.cells.length = l.length := by rw [h2]; simp
  refine ⟨by omega,by omega,⟨b,h1,by show b.floor≤l.length; omega,by omega⟩, ?_⟩
  refine ⟨b,h1,⟨by show b.floor≤l.length; omega,by show l.length≤b.cells.length; omega,by simp only [Int.toNat_natCast]; omega⟩, ?_⟩
  simp only [Int.toNat_natCast,Nat.zero_add,Nat.mul_one]
  rw [h2,getD_some (c:=byteAV c) (by rw [List.getElem?_map,hi] <;> rfl)]
  exact hk
theorem eR.store {E:TypeId} {h:aA} {v:AV} {l:List UInt8} {c:UInt8} (B:eR E h v l) {k:IntKind} {i:Nat} (hi:i<l.length) {K:aA→Prop} (hk:∀ h',h'.length=h.length→Upd (aQ v) h h'→eR E h' v (l.set i c)→K h') :
  aN 1 v (.i k (i:Int)) h fun a=>aT 1 a (byteAV c) h K:=by
 rcases B with ⟨rfl,rfl⟩ | ⟨id,b,rfl,h1,h2,h3,h4,h5,h6,h7,h8,h9⟩
 ·simp at hi
 ·have e : b.cells.length = l.length := by rw [h2]; simp
  refine ⟨by omega,by omega,⟨b,h1,by show b.floor≤l.length; omega,by omega⟩, ?_⟩
  refine ⟨b,h1,h5,h4,e.symm,by simp only [Int.toNat_natCast]; omega,rfl,rfl,rfl, ?_⟩
  refine hk _ (by simp) ((Upd.set _ _ _).mono fun i _ h=>h.symm) (.inr ⟨id,_,by rw [List.length_set],List.getElem?_set_self (aM h1), ?_,h3, ?_,h5,h6,h7,h8, ?_⟩)
  ·show (b.cells).set (0 + (i : Int).toNat * 1) (byteAV c) = _
   rw [Int.toNat_natCast,Nat.mul_one,Nat.zero_add,h2,List.map_set]
  ·show b.cells.length ≤ _
   rw [List.length_set]; omega
  ·intro h0
   have:=congrArg List.length h0
   rw [List.length_set] at this
   simp at this
   exact h9 this
abbrev u8T:TypeId:=5
abbrev wp (w:Nat):AV:=.p (some ⟨w,2,0⟩)
def fre (n:Nat):Nat:=(8 - n % 8) % 8
def Wr (h:aA) (G:Nat→Prop) (w:Nat) (bs:List Nat):Prop:=∃ v,bC h w [v,iN (fre bs.length)]∧eR u8T h v (Infl.pack bs)∧(∀ i,aQ v i→G i∧i≠w)∧G w∧∀ x∈bs,x<2
theorem aHI:∀ (fr:Fin 9) (c:Fin 256) (b:Fin 2),1≤fr.1→c.1<2 ^ (8 - fr.1)→bO .or .u8 ((c.1:Nat):Int) (IntKind.wrap .u8 (((b.1:Nat):Int) * 2 ^ (min (((8 - fr.1:Nat):Int)).toNat IntKind.u8.bits)))=((c.1+b.1 * 2 ^ (8 - fr.1):Nat):Int)∧c.1+b.1 * 2 ^ (8 - fr.1)<256:=by decide +kernel
section
variable [XR] {h:aA} {Q:AV→aA→Prop} {G:Nat→Prop} {w:Nat}
theorem slv {E:TypeId} {h:aA} {v:AV} {l:List UInt8} (B:eR E h v l):v.parts=[v]∧v.sizeOK=true∧v.cellOK=true:=by
 rcases B with ⟨rfl,_⟩ | ⟨id,b,rfl,_⟩ <;> exact ⟨rfl,rfl,rfl⟩
theorem eR.plen {E:TypeId} {h:aA} {v:AV} {l:List UInt8} (B:eR E h v l) {K:Int→Prop} (hk:K (l.length:Int)):bK v K:=by
 rcases B with ⟨rfl,rfl⟩ | ⟨id,b,rfl,_⟩ <;> exact hk
theorem aE6 {E:TypeId} {h:aA} {v:AV} {l:List UInt8} (B:eR E h v l) (hlen:l.length<140737488355328) {K:AV→aA→Prop}
  (hk:∀ v' h',Upd (aQ v) h h'→eR E h' v' (l++[0])→(∀ i,aQ v' i→aQ v i∨h.length≤i)→K v' h'):bN 1 1 [.i .u8 0] [(0,1,.i .u8 0)] h fun x h'=>bW (some E) 1 1 v x h' K:=by
 refine dZ (cs:=[.i .u8 0]) rfl rfl (hk:=fun x h1 l1 U1 R1 hx=>?_)
 refine (B.upd U1 fun _ _ h=>h).append (t:=[0]) (fun K' hK=>R1.news hK) (by simp; omega) fun v' h' U2 B2 g2=>hk v' h' ?_ B2 fun i hi=>?_
 ·exact (U1.mono fun _ _ h=>h.elim).trans U2 fun _ _ h=>h
 ·rcases g2 i hi with h | h
  ·exact .inl h
  ·exact .inr (by omega)
theorem aIT {v:AV} {fr:Nat} {pre:List UInt8} {c:Nat} {x n j:Nat} (h1:1≤fr) (h8:fr≤8) (hc:c<2 ^ (8 - fr)) (hpl:pre.length<140737488355328) (hj:j<n) (hn:n≤64) (hx:x<2 ^ 62) (R:bC h w [v,iN fr]) (B:eR u8T h v (pre++[UInt8.ofNat c])) (hv:¬ aQ v w)
  (hq:∀ h',h'.length=h.length→Upd (fun i=>i=w∨aQ v i) h h'→bC h' w [v,iN (fr - 1)]→eR u8T h' v (pre++[UInt8.ofNat (c+(x / 2 ^ j % 2) * 2 ^ (8 - fr))])→Y19.p0 Q (wp w) x n ((j:Int)+1) h') :
  Y19.p1 Q (wp w) x j n j h:=by
 refine Y19.i1 ?_
 unfold Y19.t1
 have c256:c<256:=Nat.lt_of_lt_of_le hc (Nat.pow_le_pow_right (by decide) (by omega:8 - fr≤8))
 obtain ⟨e1,e2⟩:=aHI ⟨fr,by omega⟩ ⟨c,c256⟩ ⟨x / 2 ^ j % 2,Nat.mod_lt _ (by decide)⟩ h1 hc
 simp only at e1 e2
 refine gW (dE (aE R rfl rfl (gW (dE (aE R rfl rfl (eR.plen B ?_))))))
 refine aX (n:=(pre.length:Int)) (by rw [List.length_append,List.length_singleton,bA (by omega) (by omega)]; omega) ?_
 refine eR.load B (c:=UInt8.ofNat c) (by simp) ?_
 refine lL ?_
 refine oB (by show j≤64; omega) ?_
 refine aX (n:=((x / 2 ^ j % 2:Nat):Int)) ?_ ?_
 ·have hlt : x / 2 ^ j < 2 ^ 62 := Nat.lt_of_le_of_lt (Nat.div_le_self _ _) hx
  have:=fW (x:=x / 2 ^ j) (y:=1) (by omega) (by decide)
  rw [Nat.and_one_is_mod] at this
  rw [show ((1:Nat):Int)=1 from rfl] at this
  rw [this]
  have:=Nat.mod_lt (x / 2 ^ j) (show 0<2 by decide)
  exact zG (by omega) (by omega)
 refine gW (dE (aE R rfl rfl (aC ?_)))
 refine aX (n:=((8 - fr:Nat):Int)) (by rw [bA (by omega) (by omega)]; omega) ?_
 refine ⟨by omega, ?_⟩
 have ec:(((UInt8.ofNat c).toNat:Nat):Int)=(c:Int):=by rw [UInt8.toNat_ofNat']; omega
 show aN 1 v (AV.i .i64 (pre.length:Int)) h fun v44=>aT 1 v44 (AV.i .u8 (bO .or .u8 (((UInt8.ofNat c).toNat:Nat):Int) (IntKind.wrap .u8 (((x / 2 ^ j % 2:Nat):Int) * 2 ^ (min (((8 - fr:Nat):Int)).toNat IntKind.u8.bits))))) h _
 rw [ec,e1]
 have eb:AV.i .u8 ((c+x / 2 ^ j % 2 * 2 ^ (8 - fr):Nat):Int)=byteAV (UInt8.ofNat (c+x / 2 ^ j % 2 * 2 ^ (8 - fr))):=by
  unfold byteAV
  rw [UInt8.toNat_ofNat',Nat.mod_eq_of_lt (show _<2 ^ 8 from e2)]
 rw [eb]
 refine eR.store B (c:=UInt8.ofNat (c+x / 2 ^ j % 2 * 2 ^ (8 - fr))) (by simp) fun h2 l2 U2 B2=>?_
 have R2:=R.upd U2 hv
 refine gW (dE (aE R2 rfl rfl (aC ?_)))
 refine aX (n:=((fr - 1:Nat):Int)) (by rw [bA (by omega) (by omega)]; omega) ?_
 refine gW (dE (aP R2 rfl (by show 1<2; decide) (hk:=fun h3 l3 U3 R3=>?_)))
 refine aX (n:=(j:Int)+1) (bA (by omega) (by omega)) ?_
 refine hq h3 (by omega) ?_ R3 ?_
 ·exact (U2.mono fun i _ h=>Or.inr h).trans (U3.mono fun i _ h=>Or.inl h) fun _ _ h=>h
 ·have : (pre ++ [UInt8.ofNat c]).set pre.length (UInt8.ofNat (c + x / 2 ^ j % 2 * 2 ^ (8 - fr))) = pre ++ [UInt8.ofNat (c + x / 2 ^ j % 2 * 2 ^ (8 - fr))] := by
   rw [List.set_append_right _ _ (Nat.le_refl _),Nat.sub_self] <;> rfl
  rw [this] at B2
  exact B2.upd U3 fun i hi e=>hv (e ▸ hi)
theorem aCJ (x n : Nat) (hn : n ≤ 64) (hx : x < 2 ^ 62) (bs : List Nat) (hlen : bs.length + n < 2 ^ 40) : ∀ (k j : Nat) (h : aA), j + k = n → (∀ i, h.length ≤ i → G i) → Wr h G w (bs ++ Huff.loBits x j) → (∀ h', Upd G h h' → Wr h' G w (bs ++ Huff.loBits x n) → Q (.tu []) h') →
  Y19.p0 Q (wp w) x n j h:=by
 intro k
 induction k with
 | zero =>
  intro j h hj hG W hq
  refine Y19.i0 ?_
  unfold Y19.t0
  refine aL (decide_eq_false (by omega)) ?_
  have:j=n:=by omega
  subst this
  exact hq h (Upd.refl _ _) W
 | succ k ih =>
  intro j h hj hG W hq
  obtain ⟨v,R,B,g,gw,hx2⟩:=W
  have hb:x / 2 ^ j % 2<2:=Nat.mod_lt _ (by decide)
  obtain ⟨pre,c,p1,p2,p3⟩:=Infl.pack_snoc hb _ _ (Nat.le_refl _) hx2
  have hL:(bs++Huff.loBits x j).length=bs.length+j:=by rw [List.length_append,Infl.lo_length]
  have hsn:bs++Huff.loBits x (j+1)=(bs++Huff.loBits x j)++[x / 2 ^ j % 2]:=by rw [Infl.lo_snoc,List.append_assoc]
  have hx3:∀ y∈bs++Huff.loBits x (j+1),y<2:=by
   intro y hy
   rw [hsn] at hy
   rcases List.mem_append.1 hy with h | h
   ·exact hx2 y h
   ·rw [List.mem_singleton.1 h]; exact hb
  have hpk:=Infl.pack_len hx2
  rw [hL] at hpk p1 p2 p3
  have hv:¬ aQ v w:=fun h=>(g w h).2 rfl
  refine Y19.i0 ?_
  unfold Y19.t0
  refine aW (decide_eq_true (by omega)) ?_
  refine gW (dE (aE R rfl rfl (aC ?_)))
  rcases p2 with ⟨m0,p2⟩ | ⟨m0,p2⟩
  ·have hf : fre (bs ++ Huff.loBits x j).length = 0 := by unfold fre; omega
   rw [m0,Nat.pow_zero] at p1 p3
   have c0:c=0:=by omega
   subst c0
   refine aW (decide_eq_true (by rw [hf] <;> rfl)) ?_
   refine gW (dE (aE R rfl rfl ?_))
   refine aE6 B (by omega) fun v1 h1 U1 B1 g1=>?_
   have R1:=R.upd U1 hv
   have hv1:¬ aQ v1 w:=fun h=>by
    rcases g1 w h with h | h
    ·exact hv h
    ·have:=R.lt; omega
   obtain ⟨s1,s2,s3⟩:=slv B1
   refine gW (dE (aP R1 rfl (by show 0<2; decide) s1 s2 s3 (hk:=fun h2 l2 U2 R2=>?_)))
   refine gW (dE (aP R2 rfl (by show 1<2; decide) (hk:=fun h3 l3 U3 R3=>?_)))
   have B3:=(B1.upd U2 fun i hi e=>hv1 (e ▸ hi)).upd U3 fun i hi e=>hv1 (e ▸ hi)
   rw [p2] at B3
   have gv1:∀ i,aQ v1 i→G i∧i≠w:=fun i hi=>⟨by
    rcases g1 i hi with h | h
    ·exact (g i h).1
    ·exact hG i h,fun e=>hv1 (e ▸ hi)⟩
   have hh:h.length≤h3.length:=by have:=U1.1; omega
   refine aIT (fr:=8) (c:=0) (pre:=pre) (by decide) (by decide) (by decide) (by rw [p2] at hpk; omega) (by omega) hn hx R3 B3 hv1 fun h4 l4 U4 R4 B4=>?_
   refine ih (j+1) h4 (by omega) (fun i hi=>hG i (by omega)) ⟨v1, ?_, ?_,gv1,gw,hx3⟩ fun h5 U5 W5=>hq h5 ?_ W5
   ·have : fre (bs ++ Huff.loBits x (j + 1)).length = 8 - 1 := by rw [List.length_append, Infl.lo_length]; unfold fre; omega
    rw [this]; exact R4
   ·rw [hsn,p3]; exact B4
   ·refine ((((U1.mono fun i _ h => (g i h).1).trans (U2.mono fun i _ h => (h ▸ gw : G i)) fun _ _ h => h).trans (U3.mono fun i _ h => (h ▸ gw : G i)) fun _ _ h => h).trans (U4.mono fun i _ h => ?_) fun _ _ h => h).trans U5 fun _ _ h => h
    rcases h with h | h
    ·exact h ▸ gw
    ·exact (gv1 i h).1
  ·have hf : fre (bs ++ Huff.loBits x j).length = 8 - (bs.length + j) % 8 := by rw [hL]; unfold fre; omega
   refine aL (decide_eq_false (by rw [hf]; omega)) ?_
   rw [hf] at R
   rw [p2] at B
   have e8:8 - (8 - (bs.length+j) % 8)=(bs.length+j) % 8:=by omega
   refine aIT (fr:=8 - (bs.length+j) % 8) (c:=c) (pre:=pre) (by omega) (by omega) (by rw [e8]; exact p1) (by rw [p2,List.length_append] at hpk; omega) (by omega) hn hx R B hv fun h4 l4 U4 R4 B4=>?_
   rw [e8] at B4
   refine ih (j+1) h4 (by omega) (fun i hi=>hG i (by omega)) ⟨v, ?_, ?_,g,gw,hx3⟩ fun h5 U5 W5=>hq h5 ?_ W5
   ·have : fre (bs ++ Huff.loBits x (j + 1)).length = 8 - (bs.length + j) % 8 - 1 := by rw [List.length_append, Infl.lo_length]; unfold fre; omega
    rw [this]; exact R4
   ·rw [hsn,p3]; exact B4
   ·refine (U4.mono fun i _ h => ?_).trans U5 fun _ _ h => h
    rcases h with h | h
    ·exact h ▸ gw
    ·exact (g i h).1
theorem kS {x n:Nat} {bs:List Nat} (hn:n≤64) (hx:x<2 ^ 62) (hlen:bs.length+n<2 ^ 40) (hG:∀ i,h.length≤i→G i) (W:Wr h G w bs) (hq:∀ h',Upd G h h'→Wr h' G w (bs++Huff.loBits x n)→Q (.tu []) h'):C Y19.id [wp w,iN x,iN n] h Q:=by
 refine Y19.call ?_
 unfold Y19.t
 refine aCJ x n hn hx bs hlen n 0 h (by omega) hG (by simpa [Huff.loBits] using W) fun h' U W'=>.inl (hq h' U W')
theorem aEG {l:List Nat} {i x:Nat} (h:l[i]? = some x):(bB l)[i * 1]? = some (iN x):=by
 unfold bB
 rw [Nat.mul_one,List.getElem?_map,h] <;> rfl
theorem RdI.nat {h:aA} {v:AV} {l:List Nat} {k:IntKind} {i x:Nat} (R:RdI 1 h v (bB l) l.length) (hx:l[i]? = some x) {K:AV→Prop} (hk:K (iN x)):aN 1 v (.i k (i:Int)) h fun a=>aD a h K:=by
 have hi:=(List.getElem?_eq_some_iff.1 hx).1
 obtain ⟨p,P,hp⟩:=R.at hi
 have e:((bB l).drop (i * 1)).take 1=[iN x]:=by
  have hl:i<(bB l).length:=by rw [aY]; exact hi
  rw [Nat.mul_one,List.drop_eq_getElem_cons hl]
  have:=aEG hx
  rw [Nat.mul_one,List.getElem?_eq_getElem hl] at this
  rw [Option.some.inj this] <;> rfl
 rw [e] at P
 exact hp k h _ (Upd.refl _ _) (P.load1 hk)
theorem aF6 {s c:Nat} {cs:List Nat} {vc:AV} (hs:cs[s]? = some c) (hc:c<2 ^ 62) (hvG:∀ i,aQ vc i→¬ G i):∀ (j:Nat) (bs':List Nat) (h:aA),j≤60→bs'.length+j<2 ^ 40 - 1→(∀ i,h.length≤i→G i)→RdI 1 h vc (bB cs) cs.length→Wr h G w bs' →
  (∀ h',Upd G h h'→Wr h' G w (bs'++Huff.hiBits c j)→Q (.tu []) h')→Y33.p0 Q (wp w) vc s ((j:Int) - 1) h:=by
 intro j
 induction j with
 | zero =>
  intro bs' h hj hl hG R W hq
  refine Y33.i0 ?_
  unfold Y33.t0
  refine aL (by decide) (hq h (Upd.refl _ _) (by simpa [Huff.hiBits] using W))
 | succ j ih =>
  intro bs' h hj hl hG R W hq
  refine Y33.i0 ?_
  unfold Y33.t0
  have ej:((j+1:Nat):Int) - 1=(j:Int):=by omega
  rw [ej]
  refine aW (decide_eq_true (by omega)) ?_
  refine RdI.nat R hs (aC ?_)
  refine oB (by show j≤64; omega) ?_
  have hlt:c / 2 ^ j<2 ^ 62:=Nat.lt_of_le_of_lt (Nat.div_le_self _ _) hc
  have ha:bO .and .i64 ((c / 2 ^ j:Nat):Int) 1=((c / 2 ^ j % 2:Nat):Int):=by
   have:=fW (x:=c / 2 ^ j) (y:=1) (by omega) (by decide)
   rw [Nat.and_one_is_mod] at this
   exact this
  rw [ha]
  have hb:c / 2 ^ j % 2<2:=Nat.mod_lt _ (by decide)
  refine kS (x:=c / 2 ^ j % 2) (n:=1) (by decide) (by omega) (by omega) hG W fun h1 U1 W1=>?_
  refine aX (n:=(j:Int) - 1) (bA (by omega) (by omega)) ?_
  have e1:Huff.loBits (c / 2 ^ j % 2) 1=[c / 2 ^ j % 2]:=by
   show [c / 2 ^ j % 2 % 2]=_
   rw [Nat.mod_mod]
  rw [e1] at W1
  refine ih (bs'++[c / 2 ^ j % 2]) h1 (by omega) (by simp; omega) (fun i hi=>hG i (Nat.le_trans U1.1 hi)) (R.upd U1 hvG) W1 fun h2 U2 W2=>hq h2 (U1.trans U2 fun _ _ h=>h) ?_
  rw [List.append_assoc] at W2
  exact W2
theorem aH2 {s c n:Nat} {cs ls:List Nat} {vc vl:AV} {bs:List Nat} (hs:cs[s]? = some c) (hn:ls[s]? = some n) (hc:c<2 ^ 62) (hn2:n≤60) (hvG:∀ i,aQ vc i→¬ G i) (hl:bs.length+n<2 ^ 40 - 1) (hG:∀ i,h.length≤i→G i) (Rc:RdI 1 h vc (bB cs) cs.length) (Rl:RdI 1 h vl (bB ls) ls.length) (W:Wr h G w bs)
  (hq:∀ h',Upd G h h'→Wr h' G w (bs++Huff.hiBits c n)→Q (.tu []) h'):C Y33.id [wp w,vc,vl,iN s] h Q:=by
 refine Y33.call ?_
 unfold Y33.t
 refine RdI.nat Rl hn (aC ?_)
 refine aX (n:=(n:Int) - 1) (bA (by omega) (by omega)) ?_
 exact aF6 hs hc hvG n bs h hn2 hl hG Rc W fun h' U W'=>.inl (hq h' U W')
end
end Go.Proofs.YtpaphfeihpgamaaDoor
namespace Go.GAM
def uF (h:aA) (id:Nat) (cs:List AV):Prop:=∃ b:ABlk,h[id]? = some b∧b.cells=cs∧b.floor≤cs.length∧b.gl=true
theorem uF.upd {M:Nat→Prop} {h h':aA} {id:Nat} {cs:List AV} (G:uF h id cs) (U:Upd M h h') (hM:¬ M id):uF h' id cs:=by
 obtain ⟨b,h1,h2⟩:=G
 exact ⟨b,(U.2 id (aM h1) hM).trans h1,h2⟩
theorem uF.var {h:aA} {id:Nat} {cs:List AV} (G:uF h id cs):aBH h id = .p (some ⟨id,cs.length,0⟩):=by
 obtain ⟨b,h1,rfl,h3,h4⟩:=G
 unfold aBH
 rw [h1]
 simp only [h4,Bool.true_and,Nat.ble_eq_true_of_le h3,cond_true]
theorem uF.ld {h:aA} {id n o:Nat} {cs:List AV} {v:AV} {K:AV→Prop} (G:uF h id cs) (hn:n=cs.length) (hc:cs[o]? = some v) (hk:K v):aD (.p (some ⟨id,n,o⟩)) h K:=by
 obtain ⟨b,h1,rfl,h3,h4⟩:=G
 subst hn
 have:=aM hc
 refine ⟨b,h1,⟨h3,Nat.le_refl _,this⟩, ?_⟩
 show K (b.cells.getD o .u)
 rw [getD_some hc]; exact hk
end Go.GAM
namespace Go.Proofs.YtpaphfeihpgamaaDoor
open Go.GAM
open Go.Infl (bL cV bY Out Lim)
theorem Exa.rd {h:aA} {v:AV} {l:List Nat} (S:Exa h v l):Rd 1 h v (bB l) l.length:=by
 rcases S with ⟨rfl,rfl⟩ | ⟨id,b,rfl,h1,h2,h3,h4,h5⟩
 ·exact .inl ⟨rfl,rfl,rfl⟩
 ·have e : b.cells.length = l.length := by rw [h3, aY]
  exact .inr ⟨id,_,0,none,b,rfl,h1,.inl h2,h4,by omega,by omega,by rw [h3,List.drop_zero,Nat.mul_one, ← aY l,List.take_length]⟩
theorem Exa.app {ty:Option TypeId} {h:aA} {v y:AV} {l ns:List Nat} (S:Exa h v l) (R1:∀ K:List AV→Nat→Prop,K (bB ns) ns.length→eK 1 y h K) (hn:0<ns.length) (hlen:l.length+ns.length≤1000000) {K:AV→aA→Prop}
  (hk:∀ v' h',Upd (aQ v) h h'→Exa h' v' (l++ns)→(∀ i,aQ v' i→aQ v i∨h.length≤i)→K v' h'):bW ty 1 8 v y h K:=by
 refine ⟨Nat.one_pos,R1 _ ?_⟩
 rcases S with ⟨rfl,rfl⟩ | ⟨id,b,rfl,g1,g2,g3,g4,g5,g6⟩
 ·refine ⟨by omega, by omega, ?_⟩
  rw [if_neg (by omega)]
  exact hk _ _ ((Upd.app _ _).mono fun _ _ h=>h.elim) (.inr ⟨h.length,bE (bB ns) 1 false ty,by rw [aY] <;> rfl,by simp,rfl,rfl,by simp [bE,aY],rfl,rfl⟩) fun i hi=>.inr (by have e:h.length=i:=hi; omega)
 ·have hid := aM g1
  have e:b.cells.length=l.length:=by rw [g3,aY]
  have ea:(l++ns).length=l.length+ns.length:=List.length_append
  have ec:(b.cells.drop 0).take (l.length * 1)=bB l:=by rw [g3,List.drop_zero,Nat.mul_one, ← aY l,List.take_length]
  refine ⟨by omega,by omega,b,g1,g2,⟨g4,by simp only; omega,by simp only; omega⟩, ?_⟩
  cases hex:b.ex with
  | true =>
   refine .inr (.inl ⟨hn,.inr ⟨rfl,e.symm,rfl,by simp only; omega⟩, ?_⟩)
   simp only [ec]
   rw [← fA]
   refine hk _ _ ((Upd.app _ _).mono fun _ _ h=>h.elim) (.inr ⟨h.length,bE (bB (l++ns)) 1 false ty,by rw [aY,ea],by simp,rfl,rfl,by simp [bE,aY],rfl,rfl⟩) fun i hi=>.inr (by have e:h.length=i:=hi; omega)
  | false =>
   refine .inr (.inr (.inr (.inl ⟨hn,g5,e.symm,rfl,by omega,rfl,rfl,g6,kV _, ?_⟩)))
   refine hk _ _ ((Upd.set _ _ _).mono fun i _ h=>h.symm) (.inr ⟨id,{ b with cells:=b.cells++bB ns,ty:=fF b.ty ty }, ?_,by simp [hid,hex],g2,by simp only [g3]; rw [fA],by simp only; omega,g5,g6⟩) fun i hi=>.inl hi
   rw [List.length_append,aY,e,ea]
theorem Exa.front {h:aA} {v:AV} {l:List Nat} (S:Exa h v l) {n:Nat} (hn:n≤l.length) {K:AV→Prop} (hk:∀ v',RdI 1 h v' (bB (l.take n)) (l.take n).length→K v'):bI 1 v none (some (.i .i64 (n:Int))) none h K:=by
 obtain ⟨v',R,hv⟩:=S.rd.cutAt Nat.one_pos (lo:=none) (lo':=0) (hi:=n) (.inl ⟨rfl,rfl⟩) (Nat.zero_le _) hn
 refine hv _ (hk v' ?_)
 have e:(l.take n).length=n:=by rw [List.length_take]; omega
 rw [e]
 have:=R.i
 rw [Nat.zero_mul,List.drop_zero,Nat.mul_one,Nat.sub_zero] at this
 unfold bB at this ⊢
 rw [List.map_take]; exact this
theorem Exa.back {h:aA} {v:AV} {l:List Nat} (S:Exa h v l) {n:Nat} (hn:n≤l.length) {K:AV→Prop} (hk:∀ v',RdI 1 h v' (bB (l.drop n)) (l.drop n).length→K v'):bI 1 v (some (.i .i64 (n:Int))) none none h K:=by
 rcases S with ⟨rfl,rfl⟩ | ⟨id,b,rfl,g1,g2,g3,g4,g5,g6⟩
 ·have : n = 0 := by simpa using hn
  subst this
  exact ⟨by simp,rfl,rfl,rfl,fun h=>by simp at h,hk _ (.inl ⟨rfl,rfl,rfl⟩)⟩
 ·have e : b.cells.length = l.length := by rw [g3, aY]
  refine ⟨Nat.one_pos,fun h=>by simp at h,by omega,by simpa using hn,b,g1,by omega,by show b.floor≤l.length; omega,.inl g2,.inl (Nat.le_refl _), ?_⟩
  refine hk _ (.inr (.inr ⟨id,l.length,0+((n:Int).toNat) * 1,none,b, ?_,g1,by omega,by omega, ?_, ?_⟩))
  ·simp
  ·simp; omega
  ·rw [Int.toNat_natCast, Nat.mul_one, Nat.zero_add, Nat.mul_one, g3]
   unfold bB
   rw [← List.map_drop]
   exact List.take_of_length_le (by simp)
theorem cR.store {h:aA} {G:Nat→Prop} {v:AV} {l:List Nat} (A:cR h G v l) {k:IntKind} {i x:Nat} (hi:i<l.length) {K:aA→Prop} (hk:∀ h',h'.length=h.length→Upd (aQ v) h h'→cR h' G v (l.set i x)→K h') :
  aN 1 v (.i k (i:Int)) h fun a=>aT 1 a (iN x) h K:=by
 obtain ⟨id,b,rfl,h1,h2,h3,h4,h5,g⟩:=A
 have e:b.cells.length=l.length:=by rw [h2,aY]
 refine ⟨by omega,by omega,⟨b,h1,by show b.floor≤l.length; omega,by omega⟩, ?_⟩
 refine ⟨b,h1,h4,h3,e.symm,by simp only [Int.toNat_natCast]; omega,rfl,rfl,rfl, ?_⟩
 refine hk _ (by simp) ((Upd.set _ _ _).mono fun i _ h=>h.symm) ⟨id,_,by rw [List.length_set],List.getElem?_set_self (aM h1), ?_, ?_,h4,h5,g⟩
 ·show (b.cells).set (0 + (i : Int).toNat * 1) (iN x) = _
  rw [Int.toNat_natCast,Nat.mul_one,Nat.zero_add,h2,iD]
 ·show b.cells.length ≤ _
  rw [List.length_set]; omega
section
variable [XR] {h:aA} {Q:AV→aA→Prop} {L:Lim} {F:Nat→Prop} {d:Nat} {r:DR} {out:List UInt8} {told:Nat}
theorem oP {c l:List Nat} {lits dists ic:Nat} {symc lv:AV} (hc19:c.length≤19) (hl1:lits≤286) (hd1:dists≤30) (hll:l.length≤lits+dists) (h16:∀ x∈l,x<16) (D:Dec L h F d r out told) (hF:∀ i,h.length≤i→F i) (hd:r.done=false)
  (A:b9 h (Gd F d r) ic c symc 0 0) (S:Lst h (fun i=>Gd F d r i∧i≠ic∧¬ aQ symc i) lv l)
  (hq:∀ e h' r',cP (· = d) L h F d r told (Infl.lensW ⟨out,r.last,r.skip⟩ c l lits dists) e h' r'→Q (.i .i64 e) h'):C Y54.id [dp d,cp ic,lv,iN lits,iN dists] h Q:=by
 refine Y54.call ?_
 simp only [Y54.t]
 refine bQ (hk:=fun h1 l1 U1 R1=>?_)
 refine bQ (hk:=fun h2 l2 U2 R2=>?_)
 refine bQ (hs:=by rcases S.1 with ⟨rfl,_⟩ | ⟨id,b,rfl,_⟩ <;> rfl) (hk:=fun h3 l3 U3 R3=>?_)
 have hparts:lv.parts=[lv]:=by rcases S.1 with ⟨rfl,_⟩ | ⟨id,b,rfl,_⟩ <;> rfl
 rw [hparts] at R3 ⊢
 refine bQ (hk:=fun h4 l4 U4 R4=>?_)
 refine bQ (hk:=fun h5 l5 U5 R5=>?_)
 have U45:=U4.then U5
 have U35:=U3.then U45
 have U25:=U2.then U35
 have U:=U1.then U25
 have R1:=R1.upd U25 fun h=>h
 have R2:=R2.upd U35 fun h=>h
 have R3:=R3.upd U45 fun h=>h
 have R4:=R4.upd U5 fun h=>h
 have S5:Exa h5 lv l:=S.1.upd U fun _ _ h=>h
 refine aE R3 rfl rfl (S5.rd.len ?_)
 refine aE R4 rfl rfl (aC (aE R5 rfl rfl (aC ?_)))
 refine bS (n:=((lits+dists:Nat):Int)) (by omega) (by omega) (by omega) ?_
 unfold Infl.lensW at hq
 refine aG ?_ ?_ <;> intro e
 ·have e : l.length = lits + dists := by simp at e; omega
  rw [if_pos e] at hq
  refine aE R1 rfl rfl (aE R3 rfl rfl (aE R4 rfl rfl (aC (S5.front (by omega) fun va Ra=>?_))))
  refine aE R3 rfl rfl (aE R4 rfl rfl (aC (S5.back (by omega) fun vb Rb=>?_)))
  refine z6 (D.ext U) (fun i hi=>hF i (Nat.le_trans U.1 hi)) hd Ra Rb (by rw [List.length_take]; omega) (by rw [List.length_drop]; omega) (fun x hx=>by have:=h16 x (List.mem_of_mem_take hx); omega) (fun x hx=>by have:=h16 x (List.mem_of_mem_drop hx); omega) fun e1 h6 r6 P=>aC (.inl (hq e1 h6 r6 ?_))
  exact P.from U (fun _ _ h=>h.elim) (fun _ _ h=>h) rfl rfl rfl
 ·have e : ¬ l.length = lits + dists := by simp at e; omega
  rw [if_neg e] at hq
  refine cF fun h6 l6 U6 R6=>?_
  refine aP R6 rfl (ltr rfl) (hk:=fun h7 l7 U7 R7=>?_)
  have U67:Upd (fun _=>False) h5 h7:=U6.own U7 (Nat.le_refl _)
  have V:=U.then U67
  have R1:=R1.upd U67 fun h=>h
  have R2:=R2.upd U67 fun h=>h
  have R3:=R3.upd U67 fun h=>h
  have R4:=R4.upd U67 fun h=>h
  have R5:=R5.upd U67 fun h=>h
  have hic:=A.recd.lt
  have G:∀ {i},h.length≤i→(Gd F d r i∧i≠ic)∧¬ aQ lv i:=fun hi=>⟨⟨D.gd hF hi,by omega⟩,fun hs=>by have:=S.1.lt hs; omega⟩
  refine aE R1 rfl rfl (aE R2 rfl rfl ?_)
  refine rK (D.ext V) hd (l:=c) (ic:=ic) (sym:=symc) (c:=.lens c l lits dists) (A.upd V (fun _ _ h=>h) fun i _ hi=>hi) ⟨_,_,_,_,_,_,lv,rfl,⟨S.1.upd V fun _ _ h=>h,fun i hi=>⟨(S.2 i hi).1,(S.2 i hi).2.1⟩⟩,fun i hi=>(S.2 i hi).2.2,⟨_,rfl,R1,G (Nat.le_refl _)⟩,⟨_,rfl,R2,G (by omega)⟩,⟨_,rfl,R3,G (by omega)⟩,⟨_,rfl,R4,G (by omega)⟩,⟨_,rfl,R5,G (by omega)⟩,⟨_,rfl,R7,G (by omega)⟩⟩
   ⟨by decide,by decide,fun v hv=>⟨hc19,hl1,hd1,by omega,h16,by omega⟩⟩ fun h8 r8 P=>aC (.inl (hq 0 h8 r8 ?_))
  exact P.from V (fun _ _ h=>h.elim) (fun _ _ h=>h) rfl rfl rfl
theorem zQ {l:List Nat} {i n lits dists:Nat} {lv:AV} (hl1:lits≤286) (hd1:dists≤30) (h19:l.length=19) (h8:∀ x∈l,x<8) (hin:i≤n) (hn:n≤19) (D:Dec L h F d r out told) (hF:∀ i,h.length≤i→F i) (hd:r.done=false) (A:cR h (Gd F d r) lv l)
  (hq:∀ e h' r',cP (· = d) L h F d r told (Infl.thirdW ⟨out,r.last,r.skip⟩ l i n lits dists) e h' r'→Q (.i .i64 e) h'):C Y66.id [dp d,lv,iN i,iN n,iN lits,iN dists] h Q:=by
 refine Y66.call ?_
 simp only [Y66.t]
 have hparts:lv.parts=[lv]:=by obtain ⟨id,b,rfl,_⟩:=A; rfl
 have hlt:∀ j,aQ lv j→j<h.length:=fun j hj=>A.rd.lt hj
 refine bQ (hk:=fun h1 l1 U1 R1=>?_)
 refine bQ (hs:=by obtain ⟨id,b,rfl,_⟩:=A; rfl) (hk:=fun h2 l2 U2 R2=>?_)
 rw [hparts] at R2 ⊢
 refine bQ (hk:=fun h3 l3 U3 R3=>?_)
 refine bQ (hk:=fun h4 l4 U4 R4=>?_)
 refine bQ (hk:=fun h5 l5 U5 R5=>?_)
 refine bQ (hk:=fun h6 l6 U6 R6=>?_)
 have U56:=U5.then U6
 have U46:=U4.then U56
 have U36:=U3.then U46
 have U26:=U2.then U36
 have U:=U1.then U26
 have R1:=R1.upd U26 fun h=>h
 have R2:=R2.upd U36 fun h=>h
 have R3:=R3.upd U46 fun h=>h
 have R4:=R4.upd U56 fun h=>h
 have R5:=R5.upd U6 fun h=>h
 have A6:cR h6 (Gd F d r) lv l:=A.upd U (fun _ _ h=>h) fun _ _ h=>h
 refine aE R3 rfl rfl (aC (aE R4 rfl rfl (aC ?_)))
 unfold Infl.thirdW at hq
 refine aG ?_ ?_ <;> intro e
 ·have e : i = n := by simp at e; omega
  rw [if_pos e] at hq
  refine aE R2 rfl rfl ?_
  refine rH A6.rd.i (by omega) (fun x hx=>by have:=h8 x hx; omega) (fun hn e he=>?_) fun hok h7 ic sym U7 Ac=>?_
  ·simp only [cW, cX]
   rw [if_neg hn] at hq
   refine aC (aW (by simp [he]) (.inl (hq 2 h6 r ?_)))
   exact ⟨U.mono fun _ _ h=>h.elim,fun _ _ h=>h,D.ext U,rfl,rfl,rfl,rfl,.inl rfl,hd⟩
  ·simp only [cW, cX]
   rw [if_pos hok] at hq
   refine aC (aL rfl ?_)
   have V:=U.then U7
   have hU:=U.1
   have Ag:b9 h7 (Gd F d r) ic l sym 0 0:={ Ac with g:=D.gd hF (Nat.le_trans hU Ac.g),gs:=fun i hi=>⟨D.gd hF (Nat.le_trans hU (Ac.gs i hi).1),(Ac.gs i hi).2⟩ }
   refine aE (R1.upd U7 fun h=>h) rfl rfl (aE (R5.upd U7 fun h=>h) rfl rfl (aC (aE (R6.upd U7 fun h=>h) rfl rfl (aC ?_))))
   refine oP (l:=[]) (by omega) hl1 hd1 (Nat.zero_le _) (fun x hx=>by cases hx) (D.ext V) (fun i hi=>hF i (Nat.le_trans V.1 hi)) hd Ag ⟨.inl ⟨rfl,rfl⟩,fun _ h=>h.elim⟩ fun e h8 r8 P=>aC (.inl (hq e h8 r8 ?_))
   exact P.from V (fun _ _ h=>h.elim) (fun _ _ h=>h) rfl rfl rfl
 ·have e : ¬ i = n := by simp at e; omega
  rw [if_neg e] at hq
  have G:∀ {i},h.length≤i→Gd F d r i∧¬ aQ lv i:=fun hi=>⟨D.gd hF hi,fun hs=>by have:=hlt _ hs; omega⟩
  refine aE R1 rfl rfl ?_
  refine dO (D.ext U) hd (c:=.third l i n lits dists) ⟨_,_,_,_,_,_,lv,rfl,A6,⟨_,rfl,R2,G (by omega)⟩,⟨_,rfl,R3,G (by omega)⟩,⟨_,rfl,R1,G (Nat.le_refl _)⟩,⟨_,rfl,R4,G (by omega)⟩,⟨_,rfl,R5,G (by omega)⟩,⟨_,rfl,R6,G (by omega)⟩⟩
   ⟨by decide,by decide,.inl (by decide),fun v hv=>⟨hl1,hd1,h19,by omega,hn,h8,hv⟩⟩ fun h7 r7 P=>aC (.inl (hq 0 h7 r7 ?_))
  exact P.from U (fun _ _ h=>h.elim) (fun _ _ h=>h) rfl rfl rfl
theorem aH5 {x lits dists:Nat} {v:AV} (D:Dec L h F d r out told) (hF:∀ i,h.length≤i→F i) (hd:r.done=false) (hc:Clo h (Gd F d r) d 0 (.p none) (.dyn3 lits dists) v) (hf:fit (.dyn3 lits dists) x)
  (hq:∀ e h' r',cP F L h F d r told (Infl.apply L r.input ⟨out,r.last,r.skip⟩ x (.dyn3 lits dists)) e h' r'→Q (.i .i64 e) h'):bZ C v [iN x] h Q:=by
 obtain ⟨bd,bl,bs,rfl,B,Bl,Bs⟩:=hc
 obtain ⟨f1,f2,f3⟩:=hf
 refine cY (by decide) (Y73.call ?_)
 simp only [Y73.t,B.ld,Bl.ld,Bs.ld,iH]
 refine bS (n:=((x+4:Nat):Int)) (by omega) (by omega) (by omega) ?_
 refine mN (n:=19) (by decide) fun v h1 U1 A1=>?_
 have up:∀ {y z},Bx h (Gd F d r) y z→Bx h1 (Gd F d r) y z:=fun B=>B.upd U1 (fun _ _ h=>h) fun _ _ h=>h
 simp only [(up B).ld,(up Bl).ld,(up Bs).ld,iH,oI,true_and]
 refine zQ (l:=List.replicate 19 0) (i:=0) f1 f2 (by simp) (fun x hx=>by rw [(List.mem_replicate.1 hx).2]; decide) (by omega) (by omega) (D.ext U1) (fun i hi=>hF i (Nat.le_trans U1.1 hi)) hd (A1.mono fun i _ hi=>D.gd hF hi) fun e h2 r2 P=>aC (.inl (hq e h2 r2 ?_))
 exact (P.from U1 (fun _ _ h=>h.elim) (fun _ _ h=>h) rfl rfl rfl).mono fun i _ e=>D.f i (.inl e)
theorem wL:∀ i,i<19→Infl.order[i]? = some (Infl.order.getD i 0)∧Infl.order.getD i 0<19:=by decide
abbrev cS (h:aA):Prop:=uF h 0 (bB Infl.order)
theorem aFZ {x i n lits dists:Nat} {l:List Nat} {v:AV} (O:cS h) (D:Dec L h F d r out told) (hF:∀ i,h.length≤i→F i) (hd:r.done=false) (hc:Clo h (Gd F d r) d 0 (.p none) (.third l i n lits dists) v) (hf:fit (.third l i n lits dists) x)
  (hq:∀ e h' r',cP F L h F d r told (Infl.apply L r.input ⟨out,r.last,r.skip⟩ x (.third l i n lits dists)) e h' r'→Q (.i .i64 e) h'):bZ C v [iN x] h Q:=by
 obtain ⟨bl,bi,bd,bn,bt,bs,lv,rfl,A,Bl,Bi,B,Bn,Bt,Bs⟩:=hc
 obtain ⟨f1,f2,f3,f4,f5,f6,f7⟩:=hf
 obtain ⟨o1,o2⟩:=wL i (by omega)
 refine cY (by decide) (Y82.call ?_)
 simp only [Y82.t,Bl.ld,Bi.ld,iH]
 rw [O.var]
 refine ⟨by omega,by omega, ?_⟩
 refine O.ld (o:=0+(i:Int).toNat * 1) (v:=iN (Infl.order.getD i 0)) rfl (by rw [Int.toNat_natCast,Nat.mul_one,Nat.zero_add]; exact gE o1) (aC ?_)
 refine A.store (by omega) fun h1 l1 U1 A1=>?_
 have up:∀ {y z},Bx h (fun i=>Gd F d r i∧¬ aQ lv i) y z→Bx h1 (fun i=>Gd F d r i∧¬ aQ lv i) y z:=fun B=>B.upd U1 (fun i hi=>hi.2) fun _ _ h=>h
 simp only [(up B).ld,(up Bl).ld,(up Bi).ld,(up Bn).ld,(up Bt).ld,(up Bs).ld,iH]
 have hlv:∀ i,aQ lv i→Gd F d r i:=fun i hi=>by obtain ⟨id,b,rfl,_,_,_,_,_,g⟩:=A; have e:id=i:=hi; exact e ▸ g
 refine inc (by omega) ?_
 refine zQ (l:=l.set (Infl.order.getD i 0) x) (i:=i+1) f1 f2 (by rw [List.length_set]; exact f3) (fun y hy=>?_) (by omega) f5 (D.upd U1 fun i hm hi=>(hlv i hi).2 hm) (fun i hi=>hF i (by omega)) hd A1 fun e h2 r2 P=>aC (.inl (hq e h2 r2 ?_))
 ·rcases List.mem_or_eq_of_mem_set hy with h | h
  ·exact f6 y h
  ·rw [h]; exact f7
 ·exact (P.mono (N:=F) fun i _ e=>D.f i (.inl e)).from U1 (fun i _ hi=>(hlv i hi).1) (fun _ _ h=>h) rfl rfl rfl
theorem oC {bd bl bt bs bc lv symc:AV} {c l:List Nat} {lits dists ic bits m x:Nat} (D:Dec L h F d r out told) (hF:∀ i,h.length≤i→F i) (hd:r.done=false) (A:b9 h (Gd F d r) ic c symc 0 0) (S:Lst h (fun i=>Gd F d r i∧i≠ic∧¬ aQ symc i) lv l)
  (B:Bx h (fun i=>Gd F d r i∧¬ aQ lv i) bd (dp d)) (Bl:Bx h (fun i=>Gd F d r i∧¬ aQ lv i) bl lv) (Bt:Bx h (fun i=>Gd F d r i∧¬ aQ lv i) bt (iN lits)) (Bs:Bx h (fun i=>Gd F d r i∧¬ aQ lv i) bs (iN dists)) (Bc:Bx h (fun i=>Gd F d r i∧¬ aQ lv i) bc (cp ic))
  (hb0:0<bits) (hb:bits≤7) (hfit:∀ v,v<2 ^ bits→fit (.rep c l lits dists m x) v)
  (hq:∀ h' r',cP (· = d) L h F d r told (.wait ⟨out,r.last,r.skip⟩ (.num bits 0 0) (.rep c l lits dists m x)) 0 h' r'→Q (iN 0) h'):bZ C (Fn Y58.id [bd,bl,bt,bs,bc]) [iN bits,iN m,iN x] h Q:=by
 refine cY (by decide) (Y58.call ?_)
 simp only [Y58.t]
 refine bQ (hk:=fun h1 l1 U1 R1=>?_)
 refine bQ (hk:=fun h2 l2 U2 R2=>?_)
 have U:=U1.then U2
 have R1:=R1.upd U2 fun h=>h
 have up:∀ {y z},Bx h (fun i=>Gd F d r i∧¬ aQ lv i) y z→Bx h2 (fun i=>Gd F d r i∧¬ aQ lv i) y z:=fun B=>B.upd U (fun _ _ h=>h) fun _ _ h=>h
 have G:∀ {i},h.length≤i→Gd F d r i∧¬ aQ lv i:=fun hi=>⟨D.gd hF hi,fun hs=>by have:=S.1.lt hs; omega⟩
 rw [(up B).ld]
 refine dO (D.ext U) hd (c:=.rep c l lits dists m x) ⟨_,_,_,_,_,_,_,ic,symc,lv,rfl,S.upd U (fun _ _ h=>h) fun _ _ h=>h,A.upd U (fun _ _ h=>h) fun _ _ h=>h,up Bl,⟨_,rfl,R1,G (Nat.le_refl _)⟩,up Bt,up Bs,up B,up Bc,⟨_,rfl,R2,G (by omega)⟩⟩
  ⟨by omega,by simp,.inl hb0,hfit⟩ fun h3 r3 P=>aC (.inl (hq h3 r3 ?_))
 exact P.from U (fun _ _ h=>h.elim) (fun _ _ h=>h) rfl rfl rfl
theorem aH0 {x ic lits dists : Nat} {sym : AV} {c l : List Nat} {v : AV} (D : Dec L h F d r out told) (hF : ∀ i, h.length ≤ i → F i) (hd : r.done = false) (A : b9 h (Gd F d r) ic c sym 0 0) (hc : Clo h (fun i => Gd F d r i ∧ i ≠ ic) d ic sym (.lens c l lits dists) v) (hf : fit (.lens c l lits dists) x)
  (hq:∀ e h' r',cP F L h F d r told (Infl.apply L r.input ⟨out,r.last,r.skip⟩ x (.lens c l lits dists)) e h' r'→Q (.i .i64 e) h'):bZ C v [iN x] h Q:=by
 obtain ⟨bd,bc,bl,bt,bs,br,lv,rfl,S0,hns,B,Bc,Bl,Bt,Bs,Br⟩:=hc
 obtain ⟨f0,f1,f2,f3,f4,f5⟩:=hf
 have S:Lst h (fun i=>Gd F d r i∧i≠ic∧¬ aQ sym i) lv l:=⟨S0.1,fun i hi=>⟨(S0.2 i hi).1,(S0.2 i hi).2,hns i hi⟩⟩
 have w:∀ {y z},Bx h (fun i=>(Gd F d r i∧i≠ic)∧¬ aQ lv i) y z→Bx h (fun i=>Gd F d r i∧¬ aQ lv i) y z:=fun B=>B.upd (Upd.refl (fun _=>False) h) (fun _ _ h=>h) fun i _ hi=>⟨hi.1.1,hi.2⟩
 have B:=w B
 have Bc:=w Bc
 have Bl:=w Bl
 have Bt:=w Bt
 have Bs:=w Bs
 have Br:=w Br
 have hFd:∀ i,h.length≤i→F i:=hF
 refine cY (by decide) (Y38.call ?_)
 simp only [Y38.t, ← Y38.p0.eq_1]
 simp only [Infl.apply] at hq
 refine aG ?_ ?_ <;> intro e0
 ·have e0 : x < 16 := by simp at e0; omega
  rw [if_pos e0] at hq
  simp only [B.ld,Bc.ld,Bl.ld,Bt.ld,Bs.ld,iH]
  refine dZ (cs:=bB [x]) rfl rfl fun y h1 l1 U1 R1 F1=>?_
  have up:∀ {y z},Bx h (fun i=>Gd F d r i∧¬ aQ lv i) y z→Bx h1 (fun i=>Gd F d r i∧¬ aQ lv i) y z:=fun B=>B.upd U1 (fun _ _ h=>h) fun _ _ h=>h
  simp only [(up B).ld,(up Bc).ld,(up Bl).ld,(up Bt).ld,(up Bs).ld,iH,oI,true_and]
  have S1:Exa h1 lv l:=S.1.upd U1 fun _ _ h=>h
  refine S1.app (ns:=[x]) (fun K hk=>R1.news hk) Nat.one_pos (by simp; omega) fun lv' h2 U2 S2 N2=>?_
  have up2:∀ {y z},Bx h (fun i=>Gd F d r i∧¬ aQ lv i) y z→Bx h2 (fun i=>Gd F d r i∧¬ aQ lv i) y z:=fun B=>(up B).upd U2 (fun i hi=>hi.2) fun _ _ h=>h
  simp only [(up2 B).ld,(up2 Bc).ld,(up2 Bt).ld,(up2 Bs).ld,iH,oI,true_and]
  have U:Upd (aQ lv) h h2:=(U1.mono fun _ _ h=>h.elim).trans U2 fun _ _ h=>h
  have hic:=A.recd.lt
  refine oP (l:=l++[x]) f0 f1 f2 (by simp; omega) (fun y hy=>?_) (D.upd U fun i hm hi=>(S.2 i hi).1.2 hm) (fun i hi=>hF i (Nat.le_trans U.1 hi)) hd { A with recd:=A.recd.upd U fun hs=>(S.2 ic hs).2.1 rfl,syms:=A.syms.upd U fun i hi hs=>(S.2 i hs).2.2 hi,gs:=fun i hi=>⟨(A.gs i hi).1,(A.gs i hi).2.1,Nat.lt_of_lt_of_le (A.gs i hi).2.2 U.1⟩ } ⟨S2,fun i hi=>?_⟩ fun e h3 r3 P=>aC (.inl (hq e h3 r3 ?_))
  ·rcases List.mem_append.1 hy with h | h
   ·exact f4 y h
   ·simp at h; omega
  ·rcases N2 i hi with g | g
   ·exact S.2 i g
   ·have := U1.1
    exact ⟨D.gd hF (by omega),by omega,fun hs=>by have:=(A.gs i hs).2.2; omega⟩
  ·exact (P.mono (N:=F) fun i _ e=>D.f i (.inl e)).from U (fun i _ hi=>(S.2 i hi).1.1) (fun _ _ h=>h) rfl rfl rfl
 ·have e0 : ¬ x < 16 := by simp at e0; omega
  rw [if_neg e0] at hq
  have P0 : ∀ t, t = decide (x = 16 ∧ l = []) → Y38.p0 (aH h Q) x bl br t h := fun t ht => by
   refine Y38.i0 ?_
   simp only [Y38.t0]
   by_cases h16:x=16
   ·rw [if_pos h16] at hq
    by_cases hl:l=[]
    ·rw [if_pos hl] at hq
     refine aW (by rw [ht]; exact decide_eq_true ⟨h16,hl⟩) (.inl (hq 2 h r ?_))
     exact ⟨Upd.refl _ _,fun _ _ h=>h,D,rfl,rfl,rfl,rfl,.inl rfl,hd⟩
    ·rw [if_neg hl] at hq
     refine aL (by rw [ht]; exact decide_eq_false fun hh=>hl hh.2) (aW (by simp; omega) ?_)
     have hpos:0<l.length:=List.length_pos_iff.2 hl
     simp only [Bl.ld,Br.ld]
     refine S.1.rd.len (bS (n:=((l.length - 1:Nat):Int)) (by omega) (by omega) (by omega) ?_)
     have hlast:l[l.length - 1]? = some (l.getLastD 0):=by
      rw [List.getLastD_eq_getLast?,List.getLast?_eq_getElem?]
      rw [List.getElem?_eq_getElem (by omega)] <;> rfl
     have hx16:=f4 _ (List.mem_of_getElem? hlast)
     refine cO S.1.rd.i hlast ?_
     refine oC (bits:=2) (m:=3) D hF hd A S B Bl Bt Bs Bc (by decide) (by decide) (fun v hv=>⟨f0,f1,f2,f3,f4,hx16,by decide,by omega⟩) fun h1 r1 P=>aC (.inl (hq 0 h1 r1 (P.mono fun i _ e=>D.f i (.inl e))))
   ·rw [if_neg h16] at hq
    refine aL (by rw [ht]; exact decide_eq_false fun hh=>h16 hh.1) (aL (by simp; omega) ?_)
    refine aG ?_ ?_ <;> intro e1
    ·have e1 : x = 17 := by simp at e1; omega
     rw [if_pos e1] at hq
     simp only [Br.ld]
     refine oC (bits:=3) (m:=3) (x:=0) D hF hd A S B Bl Bt Bs Bc (by decide) (by decide) (fun v hv=>⟨f0,f1,f2,f3,f4,by decide,by decide,by omega⟩) fun h1 r1 P=>aC (.inl (hq 0 h1 r1 (P.mono fun i _ e=>D.f i (.inl e))))
    ·have e1 : ¬ x = 17 := by simp at e1; omega
     rw [if_neg e1] at hq
     simp only [Br.ld]
     refine oC (bits:=7) (m:=11) (x:=0) D hF hd A S B Bl Bt Bs Bc (by decide) (by decide) (fun v hv=>⟨f0,f1,f2,f3,f4,by decide,by decide,by omega⟩) fun h1 r1 P=>aC (.inl (hq 0 h1 r1 (P.mono fun i _ e=>D.f i (.inl e))))
  refine aG ?_ ?_ <;> intro e1
  ·have e1 : x = 16 := by simp at e1; omega
   simp only [Bl.ld]
   refine S.1.rd.len (P0 _ ?_)
   rw [decide_eq_decide]
   constructor
   ·intro hh; exact ⟨e1,List.eq_nil_of_length_eq_zero (by omega)⟩
   ·rintro ⟨_,rfl⟩; rfl
  ·have e1 : ¬ x = 16 := by simp at e1; omega
   exact P0 _ (decide_eq_false fun hh=>e1 hh.1).symm
theorem aIC {x lits dists m y : Nat} {c l : List Nat} {v : AV} (D : Dec L h F d r out told) (hF : ∀ i, h.length ≤ i → F i) (hd : r.done = false) (hc : Clo h (Gd F d r) d 0 (.p none) (.rep c l lits dists m y) v) (hf : fit (.rep c l lits dists m y) x)
  (hq:∀ e h' r',cP F L h F d r told (Infl.apply L r.input ⟨out,r.last,r.skip⟩ x (.rep c l lits dists m y)) e h' r'→Q (.i .i64 e) h'):bZ C v [iN x] h Q:=by
 obtain ⟨bl,bm,bt,bs,bd,bc,bx,ic,symc,lv,rfl,S,A,Bl,Bm,Bt,Bs,B,Bc,Bx'⟩:=hc
 obtain ⟨f0,f1,f2,f3,f4,f5,f6,f7⟩:=hf
 refine cY (by decide) (Y87.call ?_)
 simp only [Y87.t,B.ld,Bc.ld,Bl.ld,Bm.ld,Bt.ld,Bs.ld,Bx'.ld,iH]
 simp only [Infl.apply] at hq
 refine S.1.rd.len ?_
 refine bS (n:=((l.length+m:Nat):Int)) (by omega) (by omega) (by omega) ?_
 refine bS (n:=((l.length+(m+x):Nat):Int)) (by omega) (by omega) (by omega) ?_
 refine bS (n:=((lits+dists:Nat):Int)) (by omega) (by omega) (by omega) ?_
 refine aG ?_ ?_ <;> intro e0
 ·have e0 : lits + dists < l.length + (m + x) := by simp at e0; omega
  rw [if_pos e0] at hq
  exact .inl (hq 2 h r ⟨Upd.refl _ _,fun _ _ h=>h,D,rfl,rfl,rfl,rfl,.inl rfl,hd⟩)
 ·have e0 : ¬ lits + dists < l.length + (m + x) := by simp at e0; omega
  rw [if_neg e0] at hq
  refine bS (n:=((m+x:Nat):Int)) (by omega) (by omega) (by omega) ?_
  refine dZ (cs:=bB [y]) rfl rfl fun z h1 l1 U1 R1 F1=>?_
  have up:∀ {y z},Bx h (fun i=>Gd F d r i∧¬ aQ lv i) y z→Bx h1 (fun i=>Gd F d r i∧¬ aQ lv i) y z:=fun B=>B.upd U1 (fun _ _ h=>h) fun _ _ h=>h
  simp only [(up B).ld,(up Bc).ld,(up Bl).ld,(up Bm).ld,(up Bt).ld,(up Bs).ld,(up Bx').ld,iH,oI,true_and]
  refine vB R1.i (by omega) (by omega) fun h2 z2 U2 A2=>?_
  have U12:=U1.then U2
  have up2:∀ {y z},Bx h (fun i=>Gd F d r i∧¬ aQ lv i) y z→Bx h2 (fun i=>Gd F d r i∧¬ aQ lv i) y z:=fun B=>B.upd U12 (fun _ _ h=>h) fun _ _ h=>h
  simp only [(up2 B).ld,(up2 Bc).ld,(up2 Bl).ld,(up2 Bm).ld,(up2 Bt).ld,(up2 Bs).ld,(up2 Bx').ld,iH,oI,true_and]
  have S2:Exa h2 lv l:=S.1.upd U12 fun _ _ h=>h
  refine S2.app (ns:=List.replicate (m+x) y) (fun K hk=>A2.rd.i.news hk) (by simp; omega) (by simp; omega) fun lv' h3 U3 S3 N3=>?_
  have up3:∀ {y z},Bx h (fun i=>Gd F d r i∧¬ aQ lv i) y z→Bx h3 (fun i=>Gd F d r i∧¬ aQ lv i) y z:=fun B=>(up2 B).upd U3 (fun i hi=>hi.2) fun _ _ h=>h
  simp only [(up3 B).ld,(up3 Bc).ld,(up3 Bl).ld,(up3 Bm).ld,(up3 Bt).ld,(up3 Bs).ld,(up3 Bx').ld,iH,oI,true_and]
  have U:Upd (aQ lv) h h3:=(U12.mono fun _ _ h=>h.elim).trans U3 fun _ _ h=>h
  have hic:=A.recd.lt
  refine oP (l:=l++List.replicate (m+x) y) f0 f1 f2 (by simp; omega) (fun y' hy=>?_) (D.upd U fun i hm hi=>(S.2 i hi).1.2 hm) (fun i hi=>hF i (Nat.le_trans U.1 hi)) hd { A with recd:=A.recd.upd U fun hs=>(S.2 ic hs).2.1 rfl,syms:=A.syms.upd U fun i hi hs=>(S.2 i hs).2.2 hi,gs:=fun i hi=>⟨(A.gs i hi).1,(A.gs i hi).2.1,Nat.lt_of_lt_of_le (A.gs i hi).2.2 U.1⟩ } ⟨S3,fun i hi=>?_⟩ fun e h4 r4 P=>aC (.inl (hq e h4 r4 ?_))
  ·rcases List.mem_append.1 hy with h | h
   ·exact f4 y' h
   ·rw [(List.mem_replicate.1 h).2]; exact f5
  ·rcases N3 i hi with g | g
   ·exact S.2 i g
   ·have := U12.1
    exact ⟨D.gd hF (by omega),by omega,fun hs=>by have:=(A.gs i hs).2.2; omega⟩
  ·exact (P.mono (N:=F) fun i _ e=>D.f i (.inl e)).from U (fun i _ hi=>(S.2 i hi).1.1) (fun _ _ h=>h) rfl rfl rfl
end
end Go.Proofs.YtpaphfeihpgamaaDoor
namespace Go.Proofs.YtpaphfeihpgamaaDoor
open Go.GAM
def fH (l:List Nat) (i:Nat):List Nat:=(List.range 16).map fun n=>Huff.fst l n+Huff.cnt (l.take i) n
def nS (l:List Nat) (i:Nat):List Nat:=(List.range l.length).map fun j=>if j<i∧0<l.getD j 0 then Huff.codeAt l j else 0
def gT (l:List Nat):List Nat:=nS l l.length
theorem iK (l:List Nat) (i:Nat):(fH l i).length=16:=by simp [fH]
theorem j8 (l:List Nat) (i:Nat):(nS l i).length=l.length:=by simp [nS]
theorem rS (l:List Nat) (i:Nat) {n:Nat} (h:n<16):(fH l i)[n]? = some (Huff.fst l n+Huff.cnt (l.take i) n):=by simp [fH,h]
theorem pJ (l:List Nat) (i:Nat) {j:Nat} (h:j<l.length):(nS l i)[j]? = some (if j<i∧0<l.getD j 0 then Huff.codeAt l j else 0):=by simp [nS,h]
theorem aA5 {l:List Nat} {j:Nat} (h:j<l.length) (h0:0<l.getD j 0):(gT l)[j]? = some (Huff.codeAt l j):=by
 rw [gT,pJ l _ h,if_pos ⟨h,h0⟩]
theorem xQ (l:List Nat):fH l 0=(List.range 16).map (Huff.fst l):=by
 unfold fH
 exact List.map_congr_left fun j _=>by
  have:Huff.cnt (l.take 0) j=0:=by cases j <;> rfl
  rw [this] <;> rfl
theorem aBX (l:List Nat):nS l 0=List.replicate l.length 0:=by
 refine List.ext_getElem? fun j=>?_
 by_cases hj:j<l.length
 ·rw [pJ l 0 hj,if_neg (by omega)]; simp [hj]
 ·rw [List.getElem?_eq_none (by rw [j8]; omega),List.getElem?_eq_none (by simp; omega)]
theorem aB7 {l:List Nat} {i x:Nat} (hx:l[i]? = some x) (h0:0<x) (h:x<16):(fH l i).set x (Huff.fst l x+Huff.cnt (l.take i) x+1)=fH l (i+1):=by
 refine List.ext_getElem? fun j=>?_
 rw [List.getElem?_set]
 by_cases hj:j<16
 ·rw [rS l i hj, rS l (i + 1) hj, dR hx, nE]
  by_cases e:x=j
  ·subst e; rw [if_pos rfl,if_pos (by rw [iK]; exact h),if_pos ⟨h0,rfl⟩] <;> rfl
  ·rw [if_neg e,if_neg (by omega)]
 ·rw [if_neg (by omega),List.getElem?_eq_none (by rw [iK]; omega),List.getElem?_eq_none (by rw [iK]; omega)]
theorem xU {l:List Nat} {i:Nat} (hx:l[i]? = some 0):fH l (i+1)=fH l i:=by
 unfold fH
 exact List.map_congr_left fun j _=>by rw [dR hx,nE,if_neg (by omega)]
theorem uM {l:List Nat} {i x:Nat} (hx:l[i]? = some x):l.getD i 0=x:=by rw [List.getD_eq_getElem?_getD,hx] <;> rfl
theorem aB8 {l:List Nat} {i x:Nat} (hx:l[i]? = some x) (h0:0<x):Huff.codeAt l i=Huff.fst l x+Huff.cnt (l.take i) x:=by
 unfold Huff.codeAt
 rw [uM hx]
 cases x with
 | zero=>omega
 | succ n=>rfl
theorem aC6 {l : List Nat} {i x : Nat} (hx : l[i]? = some x) (h0 : 0 < x) : (nS l i).set i (Huff.fst l x + Huff.cnt (l.take i) x) = nS l (i + 1) := by
 have hi:=aM hx
 refine List.ext_getElem? fun j=>?_
 rw [List.getElem?_set]
 by_cases hj:j<l.length
 ·rw [pJ l i hj, pJ l (i + 1) hj]
  by_cases e:i=j
  ·subst e; rw [if_pos rfl,if_pos (by rw [j8]; exact hi),if_pos ⟨by omega,by rw [uM hx]; exact h0⟩,aB8 hx h0]
  ·rw [if_neg e]
   congr 1
   by_cases hji:j<i
   ·by_cases h2 : 0 < l.getD j 0
    ·rw [if_pos ⟨hji,h2⟩,if_pos ⟨by omega,h2⟩]
    ·rw [if_neg (fun h=>h2 h.2),if_neg (fun h=>h2 h.2)]
   ·rw [if_neg (fun h=>hji h.1),if_neg (fun h=>by omega)]
 ·rw [if_neg (by omega),List.getElem?_eq_none (by rw [j8]; omega),List.getElem?_eq_none (by rw [j8]; omega)]
theorem aCA {l:List Nat} {i:Nat} (hx:l[i]? = some 0):nS l (i+1)=nS l i:=by
 unfold nS
 refine List.map_congr_left fun j _=>?_
 by_cases e:j=i
 ·subst e
  rw [if_neg (fun h=>by rw [uM hx] at h; omega),if_neg (fun h=>by omega)]
 ·by_cases hji : j < i
  ·by_cases h2 : 0 < l.getD j 0
   ·rw [if_pos ⟨by omega,h2⟩,if_pos ⟨hji,h2⟩]
   ·rw [if_neg (fun h=>h2 h.2),if_neg (fun h=>h2 h.2)]
  ·rw [if_neg (fun h=>by omega),if_neg (fun h=>hji h.1)]
section
variable [XR] {h:aA} {Q:AV→aA→Prop} {v:AV} {l:List Nat}
theorem aA1 (hl : l.length ≤ 320) (h15 : ∀ x ∈ l, x ≤ 15) {h0 : aA} {a : Nat} {x5 : AV} (R0 : RdI 1 h0 v (bB l) l.length) (ha : h0.length ≤ a) (hq : ∀ h', Upd (fun _ => False) h0 h' → cR h' (fun i => h0.length ≤ i) x5 (gT l) → Q x5 h') :
  ∀ (m i:Nat) (h:aA),i+m=l.length→Upd (fun _=>False) h0 h→bC h a (bB (fH l i))→cR h (fun i=>h0.length≤i∧i≠a) x5 (nS l i)→Y16.p1 (aH h0 Q) (.p (some ⟨a,16,0⟩)) x5 v l.length i h:=by
 intro m
 induction m with
 | zero =>
  intro i h hi U Ra O
  obtain rfl:i=l.length:=by omega
  refine Y16.i1 ?_
  simp only [Y16.t1]
  exact aL (by simp) (.inl (hq h U (O.mono fun i _ g=>g.1)))
 | succ m ih =>
  intro i h hi U Ra O
  have hil:i<l.length:=by omega
  obtain ⟨x,hx⟩:∃ x,l[i]? = some x:=⟨l[i],List.getElem?_eq_getElem hil⟩
  have hx15:x≤15:=h15 x (List.mem_of_getElem? hx)
  have R:=R0.ext U
  refine Y16.i1 ?_
  simp only [Y16.t1, ← Y16.p2.eq_1]
  refine aW (by simp; omega) ?_
  refine cO R hx ?_
  have P2:∀ h',Upd (fun _=>False) h0 h'→bC h' a (bB (fH l (i+1)))→cR h' (fun i=>h0.length≤i∧i≠a) x5 (nS l (i+1))→Y16.p2 (aH h0 Q) (.p (some ⟨a,16,0⟩)) x5 v l.length i h':=fun h' U' R' O'=>by
   refine Y16.i2 ?_
   simp only [Y16.t2, ← Y16.p1.eq_1]
   exact inc (by omega) (ih (i+1) h' (by omega) U' R' O')
  refine aG (fun e=>?_) fun e=>?_
  ·have e : 0 < x := by simp at e; omega
   have tl:16=(bB (fH l i)).length:=by rw [aY,iK]
   have hn:=rS l i (show x<16 by omega)
   have hb1:=mB hl hx15
   have hb2:=mA (l.take i) x
   have hb3:(l.take i).length≤l.length:=by simp; omega
   have ex:0+(x:Int).toNat * 1=x:=by rw [Int.toNat_natCast]; omega
   refine ⟨by omega,by omega, ?_⟩
   rw [ex]
   refine aE Ra tl (gE hn) (aC ?_)
   refine cR.store O (by rw [j8]; exact hil) fun h1 l1 U1 O1=>?_
   obtain ⟨idv,bv,hv,_,_,_,_,_,gv⟩:=O
   have Ra1:=Ra.upd U1 fun h=>by rw [hv] at h; exact gv.2 h
   refine ⟨by omega,by omega, ?_⟩
   rw [ex]
   refine aE Ra1 tl (gE hn) (aC ?_)
   refine aX (n:=((Huff.fst l x+Huff.cnt (l.take i) x+1:Nat):Int)) (by rw [bA (by omega) (by omega)]; omega) ?_
   refine ⟨by omega,by omega, ?_⟩
   rw [ex]
   refine aP Ra1 tl (by rw [← tl]; omega) (hk:=fun h2 l2 U2 R2=>?_)
   have Ub:Upd (fun _=>False) h0 h1:=U.ownP U1 fun j hj=>by
    rw [hv] at hj; cases hj; exact gv.1
   refine P2 h2 (Ub.own U2 ha) ?_ ?_
   ·rw [iD,aB7 hx e (by omega)] at R2; exact R2
   ·rw [aC6 hx e] at O1
    exact O1.upd U2 (fun i g e=>g.2 e) fun i _ g=>g
  ·have e : x = 0 := by simp at e; omega
   subst e
   rw [← xU hx] at Ra
   rw [← aCA hx] at O
   exact P2 h U Ra O
theorem vT (hl:l.length≤320) (h15:∀ x∈l,x≤15) (hk:Huff.checkP l≠1) (R:RdI 1 h v (bB l) l.length) (hq:∀ h' w,Upd (fun _=>False) h h'→cR h' (fun i=>h.length≤i) w (gT l)→Q w h'):C Y16.id [v] h Q:=by
 refine Y16.call ?_
 simp only [Y16.t, ← Y16.p0.eq_1]
 refine zP R hl h15 (aC ?_)
 have P0:∀ b,b=false→Y16.p0 (aH h Q) v b h:=fun b hb=>by
  subst hb
  refine Y16.i0 ?_
  simp only [Y16.t0, ← Y16.p1.eq_1]
  refine aL rfl ?_
  refine y8 hl h15 R fun h1 U1=>?_
  have hf:((tab (eI l) ((List.range 16).map (Huff.fst l))).drop 16).take 16=bB (fH l 0):=by
   unfold tab
   rw [List.drop_left' (by rw [aY,cB]),xQ]
   exact List.take_of_length_le (by rw [aY]; simp)
  rw [show ∀ K:AV→Prop,kO 16 16 (AV.ag (tab (eI l) ((List.range 16).map (Huff.fst l)))) K=K (.ag (bB (fH l 0))) from fun K=>by rw [← hf] <;> rfl]
  refine cF fun h2 l2 U2 R2=>?_
  refine iL R2 rfl (by rw [aY,iK]) (kV _) fun h3 l3 U3 R3=>?_
  refine R.len ?_
  refine mN (by omega) fun w h4 U4 A4=>?_
  refine R.len ?_
  have U:Upd (fun _=>False) h h4:=((U1.then U2).own U3 U1.1).then U4
  refine aA1 hl h15 R (a:=h1.length) U1.1 (fun h' U' O'=>hq h' w U' O') l.length 0 h4 (by omega) U ?_ ?_
  ·exact R3.upd U4 fun h=>h
  ·rw [aBX]
   exact A4.mono fun i _ g=>⟨by have:=U1.1; omega,by omega⟩
 unfold gY
 rcases hc:Huff.checkP l with _ | _ | n
 ·exact aL rfl (P0 _ rfl)
 ·exact absurd hc hk
 ·exact aW rfl (P0 _ rfl)
end
end Go.Proofs.YtpaphfeihpgamaaDoor
namespace Go.Proofs.YtpaphfeihpgamaaDoor
open Go.GAM
def lsF (n k:Nat):Nat:=((List.range k).map (· + 257)).foldl (fun o s=>if (Infl.least s).1≤n then s else o) 257
theorem wX (n k:Nat):lsF n (k+1)=if (Infl.least (k+257)).1≤n then k+257 else lsF n k:=by
 unfold lsF
 rw [List.range_succ,List.map_append,List.foldl_append]
 first | done | rfl
def fsF (n k:Nat):Nat:=(List.range k).foldl (fun o s=>if (Infl.farOf s).1≤n then s else o) 0
theorem wM (n k:Nat):fsF n (k+1)=if (Infl.farOf k).1≤n then k else fsF n k:=by
 unfold fsF
 rw [List.range_succ,List.foldl_append]
 first | done | rfl
section
variable [XR] {h:aA} {Q:AV→aA→Prop}
theorem aGC (n:Nat) (hq:Q (iN (lsF n 28)) h):∀ (m k:Nat),k+m=28→Y22.p0 Q n (lsF n k) ((k+257:Nat):Int) h:=by
 intro m
 induction m with
 | zero =>
  intro k hk
  obtain rfl:k=28:=by omega
  refine Y22.i0 ?_
  simp only [Y22.t0]
  exact aL (by decide) hq
 | succ m ih =>
  intro k hk
  refine Y22.i0 ?_
  simp only [Y22.t0, ← Y22.p1.eq_1]
  refine aW (decide_eq_true (by omega)) ?_
  refine qE (x:=k+257) (by omega) (by omega) ?_
  simp only [cW,cX]
  refine aC (aC ?_)
  have nxt:∀ o:Nat,o=lsF n (k+1)→Y22.p1 Q n o ((k+257:Nat):Int) h:=fun o ho=>by
   subst ho
   refine Y22.i1 ?_
   simp only [Y22.t1, ← Y22.p0.eq_1]
   refine aX (n:=((k+1+257:Nat):Int)) (by rw [bA (by omega) (by omega)]; omega) (ih (k+1) (by omega))
  refine aG (fun e=>?_) fun e=>?_
  ·exact nxt _ (by rw [wX,if_pos (by simp at e; omega)])
  ·exact nxt _ (by rw [wX,if_neg (by simp at e; omega)])
theorem aHZ {n:Nat} (hq:Q (iN (Infl.lenSym n)) h):C Y22.id [iN n] h Q:=by
 refine Y22.call ?_
 simp only [Y22.t, ← Y22.p0.eq_1]
 refine aG (fun e=>?_) fun e=>?_
 ·refine .inl ?_
  have:Infl.lenSym n=285:=by unfold Infl.lenSym; rw [if_pos (by simp at e; omega)]
  rw [this] at hq; exact hq
 ·have : Infl.lenSym n = lsF n 28 := by unfold Infl.lenSym; rw [if_neg (by simp at e; omega)] <;> rfl
  rw [this] at hq
  exact aGC n (.inl hq) 28 0 (by omega)
theorem aFO (n:Nat) (hq:Q (iN (fsF n 30)) h):∀ (m k:Nat),k+m=30→Y23.p0 Q n (fsF n k) (k:Int) h:=by
 intro m
 induction m with
 | zero =>
  intro k hk
  obtain rfl:k=30:=by omega
  refine Y23.i0 ?_
  simp only [Y23.t0]
  exact aL (by decide) hq
 | succ m ih =>
  intro k hk
  refine Y23.i0 ?_
  simp only [Y23.t0, ← Y23.p1.eq_1]
  refine aW (decide_eq_true (by omega)) ?_
  refine lN (x:=k) (by omega) ?_
  simp only [cW,cX]
  refine aC (aC ?_)
  have nxt:∀ o:Nat,o=fsF n (k+1)→Y23.p1 Q n o (k:Int) h:=fun o ho=>by
   subst ho
   refine Y23.i1 ?_
   simp only [Y23.t1, ← Y23.p0.eq_1]
   exact inc (by omega) (ih (k+1) (by omega))
  refine aG (fun e=>?_) fun e=>?_
  ·exact nxt _ (by rw [wM,if_pos (by simp at e; omega)])
  ·exact nxt _ (by rw [wM,if_neg (by simp at e; omega)])
theorem aHR {n:Nat} (hq:Q (iN (Infl.farSym n)) h):C Y23.id [iN n] h Q:=by
 refine Y23.call ?_
 simp only [Y23.t, ← Y23.p0.eq_1]
 exact aFO n (.inl hq) 30 0 (by omega)
end
structure Row where
 c:UInt8
 n:Nat
 d:Nat
def Row.cells (r:Row):List AV:=[byteAV r.c,iN r.n,iN r.d]
def Row.item (r:Row):Infl.Item:=if r.n=0 then .byte r.c else .copy r.n r.d
def kK (l:List Row):List AV:=l.flatMap Row.cells
theorem wO:∀ (l:List Row) (i:Nat) (r:Row),l[i]? = some r→((kK l).drop (i * 3)).take 3=r.cells
 | x :: l,0,r,h=>by cases h; rfl
 | x :: l, i + 1, r, h => by
  have h:l[i]? = some r:=h
  show ((x.cells++kK l).drop ((i+1) * 3)).take 3=_
  rw [show (i+1) * 3=x.cells.length+i * 3 by show _=3+i * 3; omega,List.drop_append,List.drop_eq_nil_of_le (by omega),Nat.add_sub_cancel_left,List.nil_append]
  exact wO l i r h
def Row.ok (r:Row):Prop:=r.n=0∨3≤r.n∧r.n≤258∧1≤r.d∧r.d≤32768
section
variable [XR] {h:aA} {Q:AV→aA→Prop} {G:Nat→Prop} {w:Nat}
theorem Rd.triple {h:aA} {v:AV} {l:List Row} {k:IntKind} {i:Nat} {r:Row} (R:Rd 3 h v (kK l) l.length) (hr:l[i]? = some r) {K:AV→Prop} (hk:K (.ag r.cells)):aN 3 v (.i k (i:Int)) h fun a=>dA 3 a h K:=by
 have hi:=aM hr
 obtain ⟨p,P,hp⟩:=R.i.at hi
 rw [wO l i r hr] at P
 exact hp k h _ (Upd.refl _ _) (P.loadN hk)
theorem uG {l:List Nat} {m:Nat} (h:∀ x∈l,x≤m) (j:Nat):l.getD j 0≤m:=by
 rw [List.getD_eq_getElem?_getD]
 cases hj:l[j]? with
 | none=>exact Nat.zero_le _
 | some x=>exact h x (List.mem_of_getElem? hj)
theorem aA0 {l:List Nat} (h1:l.length≤320) (h2:∀ x∈l,x≤15) (j:Nat):Huff.codeAt l j<2 ^ 62:=by
 unfold Huff.codeAt
 have e2:=mB h1 (uG h2 j)
 have e3:(l.take j).countP (· == l.getD j 0)≤(l.take j).length:=List.countP_le_length
 have e4:(l.take j).length≤l.length:=by simp; omega
 omega
theorem zA {a bs':List Nat} {va ca:AV} {s:Nat} (ha:a.length≤320) (ha15:∀ x∈a,x≤15) (hs:s<a.length) (h0:0<a.getD s 0) (gca:∀ i,aQ ca i→¬ G i) (hG:∀ i,h.length≤i→G i) (Ra:RdI 1 h va (bB a) a.length) (Rc:RdI 1 h ca (bB (gT a)) (gT a).length) (W:Wr h G w bs') (hb:bs'.length+64<2 ^ 40 - 1)
  (hq:∀ h',Upd G h h'→Wr h' G w (bs'++Huff.codeBits a s)→Q (.tu []) h'):C Y33.id [wp w,ca,va,iN s] h Q:=by
 have h3:a[s]? = some (a.getD s 0):=by rw [List.getD_eq_getElem?_getD,List.getElem?_eq_getElem hs] <;> rfl
 have h4:=uG ha15 s
 exact aH2 (aA5 hs h0) h3 (aA0 ha ha15 s) (by omega) gca (by omega) hG Rc Ra W hq
theorem eO {a:List Nat} (h:∀ x∈a,x≤15) (s:Nat):(Huff.codeBits a s).length≤15:=by
 unfold Huff.codeBits
 rw [Infl.hi_length]
 exact uG h s
theorem aGW {a b:List Nat} (ha:∀ x∈a,x≤15) (hb:∀ x∈b,x≤15) {r:Row} (hr:r.ok):(Infl.encItem a b r.item).length≤64:=by
 unfold Row.item
 by_cases h0:r.n=0
 ·rw [if_pos h0]
  exact Nat.le_trans (eO ha _) (by decide)
 ·rw [if_neg h0]
  obtain ⟨r1,r2,r3,r4⟩:=hr.resolve_left h0
  obtain ⟨s1,s2,_⟩:=Infl.lenSym_ok r.n r1 r2
  obtain ⟨f1,_⟩:=Infl.farSym_ok r3 r4
  have q1:=(m8 _ (by omega) s1).2
  have q2:=(uV _ f1).2.2
  unfold Infl.encItem
  simp only [List.length_append,Infl.lo_length]
  have c1:=eO ha (Infl.lenSym r.n)
  have c2:=eO hb (Infl.farSym r.d)
  omega
theorem Wr.cut {h h':aA} {bs:List Nat} (W:Wr h G w bs) (U:Upd (fun _=>False) h h') {G':Nat→Prop} (hG:∀ i,i<h.length→G i→G' i):Wr h' G' w bs:=by
 obtain ⟨v,R,B,g,gw,hx⟩:=W
 exact ⟨v,R.upd U fun h=>h,B.upd U fun _ _ h=>h,fun i hi=>⟨hG i (B.lt hi) (g i hi).1,(g i hi).2⟩,hG w R.lt gw,hx⟩
theorem Wr.wide {h:aA} {bs:List Nat} {G':Nat→Prop} (W:Wr h G w bs) (hG:∀ i,G i→G' i):Wr h G' w bs:=by
 obtain ⟨v,R,B,g,gw,hx⟩:=W
 exact ⟨v,R,B,fun i hi=>⟨hG i (g i hi).1,(g i hi).2⟩,hG w gw,hx⟩
theorem aCC {a b : List Nat} {va vb ca cb x1 : AV} {l : List Row} {bs : List Nat}
  (ha:a.length≤320) (hb:b.length≤320) (ha2:286≤a.length) (hb2:30≤b.length) (ha0:∀ j,j<286→0<a.getD j 0) (hb0:∀ j,j<30→0<b.getD j 0) (ha15:∀ x∈a,x≤15) (hb15:∀ x∈b,x≤15)
  (hl:∀ r∈l,r.ok) (hlen:bs.length+l.length * 64+64<2 ^ 39)
  (ga:∀ i,aQ va i→¬ G i) (gb:∀ i,aQ vb i→¬ G i) (gca:∀ i,aQ ca i→¬ G i) (gcb:∀ i,aQ cb i→¬ G i) (g1:∀ i,aQ x1 i→¬ G i)
  (hq:∀ h',Upd G h h'→Wr h' G w (bs++(Infl.encItems a b (l.map Row.item)++Huff.codeBits a 256))→Q (.tu []) h') :
  ∀ (m i : Nat) (h1 : aA), i + m = l.length → Upd G h h1 → (∀ i, h1.length ≤ i → G i) → RdI 1 h1 va (bB a) a.length → RdI 1 h1 vb (bB b) b.length → RdI 1 h1 ca (bB (gT a)) (gT a).length → RdI 1 h1 cb (bB (gT b)) (gT b).length → Rd 3 h1 x1 (kK l) l.length →
   Wr h1 G w (bs++Infl.encItems a b ((l.take i).map Row.item))→(bs++Infl.encItems a b ((l.take i).map Row.item)).length≤bs.length+i * 64→Y20.p0 Q (wp w) va vb ca cb x1 l.length i h1:=by
 intro m
 induction m with
 | zero =>
  intro i h1 hi U hG Ra Rb Rca Rcb R1 W hL
  obtain rfl:i=l.length:=by omega
  refine Y20.i0 ?_
  simp only [Y20.t0]
  refine aL (by simp) ?_
  refine zA (s:=256) ha ha15 (by omega) (ha0 256 (by decide)) gca hG Ra Rca W (by omega) fun h2 U2 W2=>hq h2 (U.trans U2 fun _ _ h=>h) ?_
  rw [List.take_length,List.append_assoc] at W2
  exact W2
 | succ m ih =>
  intro i h1 hi U hG Ra Rb Rca Rcb R1 W hL
  have hil:i<l.length:=by omega
  obtain ⟨r,hr⟩:∃ r,l[i]? = some r:=⟨l[i],List.getElem?_eq_getElem hil⟩
  have hok:=hl r (List.mem_of_getElem? hr)
  have hsn:Infl.encItems a b ((l.take (i+1)).map Row.item)=Infl.encItems a b ((l.take i).map Row.item)++Infl.encItem a b r.item:=by
   rw [aCR hr,List.map_append]
   unfold Infl.encItems
   rw [List.flatMap_append]
   simp
  have hel:=aGW ha15 hb15 hok
  generalize hB:bs++Infl.encItems a b ((l.take i).map Row.item)=B at W hL
  have hL2:B.length+128<2 ^ 39+64:=by omega
  let G':Nat→Prop:=fun i=>G i∧i≠h1.length
  have nxt:∀ h',Upd (fun i=>G i) h1 h'→Wr h' G w (B++Infl.encItem a b r.item)→Y20.p1 Q (wp w) va vb ca cb x1 l.length i h':=fun h' U' W'=>by
   refine Y20.i1 ?_
   simp only [Y20.t1, ← Y20.p0.eq_1]
   have hE:bs++Infl.encItems a b ((l.take (i+1)).map Row.item)=B++Infl.encItem a b r.item:=by rw [hsn, ← List.append_assoc,hB]
   refine inc (by omega) (ih (i+1) h' (by omega) (U.trans U' fun _ _ h=>h) (fun j hj=>hG j (Nat.le_trans U'.1 hj)) (Ra.upd U' ga) (Rb.upd U' gb) (Rca.upd U' gca) (Rcb.upd U' gcb) (R1.upd U' g1) ?_ ?_)
   ·rw [hE]; exact W'
   ·rw [hE,List.length_append]; omega
  refine Y20.i0 ?_
  simp only [Y20.t0, ← Y20.p1.eq_1]
  refine aW (by simp; omega) ?_
  refine Rd.triple R1 hr ?_
  refine cF fun h2 l2 U2 R2=>?_
  refine iL R2 rfl rfl rfl fun h3 l3 U3 R3=>?_
  have R3:bC h3 h1.length r.cells:=R3
  have U13:Upd (fun _=>False) h1 h3:=U2.own U3 (Nat.le_refl _)
  have hG3:∀ i,h3.length≤i→G' i:=fun j hj=>⟨hG j (by omega),by omega⟩
  have W3:Wr h3 G' w B:=W.cut U13 fun j hj g=>⟨g,by omega⟩
  have gca':∀ i,aQ ca i→¬ G' i:=fun i hi g=>gca i hi g.1
  have gcb':∀ i,aQ cb i→¬ G' i:=fun i hi g=>gcb i hi g.1
  have ga':∀ i,aQ va i→¬ G' i:=fun i hi g=>ga i hi g.1
  have gb':∀ i,aQ vb i→¬ G' i:=fun i hi g=>gb i hi g.1
  have fin:∀ h',Upd G' h3 h'→Wr h' G' w (B++Infl.encItem a b r.item)→Y20.p1 Q (wp w) va vb ca cb x1 l.length i h':=fun h' U' W'=>
   nxt h' ((U13.mono fun _ _ h=>h.elim).trans (U'.mono fun _ _ h=>h.1) fun _ _ h=>h) (W'.wide fun _ h=>h.1)
  refine dE (aE R3 rfl rfl (aC ?_))
  by_cases h0:r.n=0
  ·refine aW (by simp [h0]) ?_
   refine dE (aE R3 rfl rfl (lL ?_))
   have hc:=r.c.toNat_lt
   rw [show AV.i .i64 (IntKind.wrap .i64 (r.c.toNat:Int))=iN r.c.toNat by rw [bA (by omega) (by omega)]]
   refine zA (s:=r.c.toNat) ha ha15 (by omega) (ha0 _ (by omega)) gca' hG3 (Ra.ext U13) (Rca.ext U13) W3 (by omega) fun h4 U4 W4=>fin h4 U4 ?_
   have:Infl.encItem a b r.item=Huff.codeBits a r.c.toNat:=by unfold Row.item; rw [if_pos h0] <;> rfl
   rw [this]; exact W4
  ·refine aL (by simp [h0]) ?_
   obtain ⟨r1,r2,r3,r4⟩:=hok.resolve_left h0
   obtain ⟨s1,s2,s3,s4⟩:=Infl.lenSym_ok r.n r1 r2
   obtain ⟨f1,f2,f3⟩:=Infl.farSym_ok r3 r4
   have q1:=(m8 _ (by omega) s1).2
   have q2:=(uV _ f1).2.2
   have c1:=eO ha15 (Infl.lenSym r.n)
   have c2:=eO hb15 (Infl.farSym r.d)
   have hE:Infl.encItem a b r.item=Huff.codeBits a (Infl.lenSym r.n)++(Huff.loBits (r.n - (Infl.least (Infl.lenSym r.n)).1) (Infl.least (Infl.lenSym r.n)).2++(Huff.codeBits b (Infl.farSym r.d)++Huff.loBits (r.d - (Infl.farOf (Infl.farSym r.d)).1) (Infl.farOf (Infl.farSym r.d)).2)):=by
    unfold Row.item; rw [if_neg h0] <;> rfl
   rw [hE] at fin
   refine dE (aE R3 rfl rfl (aC ?_))
   refine aHZ (aC (qE s1 s2 ?_))
   simp only [cW,cX]
   refine aC (aC ?_)
   refine zA (s:=Infl.lenSym r.n) ha ha15 (by omega) (ha0 _ (by omega)) gca' hG3 (Ra.ext U13) (Rca.ext U13) W3 (by omega) fun h4 U4 W4=>?_
   have R4:=R3.upd U4 fun g=>g.2 rfl
   have hG4:∀ i,h4.length≤i→G' i:=fun j hj=>hG3 j (Nat.le_trans U4.1 hj)
   refine dE (aE R4 rfl rfl (aC ?_))
   refine aX (n:=((r.n - (Infl.least (Infl.lenSym r.n)).1:Nat):Int)) (by rw [bA (by omega) (by omega)]; omega) ?_
   refine kS (by omega) (by omega) (by rw [List.length_append]; omega) hG4 W4 fun h5 U5 W5=>?_
   have R5:=R4.upd U5 fun g=>g.2 rfl
   have hG5:∀ i,h5.length≤i→G' i:=fun j hj=>hG4 j (Nat.le_trans U5.1 hj)
   have U35:=U4.trans U5 fun _ _ h=>h
   refine dE (aE R5 rfl rfl (aC ?_))
   refine aHR (aC (lN (by omega) ?_))
   simp only [cW,cX]
   refine aC (aC ?_)
   refine zA (s:=Infl.farSym r.d) hb hb15 (by omega) (hb0 _ f1) gcb' hG5 ((Rb.ext U13).upd U35 gb') ((Rcb.ext U13).upd U35 gcb') W5 (by simp only [List.length_append,Infl.lo_length]; omega) fun h6 U6 W6=>?_
   have R6:=R5.upd U6 fun g=>g.2 rfl
   have hG6:∀ i,h6.length≤i→G' i:=fun j hj=>hG5 j (Nat.le_trans U6.1 hj)
   refine dE (aE R6 rfl rfl (aC ?_))
   refine aX (n:=((r.d - (Infl.farOf (Infl.farSym r.d)).1:Nat):Int)) (by rw [bA (by omega) (by omega)]; omega) ?_
   refine kS (by omega) (by omega) (by simp only [List.length_append,Infl.lo_length]; omega) hG6 W6 fun h7 U7 W7=>?_
   refine fin h7 ((U35.trans U6 fun _ _ h=>h).trans U7 fun _ _ h=>h) ?_
   simp only [List.append_assoc] at W7
   exact W7
theorem RdI.ltp {sz:Nat} {h:aA} {v:AV} {cs:List AV} {len:Nat} (R:RdI sz h v cs len) (hl:0<len) {i:Nat} (hi:aQ v i):i<h.length:=by
 rcases R with ⟨rfl,rfl,rfl⟩ | ⟨rfl,_⟩ | ⟨id,ver,off,cap,b,rfl,h2,_⟩
 ·omega
 ·omega
 ·cases hi; exact aM h2
theorem aC4 {a b:List Nat} {va vb x1:AV} {l:List Row} {bs:List Nat}
  (ha:a.length≤320) (hb:b.length≤320) (ha2:286≤a.length) (hb2:30≤b.length) (ha0:∀ j,j<286→0<a.getD j 0) (hb0:∀ j,j<30→0<b.getD j 0) (ha15:∀ x∈a,x≤15) (hb15:∀ x∈b,x≤15) (hka:Huff.checkP a≠1) (hkb:Huff.checkP b≠1)
  (hl:∀ r∈l,r.ok) (hlen:bs.length+l.length * 64+64<2 ^ 39) (hG:∀ i,h.length≤i→G i)
  (ga:∀ i,aQ va i→¬ G i) (gb:∀ i,aQ vb i→¬ G i) (g1:∀ i,aQ x1 i→¬ G i) (Ra:RdI 1 h va (bB a) a.length) (Rb:RdI 1 h vb (bB b) b.length) (R1:Rd 3 h x1 (kK l) l.length) (W:Wr h G w bs)
  (hq:∀ h',Upd G h h'→Wr h' G w (bs++(Infl.encItems a b (l.map Row.item)++Huff.codeBits a 256))→Q (.tu []) h'):C Y20.id [wp w,x1,va,vb] h Q:=by
 refine Y20.call ?_
 simp only [Y20.t, ← Y20.p0.eq_1]
 refine vT ha ha15 hka Ra fun h1 ca U1 O1=>?_
 refine vT hb hb15 hkb (Rb.ext U1) fun h2 cb U2 O2=>?_
 have U:=U1.then U2
 refine (R1.upd U fun _ _ h=>h).len ?_
 have lt1:∀ i,aQ ca i→h.length≤i∧i<h2.length:=fun i hi=>by
  obtain ⟨id,b,rfl,k1,_,_,_,_,g⟩:=O1
  cases hi
  have:=aM k1
  have:=U2.1
  have g:h.length≤id:=g
  exact ⟨g,by show id<_; omega⟩
 have lt2:∀ i,aQ cb i→h.length≤i∧i<h2.length:=fun i hi=>by
  obtain ⟨id,b,rfl,k1,_,_,_,_,g⟩:=O2
  cases hi
  have k2:=aM k1
  have:=U1.1
  have g:h1.length≤id:=g
  exact ⟨by show _≤id; omega,k2⟩
 let G2:Nat→Prop:=fun i=>(G i∧i<h.length)∨h2.length≤i
 have c2:∀ {x:AV},(∀ i,aQ x i→¬ G i)→(∀ i,aQ x i→i<h.length)→∀ i,aQ x i→¬ G2 i:=fun hx hlt i hi g=>by
  rcases g with g | g
  ·exact hx i hi g.1
  ·have := hlt i hi
   have:=U.1
   omega
 have c3:∀ {x:AV},(∀ i,aQ x i→h.length≤i∧i<h2.length)→∀ i,aQ x i→¬ G2 i:=fun hx i hi g=>by
  have:=hx i hi
  rcases g with g | g <;> omega
 have w2:∀ i,G2 i→G i:=fun i g=>by
  rcases g with g | g
  ·exact g.1
  ·exact hG i (Nat.le_trans U.1 g)
 refine aCC (G:=G2) (h:=h2) ha hb ha2 hb2 ha0 hb0 ha15 hb15 hl hlen (c2 ga fun i hi=>RdI.ltp Ra (by omega) hi) (c2 gb fun i hi=>RdI.ltp Rb (by omega) hi) (c3 lt1) (c3 lt2) (c2 g1 fun i hi=>R1.lt hi) (fun h' U' W'=>.inl (hq h' ((U.mono fun _ _ h=>h.elim).trans (U'.mono fun i _ g=>w2 i g) fun _ _ h=>h) (W'.wide w2)))
  l.length 0 h2 (by omega) (Upd.refl _ _) (fun i hi=>.inr hi) (Ra.ext U) (Rb.ext U) (O1.rd.i.ext U2) O2.rd.i (R1.upd U fun _ _ h=>h) ?_ ?_
 ·have := W.cut U (G' := G2) fun i hi g => .inl ⟨g, hi⟩
  simpa [Infl.encItems] using this
 ·simp [Infl.encItems]
end
end Go.Proofs.YtpaphfeihpgamaaDoor
namespace Go.Proofs.YtpaphfeihpgamaaDoor
open Go.GAM
def cC (s:List UInt8) (i:Nat):List UInt8:=(s.take (i+3)).drop i
def occ (s:List UInt8):Nat→List UInt8→List Nat
 | 0,_=>[]
 | i+1,g=>occ s i g++(if i+3≤s.length∧cC s i=g then [i] else [])
theorem y2 (s:List UInt8) (g:List UInt8):∀ i,(occ s i g).length≤i
 | 0=>Nat.le_refl _
 | i + 1 => by
  have:=y2 s g i
  unfold occ
  split <;> simp <;> omega
theorem uL (s : List UInt8) (g : List UInt8) : ∀ i, ∀ x ∈ occ s i g, x < i ∧ x + 3 ≤ s.length ∧ cC s x = g
 | 0,x,h=>by cases h
 | i + 1, x, h => by
  unfold occ at h
  rcases List.mem_append.1 h with h | h
  ·obtain ⟨h1, h2⟩ := uL s g i x h
   exact ⟨by omega,h2⟩
  ·split at h
   ·rename_i hc
    rw [List.mem_singleton.1 h]
    exact ⟨by omega,hc⟩
   ·cases h
abbrev nilS:AV:=.sl none 0 none
def kH (kv:List (List UInt8 × AV)) (g:List UInt8):AV:=(lkM kv g).getD nilS
theorem uP:vV prog 9 (fun l:List UInt8=>AV.s l):=aB9 Tryd.underlying9
structure aBP (h:aA) (F:Nat→Prop) (s:List UInt8) (i mb:Nat) (kv:List (List UInt8 × AV)):Prop where
 map:jW (fun l:List UInt8=>AV.s l) h mb kv
 vals:∀ g,Stk h (kH kv g) (bB (occ s i g))
 own:∀ g j,aQ (kH kv g) j→F j∧j≠mb
 dis:∀ g g' j,aQ (kH kv g) j→aQ (kH kv g') j→g=g'
theorem aBP.upd {h h':aA} {F N:Nat→Prop} {s:List UInt8} {i mb:Nat} {kv:List (List UInt8 × AV)} (S:aBP h F s i mb kv) (U:Upd N h h') (hN:∀ j,F j∨j=mb→¬ N j):aBP h' F s i mb kv:=
 ⟨S.map.upd U (hN mb (.inr rfl)),fun g=>(S.vals g).upd U fun j hj=>hN j (.inl (S.own g j hj).1),S.own,S.dis⟩
section
variable [XR] {h:aA} {Q:AV→aA→Prop} {F:Nat→Prop} {s:List UInt8} {i sb bm mb:Nat} {kv:List (List UInt8 × AV)}
theorem aHF (hs : s.length < 2 ^ 40) (hi : i < s.length) (Rs : bC h sb [.s s]) (Rm : bC h bm [.mp (some mb)]) (S : aBP h F s i mb kv) (hF : ∀ j, h.length ≤ j → F j) (ns : ¬ F sb) (nm : ¬ F bm) (nsm : sb ≠ mb) (nbm : bm ≠ mb)
  (hq:∀ h' kv',Upd (fun j=>F j∨j=mb) h h'→aBP h' F s (i+1) mb kv'→Q (.tu []) h'):C Y45.id [iN i,.p (some ⟨sb,1,0⟩),.p (some ⟨bm,1,0⟩)] h Q:=by
 refine Y45.call ?_
 unfold Y45.t
 refine aX (n:=((i+3:Nat):Int)) (by rw [bA (by omega) (by omega)]; omega) ?_
 refine aE Rs rfl rfl (bR ?_)
 refine aG (fun e=>?_) fun e=>?_
 ·have e : i + 3 ≤ s.length := by have := of_decide_eq_true e; omega
  refine aE Rm rfl rfl ?_
  refine aE Rs rfl rfl (bR ?_)
  refine aX (n:=((i+3:Nat):Int)) (by rw [bA (by omega) (by omega)]; omega) ?_
  refine qK (lo:=i) (hi:=i+3) (by omega) e ?_
  refine aE Rm rfl rfl ?_
  refine aE Rs rfl rfl (bR ?_)
  refine aX (n:=((i+3:Nat):Int)) (by rw [bA (by omega) (by omega)]; omega) ?_
  refine qK (lo:=i) (hi:=i+3) (by omega) e ?_
  refine nK (κ:=fun l:List UInt8=>AV.s l) S.map uP (by kernel_rfl) (z:=nilS) (by kernel_rfl) ?_
  refine dZ (cs:=[iN i]) rfl rfl fun y h1 l1 U1 R1 F1=>?_
  have S1:=S.upd U1 fun _ _ h=>h
  have Rs1:=Rs.upd U1 fun h=>h
  have Rm1:=Rm.upd U1 fun h=>h
  refine nK (κ:=fun l:List UInt8=>AV.s l) S1.map uP (by kernel_rfl) (z:=nilS) (by kernel_rfl) ?_
  refine ⟨rfl, ?_⟩
  refine aE Rs1 rfl rfl (bR ⟨rfl, ?_⟩)
  refine aE Rm1 rfl rfl ⟨rfl, ?_⟩
  refine aE Rs1 rfl rfl (bR ⟨rfl, ?_⟩)
  refine aE Rm1 rfl rfl ⟨rfl, ?_⟩
  have ol:=y2 s (cC s i) i
  refine (S1.vals (cC s i)).app1 R1 rfl (by rw [aY]; omega) (by rw [aY]; omega) fun v' h2 U2 S2 g2=>?_
  have nF:∀ {x:Nat}, ¬ F x→¬ aQ (kH kv (cC s i)) x:=fun hx h=>hx (S.own _ _ h).1
  have Rs2:=Rs1.upd U2 (nF ns)
  have Rm2:=Rm1.upd U2 (nF nm)
  refine aE Rs2 rfl rfl (bR ⟨rfl, ?_⟩)
  refine aE Rm2 rfl rfl ⟨rfl, ?_⟩
  have M2:=S1.map.upd U2 fun h=>(S.own _ _ h).2 rfl
  refine aAY (κ:=fun l:List UInt8=>AV.s l) M2 uP (by kernel_rfl) rfl fun h3 l3 U3 M3=>?_
  have lo:∀ j,aQ v' j→F j∧j≠mb:=fun j hj=>by
   rcases g2 j hj with h | h
   ·exact S.own _ _ h
   ·have := S.map.lt
    exact ⟨hF j (by omega),by omega⟩
  have vup:∀ g,kH (upM kv (cC s i) v') g=if g=cC s i then v' else kH kv g:=fun g=>by
   unfold kH
   rw [aET]
   split <;> rfl
  refine .inl (hq h3 (upM kv (cC s i) v') ?_ ⟨M3,fun g=>?_,fun g j hj=>?_,fun g g' j hj hj'=>?_⟩)
  ·refine ((U1.mono fun _ _ h=>h.elim).trans (U2.mono fun j _ h=>Or.inl (S.own _ _ h).1) fun _ _ h=>h).trans (U3.mono fun j _ h=>Or.inr h) fun _ _ h=>h
  ·rw [vup]
   by_cases hg:g=cC s i
   ·rw [if_pos hg]
    have:occ s (i+1) g=occ s i (cC s i)++[i]:=by
     rw [occ,if_pos ⟨e,hg.symm⟩,hg]
    rw [this,fA]
    exact S2.upd U3 fun j hj h=>(lo j hj).2 h
   ·rw [if_neg hg]
    have:occ s (i+1) g=occ s i g:=by
     rw [occ,if_neg (fun h=>hg h.2.symm),List.append_nil]
    rw [this]
    exact ((S1.vals g).upd U2 fun j hj h=>hg (S.dis _ _ j hj h)).upd U3 fun j hj h=>(S.own g j hj).2 h
  ·rw [vup] at hj
   by_cases hg:g=cC s i
   ·rw [if_pos hg] at hj; exact lo j hj
   ·rw [if_neg hg] at hj; exact S.own g j hj
  ·rw [vup] at hj hj'
   have far:∀ g j,g≠cC s i→aQ (kH kv g) j→¬ aQ v' j:=fun g j hg hj hv=>by
    rcases g2 j hv with h | h
    ·exact hg (S.dis _ _ j hj h)
    ·have := Rd.lt (S.vals g).rd hj
     omega
   by_cases hg:g=cC s i <;> by_cases hg':g'=cC s i
   ·rw [hg,hg']
   ·rw [if_pos hg] at hj; rw [if_neg hg'] at hj'; exact absurd hj (far g' j hg' hj')
   ·rw [if_neg hg] at hj; rw [if_pos hg'] at hj'; exact absurd hj' (far g j hg hj)
   ·rw [if_neg hg] at hj; rw [if_neg hg'] at hj'; exact S.dis g g' j hj hj'
 ·have e : ¬ i + 3 ≤ s.length := by have := of_decide_eq_false e; omega
  refine .inl (hq h kv (Upd.refl _ _) ⟨S.map,fun g=>?_,S.own,S.dis⟩)
  rw [occ,if_neg (fun h=>e h.1),List.append_nil]
  exact S.vals g
end
end Go.Proofs.YtpaphfeihpgamaaDoor
namespace Go.Infl
open Go.Huff
def matchP (s:List UInt8) (at':Nat):Nat × Nat:=if (eB s at').1<3 then (0,0) else eB s at'
theorem aAQ {s:List UInt8} {at':Nat} (h:at'≤s.length) (h0:(eB s at').1≠0):(eB s at').1≤258∧at'+(eB s at').1≤s.length∧1≤(eB s at').2∧(eB s at').2≤at'∧(eB s at').2≤32768:=by
 obtain ⟨g1,_,_⟩:=jD s at' (min at' 32768)
 have hm:eB s at'=cH s at' (min at' 32768):=rfl
 rw [hm] at h0 ⊢
 obtain ⟨a,b,e⟩:=g1.resolve_left h0
 obtain ⟨q1,q2,q3⟩:=lcp_ok (cH s at' (min at' 32768)).2 h
 rw [← e] at q1 q2 q3
 exact ⟨q1,q2,a,by omega,by omega⟩
theorem matchP_ok {s:List UInt8} {at':Nat} (h:at'≤s.length):(matchP s at')=(0,0)∨3≤(matchP s at').1∧(matchP s at').1≤258∧at'+(matchP s at').1≤s.length∧1≤(matchP s at').2∧(matchP s at').2≤32768:=by
 unfold matchP
 split
 ·exact .inl rfl
 ·rename_i h3
  obtain ⟨q1,q2,q3,q4,q5⟩:=aAQ h (by omega)
  exact .inr ⟨by omega,q1,q2,q3,q5⟩
theorem matchP_end {s:List UInt8} {at':Nat} (h:at'≤s.length) (h3:s.length<at'+3):matchP s at'=(0,0):=by
 rcases matchP_ok h with e | e
 ·exact e
 ·omega
theorem itemsR_none {s:List UInt8}:∀ (f at':Nat),s.length≤at'→itemsR s f at'=[]
 | 0,at',h=>rfl
 | f + 1, at', h => by
  unfold itemsR
  rw [List.getElem?_eq_none h]
theorem itemsR_step {s:List UInt8} {f at':Nat} {c:UInt8} (hc:s[at']? = some c):itemsR s (f+1) at'=(if (matchP s at').1=0 then Item.byte c else Item.copy (matchP s at').1 (matchP s at').2) :: itemsR s f (at'+max (matchP s at').1 1):=by
 have hlt:at'<s.length:=(List.getElem?_eq_some_iff.1 hc).1
 rw [itemsR,hc]
 unfold matchP
 simp only []
 by_cases h3:(eB s at').1<3
 ·rw [if_pos h3, if_pos h3]
  first | done | rfl
 ·rw [if_neg h3,if_neg h3,if_neg (by omega),Nat.max_eq_left (by omega)]
end Go.Infl
namespace Go.Proofs.YtpaphfeihpgamaaDoor
open Go.GAM
def qV (s:List UInt8) (i:Nat) (c:UInt8):Row:=⟨c,(Infl.matchP s i).1,(Infl.matchP s i).2⟩
theorem aBT {s:List UInt8} {f i:Nat} {c:UInt8} (hc:s[i]? = some c):Infl.itemsR s (f+1) i=(qV s i c).item :: Infl.itemsR s f (i+max (qV s i c).n 1):=Infl.itemsR_step hc
theorem aFK {s:List UInt8} {i:Nat} {c:UInt8} (h:i<s.length):(qV s i c).ok∧i+max (qV s i c).n 1≤s.length:=by
 rcases Infl.matchP_ok (s:=s) (at':=i) (by omega) with e | ⟨e1,e2,e3,e4,e5⟩
 ·unfold qV Row.ok
  rw [e]
  exact ⟨.inl rfl,by simp only; omega⟩
 ·exact ⟨.inr ⟨e1,e2,e4,e5⟩,by show i+max (Infl.matchP s i).1 1≤_; omega⟩
def pP [XR] (s:List UInt8):Prop:=∀ (h:aA) (Q:AV→aA→Prop) (i:Nat) (v:AV),i+3≤s.length→Stk h v (bB (occ s i (cC s i)))→Q (.tu [iN (Infl.matchP s i).1,iN (Infl.matchP s i).2]) h→C Y47.id [.s s,iN i,v] h Q
section
variable [XR] {Q:AV→aA→Prop} {s:List UInt8} {sb bm mb:Nat} {h0:aA}
def It (h0 : aA) (sb bm mb : Nat) (s : List UInt8) (h : aA) (i : Nat) (kv : List (List UInt8 × AV)) (x3 : AV) (l : List Row) : Prop :=
 Upd (fun _=>False) h0 h∧bC h sb [.s s]∧bC h bm [.mp (some mb)]∧Arr 3 h x3 (kK l) l.length∧(∀ j,aQ x3 j→h0.length≤j∧j≠sb∧j≠bm∧j≠mb) ∧
  aBP h (fun j=>(h0.length≤j∧j≠sb∧j≠bm)∧¬ aQ x3 j) s i mb kv
theorem It.ext {h h':aA} {i:Nat} {kv:List (List UInt8 × AV)} {x3:AV} {l:List Row} (I:It h0 sb bm mb s h i kv x3 l) (U:Upd (fun _=>False) h h'):It h0 sb bm mb s h' i kv x3 l:=by
 obtain ⟨a,b,c,d,e,f⟩:=I
 exact ⟨a.then U,b.upd U fun h=>h,c.upd U fun h=>h,d.upd U fun _ _ h=>h,e,f.upd U fun _ _ h=>h⟩
theorem It.own {h h':aA} {i x:Nat} {kv:List (List UInt8 × AV)} {x3:AV} {l:List Row} (I:It h0 sb bm mb s h i kv x3 l) (U:Upd (· = x) h h') (hx:h0.length≤x) (n1:x≠sb) (n2:x≠bm) (n3:x≠mb) (n4:¬ aQ x3 x) (n5:∀ g, ¬ aQ (kH kv g) x):It h0 sb bm mb s h' i kv x3 l:=by
 obtain ⟨a,b,c,d,e,f⟩:=I
 exact ⟨a.own U hx,b.upd U fun h=>n1 h.symm,c.upd U fun h=>n2 h.symm,d.upd U fun j hj h=>n4 (h ▸ hj),e,
  ⟨f.map.upd U fun h=>n3 h.symm,fun g=>(f.vals g).upd U fun j hj h=>n5 g (h ▸ hj),f.own,f.dis⟩⟩
theorem aDK (hs : s.length < 2 ^ 40) (ns : sb ≠ bm) (nsm : sb ≠ mb) (nbm : bm ≠ mb) (hsb : h0.length ≤ sb) (hbm : h0.length ≤ bm) (hmb : h0.length ≤ mb) {x3 : AV} {l : List Row} {N : Nat} :
  ∀ (m k i : Nat) (h : aA) (kv : List (List UInt8 × AV)), k + m = N → i + m ≤ s.length → N ≤ 258 → It h0 sb bm mb s h i kv x3 l →
   (∀ h' kv',It h0 sb bm mb s h' (i+m) kv' x3 l→Y15.p0 Q (.p (some ⟨sb,1,0⟩)) x3 (.p (some ⟨bm,1,0⟩)) (Fn Y45.id [.p (some ⟨sb,1,0⟩),.p (some ⟨bm,1,0⟩)]) ((i+m:Nat):Int) h') →
   Y15.p2 Q (.p (some ⟨sb,1,0⟩)) x3 (.p (some ⟨bm,1,0⟩)) (Fn Y45.id [.p (some ⟨sb,1,0⟩),.p (some ⟨bm,1,0⟩)]) i N k h:=by
 intro m
 induction m with
 | zero =>
  intro k i h kv hk hi hN I hq
  refine Y15.i2 ?_
  simp only [Y15.t2, ← Y15.p0.eq_1]
  exact aL (by simp; omega) (hq h kv I)
 | succ m ih =>
  intro k i h kv hk hi hN I hq
  refine Y15.i2 ?_
  simp only [Y15.t2, ← Y15.p2.eq_1]
  refine aW (by simp; omega) ?_
  obtain ⟨a,b,c,d,e,f⟩:=I
  refine cY (by decide) (aHF hs (by omega) b c f (fun j hj=>⟨⟨by have:=a.1; omega, ?_, ?_⟩,fun hj2=>?_⟩) (fun h=>h.1.2.1 rfl) (fun h=>h.1.2.2 rfl) nsm nbm fun h' kv' U' S'=>?_)
  ·have:=b.lt; omega
  ·have:=c.lt; omega
  ·have:=d.rd.lt hj2; omega
  refine aX (n:=((i+1:Nat):Int)) (by rw [bA (by omega) (by omega)]; omega) ?_
  refine aX (n:=((k+1:Nat):Int)) (by rw [bA (by omega) (by omega)]; omega) ?_
  refine ih (k+1) (i+1) h' kv' (by omega) (by omega) hN ⟨?_, ?_, ?_, ?_,e,S'⟩ fun h2 kv2 I2=>?_
  ·exact a.ownP U' fun j hj=>by
    rcases hj with hj | hj
    ·exact hj.1.1
    ·rw [hj]; exact hmb
  ·exact b.upd U' fun h=>by
    rcases h with h | h
    ·exact h.1.2.1 rfl
    ·exact nsm h
  ·exact c.upd U' fun h=>by
    rcases h with h | h
    ·exact h.1.2.2 rfl
    ·exact nbm h
  ·exact d.upd U' fun j hj h=>by
    rcases h with h | h
    ·exact h.2 hj
    ·exact (e j hj).2.2.2 h
  ·have := hq h2 kv2 (by rw [show i + (m + 1) = i + 1 + m by omega]; exact I2)
   rw [show i+(m+1)=i+1+m by omega] at this
   exact this
theorem aEK (hs:s.length<2 ^ 40) (ns:sb≠bm) (nsm:sb≠mb) (nbm:bm≠mb) (hsb:h0.length≤sb) (hbm:h0.length≤bm) (hmb:h0.length≤mb) {x3:AV} {l:List Row} {r:Row} {i x:Nat} {h:aA} {kv:List (List UInt8 × AV)} (hll:l.length≤i)
  (hi:i+max r.n 1≤s.length) (hN:r.n≤258) (I:It h0 sb bm mb s h i kv x3 l) (Rx:bC h x r.cells) (nx:¬ aQ x3 x)
  (hq:∀ h' kv' x',It h0 sb bm mb s h' (i+max r.n 1) kv' x' (l++[r])→Y15.p0 Q (.p (some ⟨sb,1,0⟩)) x' (.p (some ⟨bm,1,0⟩)) (Fn Y45.id [.p (some ⟨sb,1,0⟩),.p (some ⟨bm,1,0⟩)]) ((i+max r.n 1:Nat):Int) h') :
  Y15.p1 Q (.p (some ⟨sb,1,0⟩)) x3 (.p (some ⟨bm,1,0⟩)) (Fn Y45.id [.p (some ⟨sb,1,0⟩),.p (some ⟨bm,1,0⟩)]) i (.p (some ⟨x,3,0⟩)) h:=by
 refine Y15.i1 ?_
 simp only [Y15.t1, ← Y15.p2.eq_1]
 refine fC Rx rfl ?_
 obtain ⟨a,b,c,d,e,f⟩:=I
 refine d.push (x:=.ag r.cells) (by decide) rfl rfl rfl (by omega) (by omega) fun v' h' U' A' g'=>?_
 have Rx':=Rx.upd U' nx
 refine dE (aE Rx' rfl rfl (aC ?_))
 rw [show (1:Int)=((1:Nat):Int) from rfl,aED]
 have hrow:kK (l++[r])=kK l++r.cells:=by unfold kK; rw [List.flatMap_append]; simp
 refine aDK hs ns nsm nbm hsb hbm hmb (l:=l++[r]) (x3:=v') (max r.n 1) 0 i h' kv (by omega) hi (by omega) ⟨a.ownP U' fun j hj=>(e j hj).1,b.upd U' fun h=>(e _ h).2.1 rfl,c.upd U' fun h=>(e _ h).2.2.1 rfl, ?_, ?_, ?_⟩ fun h2 kv2 I2=>hq h2 kv2 v' I2
 ·rw [hrow, List.length_append]
  exact A'
 ·intro j hj
  rcases g' j hj with h | h
  ·exact e j h
  ·have := b.lt
   have:=c.lt
   have:=f.map.lt
   have:=a.1
   exact ⟨by omega,by omega,by omega,by omega⟩
 ·refine ⟨f.map.upd U' fun h => (e _ h).2.2.2 rfl, fun g => (f.vals g).upd U' fun j hj h => (f.own g j hj).1.2 h, fun g j hj => ⟨⟨(f.own g j hj).1.1, fun h => ?_⟩, (f.own g j hj).2⟩, f.dis⟩
  rcases g' j h with h | h
  ·exact (f.own g j hj).1.2 h
  ·have := (f.vals g).rd.lt hj
   omega
theorem aDA (hm : pP s) (hs : s.length < 2 ^ 40) (ns : sb ≠ bm) (nsm : sb ≠ mb) (nbm : bm ≠ mb) (hsb : h0.length ≤ sb) (hbm : h0.length ≤ bm) (hmb : h0.length ≤ mb)
  (hq:∀ h' x l,Upd (fun _=>False) h0 h'→Rd 3 h' x (kK l) l.length→(∀ j,aQ x j→h0.length≤j)→(∀ r∈l,r.ok)→l.length≤s.length→l.map Row.item=Infl.itemsR s (s.length+1) 0→Q x h') :
  ∀ (f i : Nat) (h : aA) (kv : List (List UInt8 × AV)) (x3 : AV) (l : List Row), i ≤ s.length → s.length < i + f → l.length ≤ i → (∀ r ∈ l, r.ok) → It h0 sb bm mb s h i kv x3 l → l.map Row.item ++ Infl.itemsR s f i = Infl.itemsR s (s.length + 1) 0 →
   Y15.p0 (aH h0 Q) (.p (some ⟨sb,1,0⟩)) x3 (.p (some ⟨bm,1,0⟩)) (Fn Y45.id [.p (some ⟨sb,1,0⟩),.p (some ⟨bm,1,0⟩)]) i h:=by
 intro f
 induction f with
 | zero=>intro i h kv x3 l h1 h2; omega
 | succ f ih =>
  intro i h kv x3 l h1 h2 hll hok I hfin
  have I':=I
  obtain ⟨a,b,c,d,e,sn⟩:=I'
  refine Y15.i0 ?_
  simp only [Y15.t0, ← Y15.p1.eq_1]
  refine aE b rfl rfl (bR ?_)
  refine aG (fun hc=>?_) fun hc=>?_
  ·have hc : i < s.length := by have := of_decide_eq_true hc; omega
   obtain ⟨ch,hch⟩:∃ ch,s[i]? = some ch:=⟨s[i],List.getElem?_eq_getElem hc⟩
   obtain ⟨rok,rle⟩:=aFK (c:=ch) hc
   have rn:(qV s i ch).n≤258:=by rcases rok with h | h <;> omega
   refine aE b rfl rfl (bR (rL hch ?_))
   refine cF fun h2' l2 U2 R2=>?_
   refine iL R2 rfl rfl rfl fun h3 l3 U3 R3=>?_
   have R3:bC h3 h.length [byteAV ch,iN 0,iN 0]:=R3
   have U23:Upd (fun _=>False) h h3:=U2.own U3 (Nat.le_refl _)
   have I3:=I.ext U23
   have nx:¬ aQ x3 h.length:=fun hj=>by have:=d.rd.lt hj; omega
   have nv:∀ g, ¬ aQ (kH kv g) h.length:=fun g hj=>by have:=(sn.vals g).rd.lt hj; omega
   have bl:=b.lt
   have cl:=c.lt
   have ml:=sn.map.lt
   have al:=a.1
   have fin:∀ h4,It h0 sb bm mb s h4 i kv x3 l→bC h4 h.length (qV s i ch).cells→Y15.p1 (aH h0 Q) (.p (some ⟨sb,1,0⟩)) x3 (.p (some ⟨bm,1,0⟩)) (Fn Y45.id [.p (some ⟨sb,1,0⟩),.p (some ⟨bm,1,0⟩)]) i (.p (some ⟨h.length,3,0⟩)) h4:=fun h4 I4 R4=>by
    refine aEK hs ns nsm nbm hsb hbm hmb hll rle rn I4 R4 nx fun h5 kv5 x5 I5=>?_
    refine ih (i+max (qV s i ch).n 1) h5 kv5 x5 (l++[qV s i ch]) rle (by omega) (by rw [List.length_append,List.length_singleton]; omega) ?_ I5 ?_
    ·intro r hr
     rcases List.mem_append.1 hr with h | h
     ·exact hok r h
     ·rw [List.mem_singleton.1 h]; exact rok
    ·rw [← hfin, aBT hch, List.map_append, List.append_assoc]
     first | done | rfl
   refine aX (n:=((i+3:Nat):Int)) (by rw [bA (by omega) (by omega)]; omega) ?_
   refine aE (b.upd U23 fun h=>h) rfl rfl (bR ?_)
   refine aG (fun e3=>?_) fun e3=>?_
   ·have e3 : i + 3 ≤ s.length := by have := of_decide_eq_true e3; omega
    refine aE (b.upd U23 fun h=>h) rfl rfl (bR ?_)
    refine aE (c.upd U23 fun h=>h) rfl rfl ?_
    refine aE (b.upd U23 fun h=>h) rfl rfl (bR ?_)
    refine aX (n:=((i+3:Nat):Int)) (by rw [bA (by omega) (by omega)]; omega) ?_
    refine qK (lo:=i) (hi:=i+3) (by omega) e3 ?_
    refine nK (κ:=fun l:List UInt8=>AV.s l) I3.2.2.2.2.2.map uP (by kernel_rfl) (z:=nilS) (by kernel_rfl) ?_
    refine hm h3 _ i _ e3 (I3.2.2.2.2.2.vals (cC s i)) ?_
    simp only [cW,cX]
    refine aC (aC ?_)
    refine dE (aP R3 rfl (by show 1<3; decide) (hk:=fun h4 l4 U4 R4=>?_))
    refine dE (aP R4 rfl (by show 2<3; decide) (hk:=fun h5 l5 U5 R5=>?_))
    have I4:=I3.own U4 al (by omega) (by omega) (by omega) nx nv
    have I5:=I4.own U5 al (by omega) (by omega) (by omega) nx nv
    exact fin h5 I5 R5
   ·have e3 : s.length < i + 3 := by have := of_decide_eq_false e3; omega
    refine fin h3 I3 ?_
    have:qV s i ch=⟨ch,0,0⟩:=by unfold qV; rw [Infl.matchP_end h1 e3]
    rw [this]
    exact R3
  ·have hc : s.length ≤ i := by have := of_decide_eq_false hc; omega
   refine .inl (hq h x3 l a d.rd (fun j hj=>(e j hj).1) hok (by omega) ?_)
   rw [Infl.itemsR_none _ _ hc,List.append_nil] at hfin
   exact hfin
theorem aD1 {h:aA} (hm:pP s) (hs:s.length<2 ^ 40)
  (hq:∀ h' x l,Upd (fun _=>False) h h'→Rd 3 h' x (kK l) l.length→(∀ j,aQ x j→h.length≤j)→(∀ r∈l,r.ok)→l.length≤s.length→l.map Row.item=Infl.itemsR s (s.length+1) 0→Q x h'):C Y15.id [.s s] h Q:=by
 refine Y15.call ?_
 simp only [Y15.t, ← Y15.p0.eq_1]
 refine bQ (hk:=fun h1 l1 U1 R1=>?_)
 refine xO (fun l:List UInt8=>AV.s l) fun h2 l2 U2 M2=>?_
 refine cF fun h3 l3 U3 R3=>?_
 refine aP R3 rfl (by decide) (hk:=fun h4 l4 U4 R4=>?_)
 have U13:=(U1.then U2).then U3
 refine aDA (h0:=h) (sb:=h.length) (bm:=h2.length) (mb:=h1.length) hm hs (by omega) (by omega) (by omega) (Nat.le_refl _) (by omega) (by omega) hq (s.length+1) 0 h4 [] _ [] (Nat.zero_le _) (by omega) (Nat.le_refl _) (fun r hr=>by cases hr) ⟨?_, ?_, ?_, ?_,fun j hj=>hj.elim, ?_⟩ rfl
 ·exact U13.own U4 (by omega)
 ·exact ((R1.upd U2 fun h=>h).upd U3 fun h=>h).upd U4 fun h=>by omega
 ·exact R4
 ·exact .inl ⟨rfl,rfl,rfl⟩
 ·exact ⟨(M2.upd U3 fun h=>h).upd U4 fun h=>by omega,fun g=>.inl ⟨rfl,rfl⟩,fun g j hj=>hj.elim,fun g g' j hj=>hj.elim⟩
end
end Go.Proofs.YtpaphfeihpgamaaDoor
namespace Go.Proofs.YtpaphfeihpgamaaDoor
open Go.GAM
theorem eR.str {E:TypeId} {h:aA} {v:AV} {l:List UInt8} (B:eR E h v l) {K:List UInt8→Prop} (hk:K l):cJ v h K:=by
 refine Byt.str (l:=l) ?_ hk
 rcases B with ⟨rfl,rfl⟩ | ⟨id,b,rfl,h1,h2,h3,h4,h5⟩
 ·exact .inl ⟨rfl,rfl,rfl⟩
 ·have e : b.cells.length = l.length := by rw [h2]; simp
  refine .inr ⟨id,_,0,none,b,rfl,h1,.inl h3,h4,by show l.length≤_; omega,by omega, ?_⟩
  rw [List.drop_zero,Nat.mul_one, ← e,List.take_length,h2]
section
variable [XR] {Q:AV→aA→Prop} {s:List UInt8} {h:aA}
theorem xD (hm:pP s) (hs:s.length<2 ^ 32) (hq:Q (.s (Infl.fixedText s)) h):C Y59.id [.s s] h Q:=by
 refine Y59.call ?_
 unfold Y59.t
 refine bQ (hk:=fun h1 l1 U1 R1=>?_)
 have R1:bC h1 h.length [nilS,iN 0]:=R1
 let G:Nat→Prop:=fun i=>h.length≤i
 have W1:Wr h1 G h.length []:=⟨nilS,R1,.inl ⟨rfl,rfl⟩,fun i hi=>hi.elim,Nat.le_refl _,fun x hx=>by cases hx⟩
 refine kS (x:=3) (n:=3) (by decide) (by decide) (by decide) (fun i hi=>by show h.length≤i; omega) W1 fun h2 U2 W2=>?_
 refine jU fun h3 va vb U3 Ra Rb na nb=>?_
 simp only [cW,cX]
 refine aD1 hm (by omega) fun h4 x l U4 R4 nx hok hll hfin=>?_
 have hl2:=U2.1
 have hl3:=U3.1
 have hl4:=U4.1
 have U24:=U3.then U4
 let G2:Nat→Prop:=fun i=>(G i∧i<h2.length)∨h4.length≤i
 have cut:∀ {x:AV},(∀ i,aQ x i→h2.length≤i∧i<h4.length)→∀ i,aQ x i→¬ G2 i:=fun hx i hi g=>by
  have:=hx i hi
  rcases g with ⟨_,g⟩ | g <;> omega
 have la:∀ i,aQ va i→h2.length≤i∧i<h4.length:=fun i hi=>⟨na i hi,by have:=RdI.ltp Ra (by decide +kernel) hi; omega⟩
 have lb:∀ i,aQ vb i→h2.length≤i∧i<h4.length:=fun i hi=>⟨nb i hi,by have:=RdI.ltp Rb (by decide +kernel) hi; omega⟩
 have lx:∀ i,aQ x i→h2.length≤i∧i<h4.length:=fun i hi=>⟨by have:=nx i hi; omega,R4.lt hi⟩
 have W4:Wr h4 G2 h.length ([]++Huff.loBits 3 3):=W2.cut U24 fun i hi g=>.inl ⟨g,hi⟩
 refine aC4 (a:=Infl.fixedL) (b:=Infl.fixedD) (l:=l) (by decide +kernel) (by decide +kernel) (by decide +kernel) (by decide +kernel) (by decide +kernel) (by decide +kernel) nO oG (by decide +kernel) (by decide +kernel) hok
  (by rw [List.nil_append,Infl.lo_length]; omega) (fun i hi=>.inr hi) (cut la) (cut lb) (cut lx) (Ra.ext U4) (Rb.ext U4) R4 W4 fun h5 U5 W5=>?_
 obtain ⟨v,R5,B5,_,_,_⟩:=W5
 refine gW (dE (aE R5 rfl rfl ?_))
 refine eR.str B5 ?_
 have hbits:([]++Huff.loBits 3 3)++(Infl.encItems Infl.fixedL Infl.fixedD (l.map Row.item)++Huff.codeBits Infl.fixedL 256)=Infl.fixedBits (Infl.itemsR s (s.length+1) 0):=by
  rw [hfin] <;> rfl
 rw [hbits]
 refine iO rfl (Upd.ext ?_) hq
 refine (U1.ownP U2 fun j hj=>hj).then U24 |>.ownP U5 fun j hj=>?_
 rcases hj with hj | hj
 ·exact hj.1
 ·have:=U1.1; omega
end
end Go.Proofs.YtpaphfeihpgamaaDoor
namespace Go.Infl
open Go.Huff
def mostAt (s:List UInt8) (at':Nat):Nat:=min 258 (s.length - at')
def srch (s:List UInt8) (at':Nat):List Nat→Nat × Nat→Nat × Nat
 | [],b=>b
 | f :: r,b=>if 32768<at' - f∨b.1=mostAt s at' then b else srch s at' r (better s at' b (at' - f))
theorem srch_is {s : List UInt8} {at' : Nat} (h : at' ≤ s.length) {cand : Nat → Prop} (hc : ∀ d, 1 ≤ d → d ≤ at' → 3 ≤ lcp s at' d → cand (at' - d)) (hc3 : ∀ f, cand f → f < at' → 3 ≤ lcp s at' (at' - f)) :
  ∀ (r : List Nat) (n d dD : Nat), dD ≤ at' → (∀ f ∈ r, f < dD ∧ cand f) → r.Pairwise (· > ·) → (∀ f, cand f → f < dD → f ∈ r) →
   (n=0∧d=0∨3≤n∧1≤d∧d≤min at' 32768∧n=lcp s at' d∧∀ d',1≤d'→d'<d→lcp s at' d'<n)→(∀ d',1≤d'→d'≤at'→dD≤at' - d'→lcp s at' d'≤max n 2) →
   srch s at' r (n,d)=matchP s at':=by
 have done:∀ (n d:Nat),(n=0∧d=0∨3≤n∧1≤d∧d≤min at' 32768∧n=lcp s at' d∧∀ d',1≤d'→d'<d→lcp s at' d'<n)→(∀ d',1≤d'→d'≤min at' 32768→lcp s at' d'≤max n 2)→(n,d)=matchP s at':=by
  intro n d hb hall
  rcases hb with ⟨rfl,rfl⟩ | ⟨b1,b2,b3,b4,b5⟩
  ·obtain ⟨g1, _, _⟩ := jD s at' (min at' 32768)
   unfold matchP
   rw [if_pos]
   show (cH s at' (min at' 32768)).1<3
   rcases g1 with g1 | ⟨g1,g2,g3⟩
   ·omega
   ·have := hall _ g1 g2
    omega
  ·have e : eB s at' = (n, d) := xX b2 b3 b4 (by omega) (fun d' h1 h2 => by have := hall d' h1 h2; omega) b5
   unfold matchP
   rw [e,if_neg (by simp only; omega)]
 intro r
 induction r with
 | nil =>
  intro n d dD hb hr hp hall hbest hseen
  rw [srch]
  refine done n d hbest fun d' h1 h2=>?_
  by_cases hbd:dD≤at' - d'
  ·exact hseen d' h1 (by omega) hbd
  ·rcases Nat.lt_or_ge (lcp s at' d') 3 with h3 | h3
   ·omega
   ·have := hall (at' - d') (hc d' h1 (by omega) h3) (by omega)
    cases this
 | cons f r ih =>
  intro n d dD hb hr hp hall hbest hseen
  obtain ⟨f1,f2⟩:=hr f (by simp)
  obtain ⟨p1,p2⟩:=List.pairwise_cons.1 hp
  have gap:∀ d',1≤d'→d'≤at'→f<at' - d'→lcp s at' d'≤max n 2:=fun d' h1 h2 h3=>by
   by_cases hbd:dD≤at' - d'
   ·exact hseen d' h1 h2 hbd
   ·rcases Nat.lt_or_ge (lcp s at' d') 3 with h4 | h4
    ·omega
    ·have hm := hall (at' - d') (hc d' h1 h2 h4) (by omega)
     rcases List.mem_cons.1 hm with e | hm
     ·omega
     ·have:=p1 _ hm; omega
  rw [srch]
  split
  ·rename_i hstop
   refine done n d hbest fun d' h1 h2=>?_
   rcases hstop with hs | hs
   ·exact gap d' h1 (by omega) (by omega)
   ·obtain ⟨q1, q2, _⟩ := lcp_ok d' h
    have hs:n=min 258 (s.length - at'):=hs
    omega
  ·rename_i hstop
   have hstop:¬ 32768<at' - f:=fun h=>hstop (.inl h)
   have hf3:=hc3 f f2 (by omega)
   unfold better
   simp only []
   split
   ·rename_i hlt
    refine ih _ _ f (by omega) (fun x hx=>⟨p1 x hx,(hr x (by simp [hx])).2⟩) p2 (fun x hx1 hx2=>?_) (.inr ⟨hf3,by omega,by omega,rfl,fun d' h1 h2=>?_⟩) fun d' h1 h2 h3=>?_
    ·rcases List.mem_cons.1 (hall x hx1 (by omega)) with e | hm
     ·omega
     ·exact hm
    ·have := gap d' h1 (by omega) (by omega)
     omega
    ·by_cases e : at' - d' = f
     ·have : d' = at' - f := by omega
      subst this
      exact Nat.le_max_left _ _
     ·have := gap d' h1 h2 (by omega)
      omega
   ·rename_i hlt
    refine ih _ _ f (by omega) (fun x hx=>⟨p1 x hx,(hr x (by simp [hx])).2⟩) p2 (fun x hx1 hx2=>?_) hbest fun d' h1 h2 h3=>?_
    ·rcases List.mem_cons.1 (hall x hx1 (by omega)) with e | hm
     ·omega
     ·exact hm
    ·by_cases e : at' - d' = f
     ·have : d' = at' - f := by omega
      subst this
      omega
     ·exact gap d' h1 h2 (by omega)
end Go.Infl
namespace Go.Proofs.YtpaphfeihpgamaaDoor
open Go.GAM
theorem zC {s:List UInt8} {a d:Nat}:∀ (f n:Nat),n≤Infl.lcpF s a d f n
 | 0,n=>Nat.le_refl _
 | f + 1, n => by
  unfold Infl.lcpF
  split
  ·exact Nat.le_trans (Nat.le_succ n) (zC f (n+1))
  ·exact Nat.le_refl _
theorem aBA {s:List UInt8} {a d:Nat} (h:a+3≤s.length) (h0:s[a]? = s[a - d]?) (h1:s[a+1]? = s[a+1 - d]?) (h2:s[a+2]? = s[a+2 - d]?):3≤Infl.lcp s a d:=by
 unfold Infl.lcp
 rw [show 258=255+1+1+1 by rfl,Infl.lcpF,if_pos ⟨by omega,h0⟩,Infl.lcpF,if_pos ⟨by omega,h1⟩,Infl.lcpF,if_pos ⟨by omega,h2⟩]
 exact zC _ _
theorem uY {s:List UInt8} {i k:Nat} (hk:k<3):(cC s i)[k]? = s[i+k]?:=by
 unfold cC
 rw [List.getElem?_drop,List.getElem?_take_of_lt (by omega)]
theorem aE3 {s:List UInt8} {a f:Nat} (ha:a+3≤s.length) (hf:f<a):cC s f=cC s a↔3≤Infl.lcp s a (a - f):=by
 constructor
 ·intro e
  have g:∀ k,k<3→s[a+k]? = s[f+k]?:=fun k hk=>by rw [← uY hk, ← uY hk,e]
  refine aBA ha ?_ ?_ ?_
  ·have:=g 0 (by decide); rw [show a - (a - f)=f by omega]; exact this
  ·have:=g 1 (by decide); rw [show a+1 - (a - f)=f+1 by omega]; exact this
  ·have:=g 2 (by decide); rw [show a+2 - (a - f)=f+2 by omega]; exact this
 ·intro h
  obtain ⟨_,_,q⟩:=Infl.lcp_ok (s:=s) (a - f) (show a≤s.length by omega)
  refine List.ext_getElem? fun k=>?_
  by_cases hk:k<3
  ·rw [uY hk, uY hk]
   have:=q k (by omega)
   rw [show a+k - (a - f)=f+k by omega] at this
   exact this.symm
  ·have e1 : (cC s f).length = 3 := by unfold cC; simp; omega
   have e2:(cC s a).length=3:=by unfold cC; simp; omega
   rw [List.getElem?_eq_none (by omega),List.getElem?_eq_none (by omega)]
theorem z8 {s:List UInt8} {g:List UInt8}:∀ (i x:Nat),x<i→x+3≤s.length→cC s x=g→x∈occ s i g
 | 0,x,h,_,_=>by omega
 | i + 1, x, h, h3, hk => by
  unfold occ
  by_cases e:x=i
  ·subst e
   rw [if_pos ⟨h3,hk⟩]; simp
  ·exact List.mem_append_left _ (z8 i x (by omega) h3 hk)
theorem qS (s:List UInt8) (g:List UInt8):∀ i,(occ s i g).Pairwise (· < ·)
 | 0=>List.Pairwise.nil
 | i + 1 => by
  unfold occ
  refine List.pairwise_append.2 ⟨qS s g i, ?_,fun a ha b hb=>?_⟩
  ·split
   ·exact List.pairwise_singleton _ _
   ·exact List.Pairwise.nil
  ·have := (uL s g i a ha).1
   split at hb
   ·rw [List.mem_singleton.1 hb]; exact this
   ·cases hb
theorem aDW {s:List UInt8} {a:Nat} (ha:a+3≤s.length):Infl.srch s a (occ s a (cC s a)).reverse (0,0)=Infl.matchP s a:=by
 refine Infl.srch_is (cand:=fun f=>f<a∧cC s f=cC s a) (by omega) (fun d h1 h2 h3=>⟨by omega,(aE3 ha (by omega)).2 (by rw [show a - (a - d)=d by omega]; exact h3)⟩) (fun f hf hfa=>(aE3 ha hfa).1 hf.2)
  _ 0 0 a (Nat.le_refl _) (fun f hf=>?_) ?_ (fun f hf hfa=>?_) (.inl ⟨rfl,rfl⟩) fun d h1 h2 h3=>?_
 ·have := uL s _ a f (List.mem_reverse.1 hf)
  exact ⟨this.1,this.1,this.2.2⟩
 ·rw [List.pairwise_reverse]
  exact qS s _ a
 ·exact List.mem_reverse.2 (z8 a f hfa (by omega) hf.2)
 ·omega
end Go.Proofs.YtpaphfeihpgamaaDoor
namespace Go.Proofs.YtpaphfeihpgamaaDoor
open Go.GAM
@[reducible] def xr0:XR:=⟨aF0 aFF⟩
abbrev p1 (id:Nat):AV:=.p (some ⟨id,1,0⟩)
theorem mmF (n:Nat):mmI false 258 (n:Int)=((min 258 n:Nat):Int):=by
 unfold mmI
 simp only [cond_false]
 split <;> omega
theorem aIU (a b:UInt8):(decide ((a.toNat:Int)=(b.toNat:Int)))=decide (a=b):=by
 by_cases h:a=b
 ·subst h; simp
 ·have : a.toNat ≠ b.toNat := fun e => h (UInt8.toNat.inj e)
  simp [h,this]
  omega
structure MS (Hb:aA) (g nb fb:Nat) (rec:Loop) (st:LoopState) (pe:Option Code) (h:aA) (b:Nat × Nat):Prop where
 upd:Upd (fun i=>i=nb∨i=fb∨i=g) Hb h
 gh:h[g]? = some (dL rec st pe)
 n:bC h nb [iN b.1]
 far:bC h fb [iN b.2]
section
variable {Hb:aA} {g sb ab nb fb mb:Nat} {rec:Loop} {s:List UInt8} {a:Nat}
theorem MS.set {st st':LoopState} {pe pe':Option Code} {h:aA} {b:Nat × Nat} (M:MS Hb g nb fb rec st pe h b) (h1:nb≠g) (h2:fb≠g):MS Hb g nb fb rec st' pe' (h.set g (dL rec st' pe')) b:=
 ⟨M.upd.trans (Upd.set _ _ _) fun i _ e=>.inr (.inr e),List.getElem?_set_self (aM M.gh),M.n.upd (Upd.set _ _ _) h1,M.far.upd (Upd.set _ _ _) h2⟩
variable [XR] {X:Exit→aA→Prop}
theorem aIJ (hs : s.length < 2 ^ 40) (ha : a ≤ s.length) (Rs : bC Hb sb [.s s]) (Ra : bC Hb ab [iN a]) (Rm : bC Hb mb [iN (Infl.mostAt s a)]) (ns : sb ≠ nb ∧ sb ≠ fb ∧ sb ≠ g) (na : ab ≠ nb ∧ ab ≠ fb ∧ ab ≠ g) (nm : mb ≠ nb ∧ mb ≠ fb ∧ mb ≠ g)
  (n1:nb≠fb) (n2:nb≠g) (n3:fb≠g) {h:aA} {b:Nat × Nat} {f:Nat} (hf:f<a) (M:MS Hb g nb fb rec .busy none h b) (hb:b.1≤258)
  (hX:∀ h',MS Hb g nb fb rec .busy none h' (Infl.better s a b (a - f))→X .normal h') :
  ∀ (fu k:Nat),k+fu=258→a+k≤s.length→Infl.lcp s a (a - f)=Infl.lcpF s a (a - f) fu k→Y5.p1 X (p1 sb) (p1 ab) (p1 nb) (p1 fb) (p1 mb) f k h:=by
 have Rs:=Rs.upd M.upd fun h=>h.elim ns.1 fun h=>h.elim ns.2.1 ns.2.2
 have Ra:=Ra.upd M.upd fun h=>h.elim na.1 fun h=>h.elim na.2.1 na.2.2
 have Rm:=Rm.upd M.upd fun h=>h.elim nm.1 fun h=>h.elim nm.2.1 nm.2.2
 have fin:∀ k,k≤258→Infl.lcp s a (a - f)=k→Y5.p2 X (p1 sb) (p1 ab) (p1 nb) (p1 fb) (p1 mb) f k false h:=by
  intro k hk e
  refine Y5.i2 ?_
  unfold Y5.t2
  refine aL rfl ?_
  refine aE M.n rfl rfl (aC ?_)
  unfold Infl.better at hX
  rw [e] at hX
  refine aG (fun c=>?_) fun c=>?_
  ·have c : b.1 < k := by simpa using c
   simp only [if_pos c] at hX
   refine aE Ra rfl rfl (aC ?_)
   refine aX (n:=((a - f:Nat):Int)) (by rw [bA (by omega) (by omega)]; omega) ?_
   refine aP M.n rfl Nat.one_pos (hk:=fun h1 l1 U1 R1=>?_)
   refine aE (Ra.upd U1 fun h=>na.1 h) rfl rfl (aC ⟨rfl, ?_⟩)
   refine aP (M.far.upd U1 fun h=>n1 h.symm) rfl Nat.one_pos (hk:=fun h2 l2 U2 R2=>?_)
   refine hX h2 ⟨(M.upd.trans U1 fun i _ e=>.inl e).trans U2 fun i _ e=>.inr (.inl e), ?_,R1.upd U2 fun h=>n1 h,R2⟩
   rw [U2.2 g (by have:=aM M.gh; omega) (fun e=>n3 e.symm),U1.2 g (aM M.gh) (fun e=>n2 e.symm)]
   exact M.gh
  ·have c : ¬ b.1 < k := by simpa using c
   simp only [if_neg c] at hX
   exact hX h M
 intro fu
 induction fu with
 | zero =>
  intro k hk hle e
  refine Y5.i1 ?_
  unfold Y5.t1
  refine aE Rm rfl rfl (aC ?_)
  refine aL (decide_eq_false ?_) (fin k (by omega) e)
  unfold Infl.mostAt; omega
 | succ fu ih =>
  intro k hk hle e
  refine Y5.i1 ?_
  unfold Y5.t1
  refine aE Rm rfl rfl (aC ?_)
  unfold Infl.lcpF at e
  refine aG (fun c=>?_) fun c=>?_
  ·have c : a + k < s.length := by
    have c:=of_decide_eq_true c
    unfold Infl.mostAt at c; omega
   obtain ⟨x,hx⟩:∃ x,s[f+k]? = some x:=⟨_,List.getElem?_eq_getElem (by omega)⟩
   obtain ⟨y,hy⟩:∃ y,s[a+k]? = some y:=⟨_,List.getElem?_eq_getElem c⟩
   refine aE Rs rfl rfl (bR ?_)
   refine aX (n:=((f+k:Nat):Int)) (by rw [bA (by omega) (by omega)]; omega) ?_
   refine rL hx (aE Rs rfl rfl (bR (aE Ra rfl rfl (aC ?_))))
   refine aX (n:=((a+k:Nat):Int)) (by rw [bA (by omega) (by omega)]; omega) ?_
   refine rL hy ?_
   have hfk:a+k - (a - f)=f+k:=by omega
   rw [hfk,hx,hy] at e
   rw [aIU]
   by_cases hxy:x=y
   ·rw [if_pos ⟨c, by rw [hxy]⟩] at e
    rw [decide_eq_true hxy]
    refine Y5.i2 ?_
    unfold Y5.t2
    refine aW rfl ?_
    refine aX (n:=((k+1:Nat):Int)) (by rw [bA (by omega) (by omega)]; omega) ?_
    exact ih (k+1) (by omega) (by omega) e
   ·rw [if_neg fun hh => hxy (Option.some.inj hh.2).symm] at e
    rw [decide_eq_false hxy]
    exact fin k (by omega) e
  ·have c : ¬ (k : Int) < ((Infl.mostAt s a : Nat) : Int) := of_decide_eq_false c
   have c:¬ a+k<s.length:=by unfold Infl.mostAt at c; omega
   rw [if_neg fun hh=>c hh.1] at e
   exact fin k (by omega) e
theorem aIR {X0 : aZ} {l : Nat} {Y : List AV → aA → (AV → aA → Prop) → Prop} {S : aA → Nat × Nat → Prop} {E : aA → Nat × Nat → Prop} {bx : AV} {sv : AV} {xs : List Nat} {Q : AV → aA → Prop}
  (hlen:xs.length<1073741824) (hbx:∀ h b,S h b→∀ K:AV→Prop,K sv→aD bx h K) (hsv:∀ h b,S h b→Rd 1 h sv (bB xs) xs.length) (hx:∀ f∈xs,f<a) (hSE:∀ h b,S h b→E h b) (hb0:∀ h b,S h b→b.1≤258)
  (hY:∀ h b i f K,S h b→f<a→(32768<a - f∨b.1=Infl.mostAt s a→∀ h',E h' b→K (.b false) h')→(¬ (32768<a - f∨b.1=Infl.mostAt s a)→∀ h',S h' (Infl.better s a b (a - f))→K (.b true) h')→Y [iN i,iN f] h K) :
  ∀ (j:Nat) (h:aA) (b:Nat × Nat),j≤xs.length→S h b→(∀ h',E h' (Infl.srch s a (xs.take j).reverse b)→Q (.tu []) h') →
  @Y41.p0 ⟨orY (dW prog X0) l Y⟩ Q (.fn (.yield l) [] []) bx ((j:Int) - 1) h:=by
 letI:XR:=⟨orY (dW prog X0) l Y⟩
 intro j
 induction j with
 | zero =>
  intro h b hj hS hq
  refine Y41.i0 ?_
  unfold Y41.t0
  exact aL (by decide) (hq h (hSE h b hS))
 | succ j ih =>
  intro h b hj hS hq
  have ej:((j+1:Nat):Int) - 1=(j:Int):=by omega
  obtain ⟨f,hf⟩:∃ f,xs[j]? = some f:=⟨_,List.getElem?_eq_getElem (by omega)⟩
  have htk:(xs.take (j+1)).reverse=f :: (xs.take j).reverse:=by
   rw [List.take_add_one,hf]; simp
  rw [htk,Infl.srch] at hq
  refine Y41.i0 ?_
  unfold Y41.t0
  rw [ej]
  refine aW (decide_eq_true (by omega)) ?_
  refine hbx h b hS _ ?_
  refine (hsv h b hS).idx (by omega) (by omega) fun id ver off ⟨bk,g1,g2,g3,g4,g5⟩=>⟨bk,g1,⟨g2,g3,g4⟩, ?_⟩
  have hc:(bk.cells)[off]? = some (iN f):=by
   have e1:((bk.cells.drop off).take 1)[0]? = some (iN f):=by
    rw [g5,List.getElem?_take_of_lt (by decide),List.getElem?_drop,Int.toNat_natCast,Nat.mul_one,Nat.add_zero]
    unfold bB
    rw [List.getElem?_map,hf] <;> rfl
   rw [List.getElem?_take_of_lt (by decide),List.getElem?_drop,Nat.add_zero] at e1
   exact e1
  show asI .i64 (bk.cells.getD off .u) _
  rw [getD_some hc]
  refine aC ?_
  refine z0 (.inr ⟨rfl,hY h b j f _ hS (hx f (List.mem_of_getElem? hf)) (fun hstop h' hE=>?_) fun hgo h' hS'=>?_⟩)
  ·rw [if_pos hstop] at hq
   refine aV (aW rfl (hq h' hE))
  ·rw [if_neg hgo] at hq
   refine aV (aL rfl ?_)
   refine aX (n:=(j:Int) - 1) (by rw [bA (by omega) (by omega)]) ?_
   exact ih h' _ (by omega) hS' hq
end
end Go.Proofs.YtpaphfeihpgamaaDoor
namespace Go.Proofs.YtpaphfeihpgamaaDoor
open Go.GAM
theorem aBN {P:Program} {R:aZ} {A:aZ→aZ} {gf:FuncId} {first cap:List AV} {Y:Nat→Loop→List AV→aA→(AV→aA→Prop)→Prop} {h:aA} {K:Loop→aA→Prop} (hc:(Nat.blt gf yid0&&oD P gf)=true)
  (hk:∀ l rec,A (orY R l (Y h.length rec)) gf (first++[.fn (.yield l) [] []]++cap) (h++[dL rec .ready none]) (fun _ h'=>K rec h')):aFE P R A (.fn (.func gf) first cap) Y h K:=aW hc hk
section
attribute [local instance] xr0
theorem aGE {s : List UInt8} {a : Nat} {h : aA} {v : AV} {Q : AV → aA → Prop} (hs : s.length < 1073741824) (ha : a + 3 ≤ s.length) (S : Stk h v (bB (occ s a (cC s a))))
  (hq:Q (.tu [iN (Infl.matchP s a).1,iN (Infl.matchP s a).2]) h):aFX prog (@C xr0) (dW prog) Y47.id [.s s,iN a,v] h Q:=by
 refine Y47.callX ?_
 unfold Y47.tX
 refine bQ (hk:=fun h1 l1 U1 R1=>?_)
 refine bQ (hk:=fun h2 l2 U2 R2=>?_)
 refine cF fun h3 l3 U3 R3=>?_
 refine cF fun h4 l4 U4 R4=>?_
 have R1:=((R1.upd U2 fun h=>h).upd U3 fun h=>h).upd U4 fun h=>h
 have R2:=(R2.upd U3 fun h=>h).upd U4 fun h=>h
 have R3:=R3.upd U4 fun h=>h
 refine aE R1 rfl rfl (bR (aE R2 rfl rfl (aC ?_)))
 refine aX (n:=((s.length - a:Nat):Int)) (by rw [bA (by omega) (by omega)]; omega) ?_
 rw [mmF]
 refine cF fun h5 l5 U5 R5=>?_
 refine aP R5 rfl Nat.one_pos (hk:=fun h6 l6 U6 R6=>?_)
 have R6:bC h6 h4.length [iN (Infl.mostAt s a)]:=R6
 have U56:Upd (fun _=>False) h4 h6:=U5.own U6 (Nat.le_refl _)
 have R1:bC h6 h.length [.s s]:=R1.upd U56 fun h=>h
 have R2:bC h6 h1.length [iN a]:=R2.upd U56 fun h=>h
 have R3:bC h6 h2.length [iN 0]:=R3.upd U56 fun h=>h
 have R4:bC h6 h3.length [iN 0]:=R4.upd U56 fun h=>h
 have Uh6:Upd (fun _=>False) h h6:=(((U1.then U2).then U3).then U4).then U56
 refine Y90.call ?_
 unfold Y90.t
 refine bQ (hs:=by rcases S with ⟨rfl,_⟩ | ⟨_,_,rfl,_⟩ <;> rfl) (hk:=fun h7 l7 U7 R7=>.inl ?_)
 have hvp:v.parts=[v]:=by rcases S with ⟨rfl,_⟩ | ⟨_,_,rfl,_⟩ <;> rfl
 rw [hvp] at R7 ⊢
 have S7:Rd 1 h7 v (bB (occ s a (cC s a))) (occ s a (cC s a)).length:=by
  have:=(S.upd (Uh6.then U7) fun i hi h=>h).rd
  rwa [show (bB (occ s a (cC s a))).length=(occ s a (cC s a)).length by unfold bB; simp] at this
 have R1:=R1.upd U7 fun h=>h
 have R2:=R2.upd U7 fun h=>h
 have R3:=R3.upd U7 fun h=>h
 have R4:=R4.upd U7 fun h=>h
 have R6:=R6.upd U7 fun h=>h
 have hl1:=R1.lt
 have hlt:h.length<h1.length∧h1.length<h2.length∧h2.length<h3.length∧h3.length<h4.length∧h4.length<h6.length∧h6.length<h7.length:=by
  have:=U6.1
  omega
 obtain ⟨q1,q2,q3,q4,q5,q6⟩:=hlt
 refine aBN (by kernel_rfl) fun l rec=>?_
 obtain ⟨Hb,hHb⟩:∃ Hb,h7++[dL rec .ready none]=Hb:=⟨_,rfl⟩
 have Ub:Upd (fun _=>False) h7 Hb:=by rw [← hHb]; exact Upd.app _ _
 have hgb:Hb[h7.length]? = some (dL rec .ready none):=by rw [← hHb]; simp
 rw [hHb]
 have R1:=R1.upd Ub fun h=>h
 have R2:=R2.upd Ub fun h=>h
 have R3:=R3.upd Ub fun h=>h
 have R4:=R4.upd Ub fun h=>h
 have R6:=R6.upd Ub fun h=>h
 have R7:=R7.upd Ub fun h=>h
 have Sb:=S7.upd Ub fun i hi h=>h
 have hsvlt:∀ i,aQ v i→i<h.length:=fun i hi=>S.rd.lt hi
 have hbase:Upd (fun _=>False) h Hb:=(Uh6.then U7).then Ub
 have M0:MS Hb h7.length h2.length h3.length rec .ready none Hb (0,0):=⟨Upd.refl _ _,hgb,R3,R4⟩
 have hocc:(occ s a (cC s a)).length<1073741824:=Nat.lt_of_le_of_lt (y2 s _ a) (by omega)
 refine @Y41.call ⟨orY (@C xr0) l _⟩ _ _ _ _ ?_
 unfold Y41.t
 refine aE R7 rfl rfl (S7.len ?_)
 refine aX (n:=(((occ s a (cC s a)).length:Nat):Int) - 1) (bA (by omega) (by omega)) ?_
 refine aIR (s:=s) (a:=a) (xs:=occ s a (cC s a)) (sv:=v) (S:=fun h b=>MS Hb h7.length h2.length h3.length rec .ready none h b∧b.1≤258)
  (E:=fun h b=>(MS Hb h7.length h2.length h3.length rec .ready none h b∨MS Hb h7.length h2.length h3.length rec .done (some (.exit 0)) h b)∧b.1≤258) hocc ?_ ?_ (fun f hf=>(uL s _ a f hf).1) (fun h b hS=>⟨.inl hS.1,hS.2⟩) (fun h b hS=>hS.2) ?_
  _ Hb (0,0) (Nat.le_refl _) ⟨M0,by decide⟩ ?_
 ·intro h' b hS K hK
  exact aE (R7.upd hS.1.upd fun h=>h.elim (by omega) fun h=>h.elim (by omega) (by omega)) rfl rfl hK
 ·intro h' b hS
  exact Sb.upd hS.1.upd fun i hi h=>by
   have:=hsvlt i hi
   exact h.elim (by omega) fun h=>h.elim (by omega) (by omega)
 ·intro h' b i f K ⟨hM, hb⟩ hf hstop hgo
  refine ⟨hM.gh, ?_⟩
  refine aFW (aC ⟨hM.gh, ?_⟩)
  unfold aDS aEP
  have MB:MS Hb h7.length h2.length h3.length rec .busy none (h'.set h7.length (dL rec .busy none)) b:=hM.set (by omega) (by omega)
  have Ra:=R2.upd MB.upd fun h=>h.elim (by omega) fun h=>h.elim (by omega) (by omega)
  have Rm:=R6.upd MB.upd fun h=>h.elim (by omega) fun h=>h.elim (by omega) (by omega)
  refine aE Ra rfl rfl (aC ?_)
  refine aX (n:=((a - f:Nat):Int)) (by rw [bA (by omega) (by omega)]; omega) ?_
  simp only [← Y5.p0.eq_1]
  have out:∀ c:Bool,(c=true↔32768<a - f∨b.1=Infl.mostAt s a)→Y5.p0 (aHT h7.length rec K) (p1 h.length) (p1 h1.length) (p1 h2.length) (p1 h3.length) (p1 h4.length) f c (h'.set h7.length (dL rec .busy none)):=by
   intro c hc
   refine Y5.i0 ?_
   unfold Y5.t0
   simp only [← Y5.p1.eq_1]
   refine aG (fun e=>?_) fun e=>?_
   ·refine ⟨MB.gh,hstop (hc.1 e) _ ⟨.inr (MB.set (by omega) (by omega)),hb⟩⟩
   ·have hn : ¬ (32768 < a - f ∨ b.1 = Infl.mostAt s a) := fun hh => by rw [hc.2 hh] at e; cases e
    refine aIJ (s:=s) (a:=a) (Hb:=Hb) (b:=b) (by omega) (by omega) R1 R2 R6 ⟨by omega,by omega,by omega⟩ ⟨by omega,by omega,by omega⟩ ⟨by omega,by omega,by omega⟩ (by omega) (by omega) (by omega) hf MB hb (fun h2' M2=>?_) 258 0 (by omega) (by omega) rfl
    refine ⟨M2.gh,hgo hn _ ⟨M2.set (by omega) (by omega), ?_⟩⟩
    unfold Infl.better
    split
    ·exact (Infl.lcp_ok _ (by omega)).1
    ·exact hb
  refine aG (fun e=>out true ⟨fun _=>.inl (by have:=of_decide_eq_true e; omega),fun _=>rfl⟩) fun e=>?_
  have e:¬ 32768<a - f:=by have:=of_decide_eq_false e; omega
  refine aE MB.n rfl rfl (aC (aE Rm rfl rfl (aC (out _ ?_))))
  rw [decide_eq_true_iff]
  exact ⟨fun h=>.inr (by omega),fun h=>h.elim (fun h=>absurd h e) fun h=>by rw [h]⟩
 ·intro h' ⟨hE, hle⟩
  rw [List.take_length,aDW ha] at hE
  refine .inl ?_
  obtain ⟨st,pe,hM⟩:∃ st pe,MS Hb h7.length h2.length h3.length rec st pe h' (Infl.matchP s a):=hE.elim (fun M=>⟨_,_,M⟩) fun M=>⟨_,_,M⟩
  have Ud:Upd (fun i=>i=h2.length∨i=h3.length∨i=h7.length) Hb (h'.set h7.length cK):=hM.upd.trans (Upd.set _ _ _) fun i _ e=>.inr (.inr e)
  have Rn:=hM.n.upd (Upd.set h' h7.length cK) (by omega)
  have Rf:=hM.far.upd (Upd.set h' h7.length cK) (by omega)
  have ret:∀ h'',Upd (fun i=>i=h2.length∨i=h3.length) (h'.set h7.length cK) h''→aH h Q (.tu [iN (Infl.matchP s a).1,iN (Infl.matchP s a).2]) h'':=by
   intro h'' U''
   have Uall:Upd (fun _=>False) h h'':=(hbase.trans Ud fun i hi e=>by omega).trans U'' fun i hi e=>by omega
   exact iO rfl ⟨Uall.1,fun i hi=>Uall.2 i hi fun h=>h⟩ hq
  have tail:aD (p1 h2.length) (h'.set h7.length cK) (fun v73=>asI .i64 v73 fun n74=>aD (p1 h3.length) (h'.set h7.length cK) fun v75=>asI .i64 v75 fun n76=>
    aT 1 (p1 h2.length) (AV.i .i64 n74) (h'.set h7.length cK) fun h77=>aD (p1 h3.length) h77 fun v78=>asI .i64 v78 fun n79=>((AV.i .i64 n76)=(AV.i .i64 n79) ∧
    (aT 1 (p1 h3.length) (AV.i .i64 n76) h77 fun h80=>aD (p1 h2.length) h80 fun v82=>aD (p1 h3.length) h80 fun v83=>aH h Q (AV.tu [v82,v83]) h80))):=by
   refine aE Rn rfl rfl (aC (aE Rf rfl rfl (aC ?_)))
   refine aP Rn rfl Nat.one_pos (hk:=fun h8 l8 U8 R8=>?_)
   have Rf8:=Rf.upd U8 (by omega)
   refine aE Rf8 rfl rfl (aC ⟨rfl, ?_⟩)
   refine aP Rf8 rfl Nat.one_pos (hk:=fun h9 l9 U9 R9=>?_)
   refine aE (R8.upd U9 (by omega)) rfl rfl (aE R9 rfl rfl (ret h9 ?_))
   exact (U8.mono fun i _ e=>.inl e).trans U9 fun i _ e=>.inr e
  rcases hE with M | M
  ·exact .inl ⟨M.gh,tail⟩
  ·exact .inr (.inl ⟨M.gh,tail⟩)
end
end Go.Proofs.YtpaphfeihpgamaaDoor
namespace Go.Proofs.YtpaphfeihpgamaaDoor
open Go.GAM
def fB (h:aA) (id N:Nat) (ex:Bool) (bs:List UInt8):Prop:=∃ b:ABlk,h[id]? = some b∧b.sz=1∧b.cells.length=N∧b.floor≤N∧b.ro=false∧(ex=true→b.ex=true)∧bs.length≤N∧b.cells.take bs.length=bs.map byteAV
theorem fB.lt {h:aA} {id N:Nat} {ex:Bool} {bs:List UInt8} (B:fB h id N ex bs):id<h.length:=by obtain ⟨b,h1,_⟩:=B; exact aM h1
theorem fB.upd {M:Nat→Prop} {h h':aA} {id N:Nat} {ex:Bool} {bs:List UInt8} (B:fB h id N ex bs) (U:Upd M h h') (hM:¬ M id):fB h' id N ex bs:=by
 have hl:=B.lt
 obtain ⟨b,h1,h2⟩:=B
 exact ⟨b,(U.2 id hl hM).trans h1,h2⟩
theorem fB.copy {h:aA} {id N:Nat} {ex:Bool} {bs ns:List UInt8} {x:AV} (B:fB h id N ex bs) (hN:bs.length+ns.length≤N) {c:Option Nat} (hx:∀ K:List AV→Nat→Prop,K (ns.map byteAV) ns.length→eK 1 x h K) {K:AV→aA→Prop}
  (hk:∀ h',h'.length=h.length→Upd (· = id) h h'→fB h' id N ex (bs++ns)→K (iN ns.length) h'):lC 1 (.sl (some ⟨id,N,bs.length⟩) ns.length c) x h K:=by
 have hl:=B.lt
 obtain ⟨b,h1,h2,h3,h4,h5,h6,h7,h8⟩:=B
 refine ⟨Nat.one_pos,hx _ ⟨b,h1,h2,⟨h4,by show N≤b.cells.length; omega,by show bs.length+ns.length * 1≤N; omega⟩,h5,h3.symm, ?_, ?_⟩⟩
 ·rw [List.all_eq_true]
  intro v hv
  obtain ⟨c,_,rfl⟩:=List.mem_map.1 (List.mem_of_mem_take hv)
  rfl
 ·have e1 : (ns.map byteAV).take (min ns.length ns.length * 1) = ns.map byteAV := List.take_of_length_le (by simp)
  rw [e1,Nat.min_self]
  refine hk _ (by simp) (Upd.set _ _ _) ⟨_,List.getElem?_set_self hl,h2, ?_, ?_,h5,h6,by rw [List.length_append]; exact hN, ?_⟩
  ·rw [eS]; exact h3
  ·show b.cells.length≤N; omega
  ·show (wr b.cells bs.length (ns.map byteAV)).take _ = _
   have e2:b.cells=bs.map byteAV++b.cells.drop bs.length:=by rw [← h8,List.take_append_drop]
   have e3:bs.length=(bs.map byteAV).length:=by simp
   rw [e2]
   conv=>lhs; arg 2; arg 2; rw [e3]
   rw [tS _ _ _ (by simp; omega),List.length_append, ← List.append_assoc,List.take_append_of_le_length (by simp),List.take_of_length_le (by simp),List.map_append]
def jB (h:aA) (d:Nat) (v:AV):Prop:=bC h d [v,iN 0,.i .i8 0]
abbrev bp (d:Nat):AV:=.p (some ⟨d,3,0⟩)
section
variable [XR] {h:aA} {Q:AV→aA→Prop} {d id N:Nat} {bs ns:List UInt8}
def xR [XR]:Prop:=∀ (h:aA) (Q:AV→aA→Prop) (id N n:Nat) (bs:List UInt8),fB h id N true bs→N≤1000→1≤n→n≤1099511627776 →
 (∀ h' N',Upd (fun _=>False) h h'→h.length<h'.length→bs.length+n≤N'→fB h' h.length N' false bs→Q (.sl (some ⟨h.length,N',0⟩) bs.length none) h')→C Y93.id [.sl (some ⟨id,N,0⟩) bs.length none,iN n] h Q
theorem aGF {K:AV→aA→Prop} (hk:K (.i .i64 0) h):xW 1 (.sl none 0 none) h K:=hk
theorem aER {K:AV→Prop} {t:TypeId} (ht:aBV prog t=true) (hk:K (.b true)):dS prog .eql t (.sl none 0 none) (.sl none 0 none) K:=by
 simp only [dS,ht,cond_true]; exact hk
theorem aBG {K:AV→Prop} {t:TypeId} {a:AA} {n:Nat} {c:Option Nat} (ht:aBV prog t=true) (hk:K (.b false)):dS prog .eql t (.sl (some a) n c) (.sl none 0 none) K:=by
 simp only [dS,ht,cond_true]; exact hk
theorem aCX {l:List UInt8} {K:List AV→Nat→Prop} (hk:K (l.map byteAV) l.length):eK 1 (.s l) h K:=⟨rfl,hk⟩
theorem zM (R:jB h d (.sl none 0 none)) {n:Nat} (hn:0<n) (hq:Q (.tu [iN 0,.b false]) h):C Y44.id [bp d,iN n] h Q:=by
 refine Y44.call ?_
 simp only [Y44.t,bF,bD]
 refine aE R rfl rfl (pY (aE R rfl rfl (aGF ?_)))
 refine aC (aX (n:=0) rfl ?_)
 exact aL (decide_eq_false (by omega)) (.inl hq)
theorem uJ {id N l:Nat} (B:fB h id N true bs) {K:AV→aA→Prop} (hk:K (iN N) h):xW 1 (.sl (some ⟨id,N,0⟩) l none) h K:=by
 obtain ⟨b,h1,h2,h3,h4,h5,h6,h7,h8⟩:=B
 exact .inl ⟨b,N,h1,by omega,h6 rfl,h3.symm,h2,Nat.one_pos,by show 0+N * 1=b.cells.length; omega,hk⟩
theorem aG2 {ex:Bool} {id N l j:Nat} (B:fB h id N ex bs) (hj:j≤N) {K:AV→Prop} (hk:K (.sl (some ⟨id,N,0⟩) j none)):bI 1 (.sl (some ⟨id,N,0⟩) l none) none (some (iN j)) none h K:=by
 obtain ⟨b,h1,h2,h3,h4,h5,h6,h7,h8⟩:=B
 refine ⟨Nat.one_pos,fun h=>by simp at h,by omega,by simp,b,h1,by omega,by show b.floor≤N; omega,.inl h2, ?_⟩
 refine ⟨.inr (.inl ⟨rfl,by simp; omega⟩), ?_⟩
 simpa using hk
theorem pR {ex:Bool} {id N l i:Nat} (B:fB h id N ex bs) (hi:i≤l) {K:AV→Prop} (hk:K (.sl (some ⟨id,N,i⟩) (l - i) none)):bI 1 (.sl (some ⟨id,N,0⟩) l none) (some (iN i)) none none h K:=by
 obtain ⟨b,h1,h2,h3,h4,h5,h6,h7,h8⟩:=B
 refine ⟨Nat.one_pos,fun h=>by simp at h,by omega,by simp; omega,b,h1,by omega,by show b.floor≤N; omega,.inl h2, ?_⟩
 refine ⟨.inl (Nat.le_refl _), ?_⟩
 simpa using hk
theorem aGO (R:jB h d (.sl (some ⟨id,N,0⟩) bs.length none)) (B:fB h id N true bs) (hne:d≠id) {n:Nat} (hN:N≤1000) (hn:bs.length+n≤N)
  (hq:∀ h',Upd (· = d) h h'→jB h' d (.sl (some ⟨id,N,0⟩) (bs.length+n) none)→Q (.tu [iN bs.length,.b true]) h'):C Y44.id [bp d,iN n] h Q:=by
 refine Y44.call ?_
 simp only [Y44.t,bF,bD]
 refine aE R rfl rfl (pY (aE R rfl rfl (uJ B (aC ?_))))
 refine aX (n:=((N - bs.length:Nat):Int)) (by rw [bA (by omega) (by omega)]; omega) ?_
 refine aW (decide_eq_true (by omega)) (aE R rfl rfl ?_)
 refine aX (n:=((bs.length+n:Nat):Int)) (by rw [bA (by omega) (by omega)]; omega) ?_
 refine aG2 B hn ?_
 exact aP R rfl (by show 0<3; decide) (hk:=fun h1 l1 U1 R1=>.inl (hq h1 U1 R1))
theorem aDB (R:jB h d (.sl (some ⟨id,N,0⟩) bs.length none)) (B:fB h id N true bs) {n:Nat} (hN:N≤1000) (hn2:n≤1099511627776) (hn:N<bs.length+n)
  (hq:Q (.tu [iN 0,.b false]) h):C Y44.id [bp d,iN n] h Q:=by
 have hbN:bs.length≤N:=by obtain ⟨b,_,_,_,_,_,_,h7,_⟩:=B; exact h7
 refine Y44.call ?_
 simp only [Y44.t,bF,bD]
 refine aE R rfl rfl (pY (aE R rfl rfl (uJ B (aC ?_))))
 refine aX (n:=((N - bs.length:Nat):Int)) (by rw [bA (by omega) (by omega)]; omega) ?_
 exact aL (decide_eq_false (by omega)) (.inl hq)
theorem aGV (R:jB h d (.sl none 0 none)) (hq:Q (iN 0) h):C Y46.id [bp d] h Q:=by
 refine Y46.call ?_
 simp only [Y46.t,bF,bD]
 exact aE R rfl rfl (pY (aE R rfl rfl (aC (aX (n:=0) rfl (.inl hq)))))
theorem aHX {a:AA} {l:Nat} (R:jB h d (.sl (some a) l none)) (hl:l<1099511627776) (hq:Q (iN l) h):C Y46.id [bp d] h Q:=by
 refine Y46.call ?_
 simp only [Y46.t,bF,bD]
 exact aE R rfl rfl (pY (aE R rfl rfl (aC (aX (n:=(l:Int)) (by rw [bA (by omega) (by omega)]; omega) (.inl hq)))))
theorem aDV (R:jB h d (.sl none 0 none)) {n:Nat} (h0:0<n) (hn:n≤64)
  (hq:∀ h' id,Upd (· = d) h h'→h.length≤id→jB h' d (.sl (some ⟨id,64,0⟩) n none)→fB h' id 64 true []→Q (iN 0) h'):C Y6.id [bp d,iN n] h Q:=by
 refine Y6.call ?_
 simp only [Y6.t, ← Y6.p0.eq_1,bF,bD]
 refine aGV R (aC (aW rfl ?_))
 refine aE R rfl rfl (aC ?_)
 refine Y6.i0 ?_
 simp only [Y6.t0, ← Y6.p1.eq_1]
 refine aL rfl ?_
 refine Y6.i1 ?_
 simp only [Y6.t1, ← Y6.p2.eq_1,bF,bD]
 refine zM R h0 ?_
 simp only [cW,cX]
 refine aC (aV (aL rfl (aE R rfl rfl (aER (by kernel_rfl) ?_))))
 refine aV (aW rfl ?_)
 refine Y6.i2 ?_
 simp only [Y6.t2,bF,bD]
 refine aW (decide_eq_true (by omega)) ?_
 refine ⟨by omega,by omega,by decide,by decide,rfl,Nat.one_pos, ?_⟩
 rw [Int.toNat_natCast]
 have U1:Upd (fun _=>False) h (h++[bE (List.replicate (64:Int).toNat [AV.i .u8 0]).flatten 1 true]):=Upd.app _ _
 refine aP (R.upd U1 fun h=>h) rfl (by show 0<3; decide) (hk:=fun h2 l2 U2 R2=>?_)
 refine .inl (hq h2 h.length ((U1.mono fun _ _ h=>h.elim).trans U2 fun _ _ h=>h) (Nat.le_refl _) R2 ?_)
 have hd:=R.lt
 refine fB.upd (h:=h++[bE (List.replicate (64:Int).toNat [AV.i .u8 0]).flatten 1 true]) ⟨_,by simp; rfl,rfl,rfl,Nat.le_refl _,rfl,fun _=>rfl,Nat.zero_le _,rfl⟩ U2 (by omega)
theorem aAW (hG:xR) (R:jB h d (.sl (some ⟨id,64,0⟩) bs.length none)) (B:fB h id 64 true bs) (hne:d≠id) {n:Nat} (h0:0<bs.length) (hn2:n≤1099511627776) (hn:64<bs.length+n)
  (hq:∀ h' N',Upd (· = d) h h'→h.length<h'.length→bs.length+n≤N'→jB h' d (.sl (some ⟨h.length,N',0⟩) (bs.length+n) none)→fB h' h.length N' false bs→Q (iN bs.length) h'):C Y6.id [bp d,iN n] h Q:=by
 have hbN:bs.length≤64:=by obtain ⟨b,_,_,_,_,_,_,h7,_⟩:=B; exact h7
 have hd:=R.lt
 refine Y6.call ?_
 simp only [Y6.t, ← Y6.p0.eq_1,bF,bD]
 refine aHX R (by omega) (aC (aL (decide_eq_false (by omega)) ?_))
 refine Y6.i0 ?_
 simp only [Y6.t0, ← Y6.p1.eq_1]
 refine aL rfl ?_
 refine Y6.i1 ?_
 simp only [Y6.t1, ← Y6.p2.eq_1,bF,bD]
 refine aDB R B (by decide) hn2 (by omega) ?_
 simp only [cW,cX]
 refine aC (aV (aL rfl (aE R rfl rfl (aBG (by kernel_rfl) ?_))))
 refine aV (aL rfl ?_)
 refine Y6.i2 ?_
 simp only [Y6.t2, ← Y6.p3.eq_1,bF,bD]
 refine aL rfl (aE R rfl rfl (uJ B (aC ?_)))
 refine kF (n:=32) (by decide) (by decide) ?_
 refine aX (n:=32 - (bs.length:Int)) (bA (by omega) (by omega)) ?_
 refine aL (decide_eq_false (by omega)) ?_
 refine aX (n:=9223372036854775743) (by decide) ?_
 refine aX (n:=9223372036854775743 - (n:Int)) (bA (by omega) (by omega)) ?_
 refine aL (decide_eq_false (by omega)) ?_
 refine aE R rfl rfl (aE R rfl rfl (aC ?_))
 refine pR B (Nat.zero_le _) (aE R rfl rfl (aC ?_))
 refine aX (n:=(n:Int)) (by rw [bA (by omega) (by omega)]; simp) ?_
 refine hG h _ id 64 n bs B (by decide) (by omega) hn2 fun h1 N' U1 l1 hN' B1=>?_
 refine aP (R.upd U1 fun h=>h) rfl (by show 0<3; decide) (hk:=fun h2 l2 U2 R2=>?_)
 refine Y6.i3 ?_
 simp only [Y6.t3,bF,bD]
 refine aP R2 rfl (by show 1<3; decide) (hk:=fun h3 l3 U3 R3=>?_)
 refine aE R3 rfl rfl ?_
 refine aX (n:=((bs.length+n:Nat):Int)) (by rw [bA (by omega) (by omega)]; omega) ?_
 have B3:fB h3 h.length N' false bs:=(B1.upd U2 (by omega)).upd U3 (by omega)
 refine aG2 B3 hN' ?_
 refine aP R3 rfl (by show 0<3; decide) (hk:=fun h4 l4 U4 R4=>?_)
 refine .inl (hq h4 N' ((((U1.mono fun _ _ h=>h.elim).trans U2 fun _ _ h=>h).trans U3 fun _ _ h=>h).trans U4 fun _ _ h=>h) (by omega) hN' R4 (B3.upd U4 (by omega)))
theorem vR (R:jB h d (.sl none 0 none)) {x:AV} {n0:0<ns.length} (hn:ns.length≤64) (B:Rd 1 h x (ns.map byteAV) ns.length) (hx:¬ aQ x d)
  (hq:∀ h' id,Upd (· = d) h h'→h.length≤id→jB h' d (.sl (some ⟨id,64,0⟩) ns.length none)→fB h' id 64 true ns→Q (.tu [iN ns.length,.ni]) h'):C Y42.id [bp d,x] h Q:=by
 refine Y42.call ?_
 simp only [Y42.t, ← Y42.p0.eq_1,bF,bD]
 refine aP R rfl (by show 2<3; decide) (hk:=fun h1 l1 U1 R1=>?_)
 have R1:jB h1 d (.sl none 0 none):=R1
 have B1:=B.upd U1 fun i hi e=>hx (e ▸ hi)
 refine B1.len (zM R1 n0 ?_)
 simp only [cW,cX]
 refine aC (aV (aW rfl (B1.len ?_)))
 refine aDV R1 n0 hn fun h2 id U2 hid R2 B2=>aC ?_
 refine Y42.i0 ?_
 simp only [Y42.t0,bF,bD]
 refine aE R2 rfl rfl (pR B2 (Nat.zero_le _) ?_)
 have Bx2:=B1.upd U2 fun i hi e=>hx (e ▸ hi)
 refine fB.copy (bs:=[]) (ns:=ns) B2 (by simpa using hn) (fun K hk=>Bx2.news hk) fun h3 l3 U3 B3=>aC (.inl ?_)
 have hd:=R.lt
 refine hq h3 id ((U1.trans U2 fun _ _ h=>h).trans U3 fun i hi e=>by omega) (by omega) (R2.upd U3 (by omega)) B3
theorem y4 (hG:bs.length+ns.length≤64∨xR) (R:jB h d (.sl (some ⟨id,64,0⟩) bs.length none)) (B:fB h id 64 true bs) (hne:d≠id) (h0:0<bs.length) (hn2:ns.length≤1099511627776)
  (hq:∀ h' id' N ex,Upd (fun i=>i=d∨i=id) h h'→(id'=id∨h.length≤id')→jB h' d (.sl (some ⟨id',N,0⟩) (bs.length+ns.length) none)→fB h' id' N ex (bs++ns)→Q (.tu [iN ns.length,.ni]) h'):C Y40.id [bp d,.s ns] h Q:=by
 have hbN:bs.length≤64:=by obtain ⟨b,_,_,_,_,_,_,h7,_⟩:=B; exact h7
 refine Y40.call ?_
 simp only [Y40.t, ← Y40.p0.eq_1,bF,bD]
 refine aP R rfl (by show 2<3; decide) (hk:=fun h1 l1 U1 R1=>?_)
 have R1:jB h1 d (.sl (some ⟨id,64,0⟩) bs.length none):=R1
 have B1:=B.upd U1 fun e=>hne e.symm
 have hd:=R.lt
 have hidl:=B.lt
 have fin:∀ h2 id' N ex,Upd (fun i=>i=d∨i=id) h h2→(id'=id∨h.length≤id')→jB h2 d (.sl (some ⟨id',N,0⟩) (bs.length+ns.length) none)→fB h2 id' N ex bs→bs.length+ns.length≤N→Y40.p0 (aH h Q) (bp d) ns bs.length h2:=by
  intro h2 id' N ex U2 hid' R2 B2 hN
  refine Y40.i0 ?_
  simp only [Y40.t0,bF,bD]
  refine aE R2 rfl rfl (pR B2 (Nat.le_add_right _ _) ?_)
  rw [Nat.add_sub_cancel_left]
  have hdi:d≠id':=by omega
  refine B2.copy hN (fun K hk=>aCX hk) fun h3 l3 U3 B3=>aC (.inl ?_)
  exact hq h3 id' N ex (U2.trans U3 fun i hi e=>by omega) hid' (R2.upd U3 hdi) B3
 by_cases hc:bs.length+ns.length≤64
 ·refine aGO R1 B1 hne (by decide) hc fun h2 U2 R2 => ?_
  simp only [cW,cX]
  refine aC (aV (aL rfl ?_))
  exact fin h2 id 64 true ((U1.mono fun _ _ e=>.inl e).trans U2 fun i _ e=>.inl e) (.inl rfl) R2 (B1.upd U2 fun e=>hne e.symm) hc
 ·refine aDB R1 B1 (by decide) hn2 (by omega) ?_
  simp only [cW,cX]
  refine aC (aV (aW rfl ?_))
  refine aAW (hG.resolve_left hc) R1 B1 hne h0 hn2 (by omega) fun h2 N' U2 l2 hN' R2 B2=>aC ?_
  exact fin h2 _ N' false ((U1.mono fun _ _ e=>.inl e).trans U2 fun i _ e=>.inl e) (.inr (by omega)) R2 B2 hN'
theorem aIO {ex:Bool} (R:jB h d (.sl (some ⟨id,N,0⟩) bs.length none)) (B:fB h id N ex bs) (hq:Q (.s bs) h):C Y77.id [bp d] h Q:=by
 refine Y77.call ?_
 simp only [Y77.t,bF,bD]
 refine dI (by kernel_rfl) (aV (aL rfl (aE R rfl rfl (aE R rfl rfl (aC ?_)))))
 refine pR B (Nat.zero_le _) ?_
 rw [Nat.sub_zero]
 obtain ⟨b,h1,h2,h3,h4,h5,h6,h7,h8⟩:=B
 have Rb:Byt h (.sl (some ⟨id,N,0⟩) bs.length none) bs:=.inr ⟨id,N,0,none,b,rfl,h1,.inl h2,h4,by omega,by omega,by rw [List.drop_zero,Nat.mul_one]; exact h8⟩
 exact Rb.str (.inl hq)
end
end Go.Proofs.YtpaphfeihpgamaaDoor
namespace Go.Proofs.YtpaphfeihpgamaaDoor
open Go.GAM
open Go.Infl (bL cV bY Out Lim)
theorem wrap_u64 {n:Int} (h0:0≤n) (h1:n<18446744073709551616):IntKind.wrap .u64 n=n:=by
 have e:IntKind.wrap .u64 n=n % 18446744073709551616:=by simp [IntKind.wrap,IntKind.signed,IntKind.bits]
 rw [e]; omega
theorem aEN:∀ (n x k:Nat),k<n→(Huff.loBits x n)[k]? = some (x / 2 ^ k % 2)
 | 0,_,_,h=>by omega
 | n+1,x,0,_=>by simp [Huff.loBits]
 | n + 1, x, k + 1, h => by
  unfold Huff.loBits
  rw [List.getElem?_cons_succ,aEN n (x / 2) k (by omega),Nat.div_div_eq_div_mul,Nat.pow_succ,Nat.mul_comm (2 ^ k) 2]
theorem pQ:∀ (n x:Nat),(Huff.loBits x n).length=n
 | 0,_=>rfl
 | n+1,x=>by unfold Huff.loBits; rw [List.length_cons,pQ n]
theorem vQ:∀ (s:List UInt8) (i:Nat) (c:UInt8),s[i / 8]? = some c→(Infl.bitsOf s)[i]? = some (c.toNat / 2 ^ (i % 8) % 2)
 | [],i,c,h=>by simp at h
 | x :: s, i, c, h => by
  have e:Infl.bitsOf (x :: s)=Huff.loBits x.toNat 8++Infl.bitsOf s:=rfl
  rw [e]
  by_cases hi:i<8
  ·rw [show i / 8 = 0 by omega] at h
   cases h
   rw [List.getElem?_append_left (by rw [pQ]; exact hi),show i % 8=i by omega]
   exact aEN 8 _ i hi
  ·rw [show i / 8 = (i - 8) / 8 + 1 by omega, List.getElem?_cons_succ] at h
   rw [List.getElem?_append_right (by rw [pQ]; omega),pQ,show i % 8=(i - 8) % 8 by omega]
   exact vQ s (i - 8) c h
structure RS where
 at':Nat
 outv:AV
 short:Bool
 e:Int
abbrev rp (d:Nat):AV:=.p (some ⟨d,7,0⟩)
def RS.cells (L:Lim) (s:List UInt8) (r:RS):List AV:=[.s s,iN r.at',r.outv,iN L.output,iN L.ratio,.b r.short,.i .i64 r.e]
def dN (d:Nat) (r:RS) (i:Nat):Prop:=i=d∨aQ r.outv i
structure RSt (L:Lim) (s:List UInt8) (h:aA) (d:Nat) (r:RS) (out:List UInt8):Prop where
 recd:bC h d (r.cells L s)
 ob:Stk h r.outv (out.map byteAV)
 d1:¬ aQ r.outv d
 le:r.at'≤8 * s.length
 len:out.length≤65536
 lim:L.output≤65536∧L.ratio≤1100
 sl:s.length≤1073741824
def RS.stop (r:RS):Bool:=r.short || !decide (r.e=0)
theorem RSt.lt {L:Lim} {s:List UInt8} {h:aA} {d:Nat} {r:RS} {out:List UInt8} (S:RSt L s h d r out) {i:Nat} (hi:dN d r i):i<h.length:=by
 rcases hi with rfl | hi
 ·exact S.recd.lt
 ·exact S.ob.rd.lt hi
theorem RSt.upd {L:Lim} {s:List UInt8} {h h':aA} {d:Nat} {r:RS} {out:List UInt8} (S:RSt L s h d r out) {M:Nat→Prop} (U:Upd M h h') (hM:∀ i,dN d r i→¬ M i):RSt L s h' d r out:=
 { S with recd:=S.recd.upd U (hM d (.inl rfl)),ob:=S.ob.upd U fun i hi=>hM i (.inr hi) }
theorem RSt.with {L:Lim} {s:List UInt8} {h h':aA} {d:Nat} {r r':RS} {out:List UInt8} (S:RSt L s h d r out) (U:Upd (· = d) h h') (R:bC h' d (r'.cells L s)) (h1:r'.outv=r.outv) (h2:r'.at'≤8 * s.length):RSt L s h' d r' out:=
 { recd:=R,ob:=by rw [h1]; exact S.ob.upd U fun i hi e=>S.d1 (e ▸ hi),d1:=by rw [h1]; exact S.d1,le:=h2,len:=S.len,lim:=S.lim,sl:=S.sl }
def RU (d:Nat) (h:aA) (r:RS) (h':aA) (r':RS):Prop:=Upd (dN d r) h h'∧∀ i,i<h.length→dN d r' i→dN d r i
theorem RU.refl (d:Nat) (h:aA) (r:RS):RU d h r h r:=⟨Upd.refl _ _,fun _ _ h=>h⟩
theorem RU.trans {d:Nat} {h h1 h2:aA} {r r1 r2:RS} (a:RU d h r h1 r1) (b:RU d h1 r1 h2 r2):RU d h r h2 r2:=⟨a.1.trans b.1 a.2,fun i hi hm=>a.2 i hi (b.2 i (Nat.lt_of_lt_of_le hi a.1.1) hm)⟩
theorem RU.own {d:Nat} {h h':aA} {r r':RS} (U:Upd (· = d) h h') (e:r'.outv=r.outv):RU d h r h' r':=⟨U.mono fun i _ h=>.inl h,fun i _ hm=>by unfold dN at *; rw [e] at hm; exact hm⟩
theorem RU.ext {d:Nat} {h h':aA} {r:RS} (U:Upd (fun _=>False) h h'):RU d h r h' r:=⟨U.mono fun _ _ h=>h.elim,fun _ _ h=>h⟩
def jP (r:RS) (out:List UInt8) (F:Infl.Fin):Prop:=F.out=out∧((r.short=true∧F.e=3)∨(r.short=false∧r.e=2∧F.e=1)∨(r.short=false∧r.e=16∧F.e=2))
theorem jP.stop {r:RS} {out:List UInt8} {F:Infl.Fin} (hF:jP r out F):r.stop=true:=by
 obtain ⟨_,h | h | h⟩:=hF
 ·unfold RS.stop; rw [h.1] <;> rfl
 ·unfold RS.stop; rw [h.1,h.2.1] <;> rfl
 ·unfold RS.stop; rw [h.1,h.2.1] <;> rfl
section
variable [XR] {h:aA} {Q:AV→aA→Prop} {L:Lim} {s:List UInt8} {d:Nat} {r:RS} {out:List UInt8} {F:Infl.Fin}
theorem bG (S:RSt L s h d r out) (hq:Q (.b r.stop) h):C Y24.id [rp d] h Q:=by
 refine Y24.call ?_
 simp only [Y24.t,bF,bD, ← Y24.p0.eq_1]
 refine aE S.recd rfl rfl (aV ?_)
 unfold RS.stop at hq
 refine aG ?_ ?_ <;> intro e
 ·refine Y24.i0 ?_
  simp only [Y24.t0]
  rw [e] at hq
  exact .inl hq
 ·refine aE S.recd rfl rfl (aC (Y24.i0 ?_))
  simp only [Y24.t0]
  rw [e] at hq
  exact .inl hq
theorem j1 (S : RSt L s h d r out) (hq0 : r.stop = true → ∀ h', Upd (· = d) h h' → RSt L s h' d r out → Q (iN 0) h') (hq1 : r.stop = false → 8 * s.length ≤ r.at' → ∀ h', Upd (· = d) h h' → RSt L s h' d { r with short := true } out → Q (iN 0) h')
  (hq2:r.stop=false→r.at'<8 * s.length→∀ b h',(Infl.bitsOf s)[r.at']? = some b→b<2→Upd (· = d) h h'→RSt L s h' d { r with at':=r.at'+1 } out→Q (iN b) h'):C Y26.id [rp d] h Q:=by
 have hle:=S.le
 have hsl:=S.sl
 have P1:∀ h',Q (iN 0) h'→Y26.p1 (aH h Q) h':=fun h' hq=>by
  refine Y26.i1 ?_
  simp only [Y26.t1]
  exact .inl hq
 have P0 : ∀ b, b = (r.stop || decide (8 * s.length ≤ r.at')) → Y26.p0 (aH h Q) (rp d) b h := fun b hb => by
  refine Y26.i0 ?_
  simp only [Y26.t0,bF,bD, ← Y26.p1.eq_1]
  refine aG ?_ ?_ <;> intro e
  ·refine aE S.recd rfl rfl (aV ?_)
   refine aG ?_ ?_ <;> intro e2
   ·refine aP S.recd rfl (ltr rfl) (hk := fun h1 l1 U1 R1 => P1 h1 ?_)
    have R1:bC h1 d (r.cells L s):=by have:=R1; unfold RS.cells at *; rw [e2]; exact this
    exact hq0 (by unfold RS.stop; rw [e2] <;> rfl) h1 U1 (S.with U1 R1 rfl hle)
   ·refine aE S.recd rfl rfl (aC ?_)
    refine aP S.recd rfl (ltr rfl) (hk:=fun h1 l1 U1 R1=>P1 h1 ?_)
    by_cases he:r.e=0
    ·have hst : r.stop = false := by unfold RS.stop; rw [e2, he] <;> rfl
     have R1:bC h1 d (RS.cells L s { r with short:=true }):=by have:=R1; unfold RS.cells at *; rw [decide_eq_true he] at this; exact this
     rw [hb,hst] at e
     exact hq1 hst (by simpa using e) h1 U1 (S.with U1 R1 rfl hle)
    ·have R1 : bC h1 d (r.cells L s) := by have := R1; unfold RS.cells at *; rw [decide_eq_false he] at this; rw [e2]; exact this
     exact hq0 (by unfold RS.stop; rw [decide_eq_false he]; simp) h1 U1 (S.with U1 R1 rfl hle)
  ·rw [hb, Bool.or_eq_false_iff] at e
   obtain ⟨e1,e2⟩:=e
   have hlt:r.at'<8 * s.length:=by have:=of_decide_eq_false e2; omega
   obtain ⟨c,hc⟩:∃ c,s[r.at' / 8]? = some c:=⟨_,List.getElem?_eq_getElem (by omega)⟩
   have hcl:=c.toNat_lt
   have hcd:c.toNat / 2 ^ (r.at' % 8)≤c.toNat:=Nat.div_le_self _ _
   refine aE S.recd rfl rfl (bR (aE S.recd rfl rfl (aC ?_)))
   refine kF (n:=((r.at' / 8:Nat):Int)) (by decide) (by rw [Int.tdiv_eq_ediv_of_nonneg (by omega),bA (by omega) (by omega)]; omega) ?_
   refine rL hc ?_
   refine aE S.recd rfl rfl (aC ?_)
   refine lR (n:=((r.at' % 8:Nat):Int)) (by decide) (by rw [Int.tmod_eq_emod_of_nonneg (by omega)]; omega) ?_
   rw [bA (by omega) (by omega),wrap_u64 (by omega) (by omega)]
   refine oB (a:=c.toNat) (b:=r.at' % 8) (by show r.at' % 8≤64; omega) ?_
   refine aE S.recd rfl rfl (aC (inc (by omega) ?_))
   refine aP S.recd rfl (ltr rfl) (hk:=fun h1 l1 U1 R1=>?_)
   have hand:bO .and .i64 ((c.toNat / 2 ^ (r.at' % 8):Nat):Int) 1=((c.toNat / 2 ^ (r.at' % 8) % 2:Nat):Int):=by
    have:=fW (x:=c.toNat / 2 ^ (r.at' % 8)) (y:=1) (by omega) (by decide)
    rw [Nat.and_one_is_mod] at this
    exact this
   rw [hand]
   exact .inl (hq2 e1 hlt _ h1 (vQ s _ c hc) (Nat.mod_lt _ (by decide)) U1 (S.with U1 R1 rfl (by show r.at'+1≤_; omega)))
 refine Y26.call ?_
 simp only [Y26.t,bF,bD, ← Y26.p0.eq_1]
 refine bG S (aV ?_)
 refine aG ?_ ?_ <;> intro e
 ·exact P0 true (by rw [e] <;> rfl)
 ·refine aE S.recd rfl rfl (aC (aE S.recd rfl rfl (bR ?_)))
  refine bS (n:=((8 * s.length:Nat):Int)) (by omega) (by omega) (by omega) ?_
  refine P0 _ ?_
  rw [e,Bool.false_or,decide_eq_decide]; omega
theorem kJ {h0':aA} {n:Nat} (hn:n≤16) (hst:r.stop=true):∀ (m j acc:Nat) (h:aA),j+m=n→acc<2 ^ n→RSt L s h d r out→(∀ h',Upd (· = d) h h'→RSt L s h' d r out→Q (iN acc) h')→Y12.p0 (aH h0' Q) (rp d) n acc j h:=by
 intro m
 induction m with
 | zero =>
  intro j acc h hj ha S hq
  obtain rfl:j=n:=by omega
  refine Y12.i0 ?_
  simp only [Y12.t0]
  exact aL (by simp) (.inl (hq h (Upd.refl _ _) S))
 | succ m ih =>
  intro j acc h hj ha S hq
  have hp:2 ^ n≤2 ^ 16:=Nat.pow_le_pow_right (by decide) hn
  refine Y12.i0 ?_
  simp only [Y12.t0, ← Y12.p0.eq_1]
  refine aW (by simp; omega) ?_
  refine j1 S (fun _ h1 U1 S1=>?_) (fun e=>by rw [hst] at e; cases e) (fun e=>by rw [hst] at e; cases e)
  refine aC ?_
  rw [wrap_u64 (by omega) (by omega)]
  refine eM (a:=0) (b:=j) (by omega) (by omega) ?_
  refine bS (n:=(acc:Int)) (by omega) (by omega) (by omega) (inc (by omega) ?_)
  exact ih (j+1) acc h1 (by omega) ha S1 fun h2 U2 S2=>hq h2 (U1.trans U2 fun _ _ h=>h) S2
theorem nH {l:List Nat} {i b:Nat} (h:l[i]? = some b):l.drop i=b :: l.drop (i+1):=by
 have hl:=aM h
 rw [List.getElem?_eq_getElem hl] at h
 cases h
 exact List.drop_eq_getElem_cons hl
theorem wB {h0':aA} {n:Nat} {k:bL} {c:bY} (hn:n≤16) (hsk:k.skip=false):∀ (m j acc:Nat) (h:aA) (r:RS),j+m=n→acc<2 ^ j→RSt L s h d r out→r.stop=false→k.out=out →
  F=(if j<n then Infl.go L ((Infl.bitsOf s).drop r.at') r.at' (.wait k (.num n j acc) c) else Infl.go L ((Infl.bitsOf s).drop r.at') r.at' (Infl.settle L ((r.at'+7) / 8) 3 (Infl.apply L ((r.at'+7) / 8) k acc c))) →
  (∀ v h' r',v<2 ^ n→RU d h r h' r'→RSt L s h' d r' out→r'.stop=true→jP r' out F→Q (iN v) h') →
  (∀ v h' r',v<2 ^ n→RU d h r h' r'→RSt L s h' d r' out→r'.stop=false→r.at'≤r'.at'→(0<m→r.at'<r'.at')→F=Infl.go L ((Infl.bitsOf s).drop r'.at') r'.at' (Infl.settle L ((r'.at'+7) / 8) 3 (Infl.apply L ((r'.at'+7) / 8) k v c))→Q (iN v) h') →
  Y12.p0 (aH h0' Q) (rp d) n acc j h:=by
 intro m
 induction m with
 | zero =>
  intro j acc h r hj ha S hl ho hF hq0 hq1
  obtain rfl:j=n:=by omega
  rw [if_neg (Nat.lt_irrefl _)] at hF
  refine Y12.i0 ?_
  simp only [Y12.t0]
  exact aL (by simp) (.inl (hq1 acc h r ha (RU.refl _ _ _) S hl (Nat.le_refl _) (fun h=>absurd h (by omega)) hF))
 | succ m ih =>
  intro j acc h r hj ha S hl ho hF hq0 hq1
  have hp:2 ^ j≤2 ^ 16:=Nat.pow_le_pow_right (by decide) (by omega)
  have hjn:2 ^ (j+1)≤2 ^ n:=Nat.pow_le_pow_right (by decide) (by omega)
  have hj1:2 ^ (j+1)=2 * 2 ^ j:=by rw [Nat.pow_succ]; omega
  rw [if_pos (by omega)] at hF
  refine Y12.i0 ?_
  simp only [Y12.t0, ← Y12.p0.eq_1]
  refine aW (by simp; omega) ?_
  refine j1 S (fun e=>by rw [hl] at e; cases e) (fun _ hge h1 U1 S1=>?_) (fun _ hlt b h1 hb hb2 U1 S1=>?_)
  ·refine aC ?_
   rw [wrap_u64 (by omega) (by omega)]
   refine eM (a:=0) (b:=j) (by omega) (by omega) ?_
   refine bS (n:=(acc:Int)) (by omega) (by omega) (by omega) (inc (by omega) ?_)
   refine kJ hn (r:={ r with short:=true }) rfl m (j+1) acc h1 (by omega) (by omega) S1 fun h2 U2 S2=>?_
   refine hq0 acc h2 { r with short:=true } (by omega) (RU.own (U1.trans U2 fun _ _ h=>h) rfl) S2 rfl ?_
   rw [List.drop_eq_nil_of_le (by rw [Infl.bits_len]; omega),Infl.go_nil] at hF
   rw [hF]
   exact ⟨ho,.inl ⟨rfl,rfl⟩⟩
  ·refine aC ?_
   rw [wrap_u64 (by omega) (by omega)]
   have hm:b * 2 ^ j≤1 * 2 ^ j:=Nat.mul_le_mul_right _ (by omega)
   refine eM (a:=b) (b:=j) (by omega) (by omega) ?_
   generalize hB:b * 2 ^ j=B at *
   refine bS (n:=((acc+B:Nat):Int)) (by omega) (by omega) (by omega) (inc (by omega) ?_)
   have hcore:({ k with skip:=false }:bL)=k:=by cases k; simp only at hsk; subst hsk; rfl
   rw [nH hb,Infl.go_bit,if_neg (by simp [hsk]),hcore,Infl.bit_num,hB] at hF
   have hin:r.at' / 8+1=(r.at'+1+7) / 8:=by omega
   refine ih (j+1) (acc+B) h1 { r with at':=r.at'+1 } (by omega) (by omega) S1 hl ho ?_ (fun v h2 r2 hv U2 S2 hs hf=>hq0 v h2 r2 hv ((RU.own U1 rfl).trans U2) S2 hs hf) (fun v h2 r2 hv U2 S2 hs hle hlt2 hf=>hq1 v h2 r2 hv ((RU.own U1 rfl).trans U2) S2 hs (by simp only at hle; omega) (fun _=>by simp only at hle; omega) hf)
   rw [hF, ← hin]
   by_cases hjn2:j+1<n
   ·rw [if_pos hjn2,if_pos hjn2]
   ·rw [if_neg hjn2,if_neg hjn2]
theorem fQ {n:Nat} {k:bL} {c:bY} (hn:n≤16) (hsk:k.skip=false) (S:RSt L s h d r out) (hl:r.stop=false) (ho:k.out=out)
  (hF:F=(if 0<n then Infl.go L ((Infl.bitsOf s).drop r.at') r.at' (.wait k (.num n 0 0) c) else Infl.go L ((Infl.bitsOf s).drop r.at') r.at' (Infl.settle L ((r.at'+7) / 8) 3 (Infl.apply L ((r.at'+7) / 8) k 0 c))))
  (hq0:∀ v h' r',v<2 ^ n→RU d h r h' r'→RSt L s h' d r' out→r'.stop=true→jP r' out F→Q (iN v) h')
  (hq1:∀ v h' r',v<2 ^ n→RU d h r h' r'→RSt L s h' d r' out→r'.stop=false→r.at'≤r'.at'→(0<n→r.at'<r'.at')→F=Infl.go L ((Infl.bitsOf s).drop r'.at') r'.at' (Infl.settle L ((r'.at'+7) / 8) 3 (Infl.apply L ((r'.at'+7) / 8) k v c))→Q (iN v) h') :
  C Y12.id [rp d,iN n] h Q:=by
 refine Y12.call ?_
 simp only [Y12.t, ← Y12.p0.eq_1]
 exact wB hn hsk n 0 0 h r (by omega) (by decide) S hl ho hF hq0 hq1
theorem fO {n:Nat} (hn:n≤16) (hst:r.stop=true) (S:RSt L s h d r out) (hq:∀ h',Upd (· = d) h h'→RSt L s h' d r out→Q (iN 0) h'):C Y12.id [rp d,iN n] h Q:=by
 refine Y12.call ?_
 simp only [Y12.t, ← Y12.p0.eq_1]
 exact kJ hn hst n 0 0 h (by omega) (Nat.pow_pos (by decide)) S hq
theorem e7 (S:RSt L s h d r out) (hq0:r.stop=true→Q (.tu []) h) (hq1:r.stop=false→∀ h',Upd (· = d) h h'→RSt L s h' d { r with e:=2 } out→Q (.tu []) h'):C Y39.id [rp d] h Q:=by
 refine Y39.call ?_
 simp only [Y39.t,bF,bD]
 refine bG S (aV ?_)
 refine aG ?_ ?_ <;> intro e
 ·refine aP S.recd rfl (ltr rfl) (hk := fun h1 l1 U1 R1 => .inl ?_)
  exact hq1 (by simpa using e) h1 U1 (S.with U1 R1 rfl S.le)
 ·exact .inl (hq0 (by simpa using e))
theorem yZ {c : UInt8} (S : RSt L s h d r out) (hq0 : r.stop = true → Q (.tu []) h) (hq1 : r.stop = false → Infl.full L ((r.at' + 7) / 8) out = true → ∀ h', Upd (· = d) h h' → RSt L s h' d { r with e := 16 } out → Q (.tu []) h')
  (hq2:r.stop=false→Infl.full L ((r.at'+7) / 8) out=false→∀ h' v,RU d h r h' { r with outv:=v }→RSt L s h' d { r with outv:=v } (out++[c])→Q (.tu []) h'):C Y34.id [rp d,.i .u8 (c.toNat:Int)] h Q:=by
 have hle:=S.le
 have hsl:=S.sl
 obtain ⟨hl1,hl2⟩:=S.lim
 have hmul:L.ratio * ((r.at'+7) / 8)≤1100 * 1073741824:=Nat.mul_le_mul hl2 (by omega)
 refine Y34.call ?_
 simp only [Y34.t,bF,bD, ← Y34.p0.eq_1]
 refine bG S (aV ?_)
 refine aG ?_ ?_ <;> intro e
 ·exact .inl (hq0 e)
 ·have P0 : ∀ b, b = Infl.full L ((r.at' + 7) / 8) out → Y34.p0 (aH h Q) (rp d) (c.toNat : Int) b h := fun b hb => by
   refine Y34.i0 ?_
   simp only [Y34.t0,bF,bD]
   refine aG ?_ ?_ <;> intro e2
   ·refine aP S.recd rfl (ltr rfl) (hk := fun h1 l1 U1 R1 => .inl ?_)
    exact hq1 e (hb ▸ e2) h1 U1 (S.with U1 R1 rfl S.le)
   ·have hfull : Infl.full L ((r.at' + 7) / 8) out = false := hb ▸ e2
    have hlen:out.length<65536:=by
     unfold Infl.full at hfull
     simp at hfull
     omega
    refine aE S.recd rfl rfl ?_
    refine S.ob.push rfl rfl (by simp; omega) (by simp; omega) fun v h1 U1 S1 N1=>?_
    have R1:=S.recd.upd U1 S.d1
    refine aP R1 rfl (ltr rfl) (hv:=(Stk.kind S1).1) (hs:=(Stk.kind S1).2.1) (hc:=(Stk.kind S1).2.2) (hk:=fun h2 l2 U2 R2=>.inl ?_)
    have hd:=S.recd.lt
    have vd:¬ aQ v d:=fun hs=>by rcases N1 d hs with g | g; exact S.d1 g; omega
    refine hq2 e hfull h2 v ⟨(U1.mono fun i _ h=>.inr h).trans U2 fun i _ h=>.inl h,fun i hi hm=>?_⟩ { recd:=R2,ob:=by rw [List.map_append]; exact S1.upd U2 fun i hi e=>vd (e ▸ hi),d1:=vd,le:=hle,len:=by simp; omega,lim:=S.lim,sl:=hsl }
    rcases hm with hm | hm
    ·exact .inl hm
    ·rcases N1 i hm with g | g
     ·exact .inr g
     ·omega
  refine aE S.recd rfl rfl (aC ?_)
  refine bS (n:=((r.at'+7:Nat):Int)) (by omega) (by omega) (by omega) ?_
  refine kF (n:=(((r.at'+7) / 8:Nat):Int)) (by decide) (by rw [Int.tdiv_eq_ediv_of_nonneg (by omega),bA (by omega) (by omega)]; omega) ?_
  refine aE S.recd rfl rfl (S.ob.rd.len (aE S.recd rfl rfl (aC ?_)))
  refine aG ?_ ?_ <;> intro e2
  ·refine P0 true ?_
   unfold Infl.full
   simp at e2
   simp; omega
  ·refine aE S.recd rfl rfl (S.ob.rd.len (aE S.recd rfl rfl (aC ?_)))
   refine bS (n:=((L.ratio * ((r.at'+7) / 8):Nat):Int)) (by rw [Int.natCast_mul]) (by omega) (by omega) ?_
   refine bS (n:=((L.ratio * ((r.at'+7) / 8)+1024:Nat):Int)) (by omega) (by omega) (by omega) ?_
   refine P0 _ ?_
   unfold Infl.full
   simp at e2
   have:¬ L.output≤out.length:=by omega
   simp only [this,decide_false,Bool.false_or]
   rw [List.length_map,decide_eq_decide]; omega
end
end Go.Proofs.YtpaphfeihpgamaaDoor
namespace Go.Proofs.YtpaphfeihpgamaaDoor
open Go.GAM
open Go.Infl (bL cV bY Out Lim)
section
variable [XR] {h:aA} {Q:AV→aA→Prop} {v:AV} {l:List Nat}
theorem y0 (R:RdI 1 h v (bB l) l.length) (hl:l.length≤320) (hq:Q (iN (Huff.used l)) h) {h0':aA}:∀ (m i:Nat),i+m=l.length→Y18.p0 (aH h0' Q) v (Huff.used (l.take i)) i h:=by
 intro m
 induction m with
 | zero =>
  intro i hi
  obtain rfl:i=l.length:=by omega
  rw [List.take_length]
  refine Y18.i0 ?_
  simp only [Y18.t0]
  exact R.len (aL (by simp) (.inl hq))
 | succ m ih =>
  intro i hi
  obtain ⟨x,hx⟩:∃ x,l[i]? = some x:=⟨_,List.getElem?_eq_getElem (by omega)⟩
  have nxt:=ih (i+1) (by omega)
  rw [dR hx,tD] at nxt
  have k2:=zS (l.take i)
  rw [List.length_take] at k2
  refine Y18.i0 ?_
  simp only [Y18.t0, ← Y18.p1.eq_1]
  refine R.len (aW (by simp; omega) (cO R hx ?_))
  refine aG ?_ ?_ <;> intro e
  ·have e : 0 < x := by simp at e; omega
   rw [if_pos e] at nxt
   refine inc (by omega) (Y18.i1 ?_)
   simp only [Y18.t1, ← Y18.p0.eq_1]
   exact inc (by omega) nxt
  ·have e : ¬ 0 < x := by simp at e; omega
   rw [if_neg e] at nxt
   refine Y18.i1 ?_
   simp only [Y18.t1, ← Y18.p0.eq_1]
   exact inc (by omega) nxt
theorem aFH (R:RdI 1 h v (bB l) l.length) (hl:l.length≤320) (hq:Q (iN (Huff.used l)) h):C Y18.id [v] h Q:=by
 refine Y18.call ?_
 simp only [Y18.t, ← Y18.p0.eq_1]
 exact y0 R hl hq l.length 0 (by omega)
def d8 (n:Nat):Int:=match n with
 | 0=>0
 | 1=>2
 | _=>1
theorem iT {h0':aA} {e:Bool} (he:e=decide (Huff.kr l 15=32768∨Huff.used l=0∨Huff.used l=1∧Huff.kr l 15=16384)) (hk:Huff.kr l 15≤32768) (hq:Q (.i .i64 (d8 (Huff.checkR l))) h):Y7.p3 (aH h0' Q) e h:=by
 refine Y7.i3 ?_
 simp only [Y7.t3]
 unfold Huff.checkR at hq
 rw [if_neg (show ¬ 2 ^ 15<Huff.kr l 15 by omega)] at hq
 by_cases hc:Huff.kr l 15=2 ^ 15∨Huff.used l=0∨Huff.used l=1∧Huff.kr l 15=2 ^ 14
 ·rw [if_pos hc] at hq
  exact aW (by rw [he]; exact decide_eq_true hc) (.inl hq)
 ·rw [if_neg hc] at hq
  exact aL (by rw [he]; exact decide_eq_false hc) (.inl hq)
theorem vU {h0' : aA} (R : RdI 1 h v (bB l) l.length) (hl : l.length ≤ 320) (h15 : ∀ x ∈ l, x ≤ 15) (hq : Q (.i .i64 (d8 (Huff.checkR l))) h) : ∀ (m i : Nat), i + m = l.length → Y7.p0 (aH h0' Q) v (Huff.kr (l.take i) 15) i h := by
  intro m
  induction m with
  | zero =>
    intro i hi
    obtain rfl:i=l.length:=by omega
    rw [List.take_length]
    refine Y7.i0 ?_
    simp only [Y7.t0, ← Y7.p3.eq_1]
    refine R.len (aL (by simp) (aFH R hl (aC ?_)))
    refine aG ?_ ?_ <;> intro e
    · have e : 32768 < Huff.kr l 15 := by simp at e; omega
      unfold Huff.checkR at hq
      rw [if_pos (show 2 ^ 15<Huff.kr l 15 from e)] at hq
      exact .inl hq
    · have e : Huff.kr l 15 ≤ 32768 := by simp at e; omega
      refine aG ?_ ?_ <;> intro e1
      · refine iT ?_ e hq
        simp only [decide_eq_true_eq] at e1
        exact (decide_eq_true (by omega)).symm
      · simp only [decide_eq_false_iff_not] at e1
        refine aG ?_ ?_ <;> intro e2
        · simp only [decide_eq_true_eq] at e2
          exact iT (decide_eq_true (by omega)).symm e hq
        · simp only [decide_eq_false_iff_not] at e2
          refine aG ?_ ?_ <;> intro e3
          · simp only [decide_eq_true_eq] at e3
            refine iT ?_ e hq
            rw [decide_eq_decide]; omega
          · simp only [decide_eq_false_iff_not] at e3
            exact iT (decide_eq_false (by omega)).symm e hq
  | succ m ih =>
    intro i hi
    obtain ⟨x,hx⟩:∃ x,l[i]? = some x:=⟨_,List.getElem?_eq_getElem (by omega)⟩
    have hx15:x≤15:=h15 x (List.mem_of_getElem? hx)
    have nxt:=ih (i+1) (by omega)
    rw [dR hx,tT] at nxt
    have k1:=aE9 (L:=15) (l.take i)
    rw [List.length_take] at k1
    have k3:min i l.length * 2 ^ 15≤320 * 32768:=Nat.mul_le_mul (by omega) (by decide)
    refine Y7.i0 ?_
    simp only [Y7.t0, ← Y7.p1.eq_1]
    refine R.len (aW (by simp; omega) (cO R hx (aL (by simp) (cO R hx ?_))))
    refine Y7.i1 ?_
    simp only [Y7.t1, ← Y7.p2.eq_1]
    refine aL (by simp; omega) (cO R hx ?_)
    refine aG ?_ ?_ <;> intro e
    · have e : 0 < x := by simp at e; omega
      rw [if_pos ⟨e,hx15⟩] at nxt
      have hp:2 ^ (15 - x)≤32768:=Nat.pow_le_pow_right (n:=2) (by decide) (show 15 - x≤15 by omega)
      refine cO R hx ?_
      refine bS (n:=((15 - x:Nat):Int)) (by omega) (by omega) (by omega) ?_
      rw [wrap_u64 (by omega) (by omega)]
      have sh:∀ K:Int→Prop,K ((2 ^ (15 - x):Nat):Int)→jX .i64 1 ((15 - x:Nat):Int) K:=fun K hk=>eM (a:=1) (b:=15 - x) (by omega) (by rw [Nat.one_mul]; omega) (by rw [Nat.one_mul]; exact hk)
      refine sh _ ?_
      generalize 2 ^ (15 - x)=pw at hp nxt
      refine bS (n:=((Huff.kr (l.take i) 15+pw:Nat):Int)) (by omega) (by omega) (by omega) ?_
      refine Y7.i2 ?_
      simp only [Y7.t2, ← Y7.p0.eq_1]
      exact inc (by omega) nxt
    · have e : x = 0 := by simp at e; omega
      subst e
      rw [if_neg (by omega),Nat.add_zero] at nxt
      refine Y7.i2 ?_
      simp only [Y7.t2, ← Y7.p0.eq_1]
      exact inc (by omega) nxt
theorem j3 (R:RdI 1 h v (bB l) l.length) (hl:l.length≤320) (h15:∀ x∈l,x≤15) (hq:Q (.i .i64 (d8 (Huff.checkP l))) h):C Y7.id [v] h Q:=by
 rw [Huff.check_eq h15] at hq
 refine Y7.call ?_
 simp only [Y7.t, ← Y7.p0.eq_1]
 refine R.len (aL (by simp; omega) ?_)
 exact vU R hl h15 hq l.length 0 (by omega)
end
def j5 (l:List Nat) (n i:Nat):List Nat:=(List.range l.length).map fun j=>if 0<l.getD j 0∧(l.getD j 0<n∨l.getD j 0=n∧j<i) then Huff.codeAt l j else 0
theorem rJ (l:List Nat) (n i:Nat):(j5 l n i).length=l.length:=by simp [j5]
theorem pL {l:List Nat} {n i j:Nat} (h:j<l.length):(j5 l n i)[j]? = some (if 0<l.getD j 0∧(l.getD j 0<n∨l.getD j 0=n∧j<i) then Huff.codeAt l j else 0):=by simp [j5,h]
theorem nM {l:List Nat} {n i j:Nat} (h:¬ j<l.length):(j5 l n i)[j]? = none:=by rw [List.getElem?_eq_none]; rw [rJ]; omega
theorem uI {p q:Prop} [Decidable p] [Decidable q] {a b:Nat} (h:p↔q):(if p then a else b)=if q then a else b:=by
 by_cases hp:p
 ·rw [if_pos hp,if_pos (h.1 hp)]
 ·rw [if_neg hp,if_neg fun x=>hp (h.2 x)]
theorem aEA {l:List Nat} {n i:Nat} (hi:i<l.length) (h0:0<n) (hn:l.getD i 0=n):(j5 l n i).set i (Huff.codeAt l i)=j5 l n (i+1):=by
 refine List.ext_getElem? fun j=>?_
 rw [List.getElem?_set]
 by_cases hj:j<l.length
 ·have a1 := pL (n := n) (i := i + 1) hj
  have a2:=pL (n:=n) (i:=i) hj
  rw [a1,a2]
  by_cases e:i=j
  ·subst e
   rw [if_pos rfl,if_pos (by rw [rJ]; exact hj),if_pos ⟨by omega,.inr ⟨hn,by omega⟩⟩]
  ·rw [if_neg e]
   congr 1
   exact uI ⟨fun h=>⟨h.1,h.2.imp id fun h=>⟨h.1,by omega⟩⟩,fun h=>⟨h.1,h.2.imp id fun h=>⟨h.1,by omega⟩⟩⟩
 ·rw [nM hj,if_neg (by omega),nM hj]
theorem aCF {l:List Nat} {n i:Nat} (hn:l.getD i 0≠n):j5 l n (i+1)=j5 l n i:=by
 refine List.map_congr_left fun j _=>uI ?_
 refine ⟨fun h=>⟨h.1,h.2.imp id fun h=>⟨h.1, ?_⟩⟩,fun h=>⟨h.1,h.2.imp id fun h=>⟨h.1,by omega⟩⟩⟩
 rcases Nat.lt_or_ge j i with g | g
 ·exact g
 ·have : j = i := by omega
  exact absurd (this ▸ h.1) hn
theorem aBI (l:List Nat) (n:Nat):j5 l (n+1) 0=j5 l n l.length:=by
 refine List.map_congr_left fun j hj=>uI ?_
 have hj:=List.mem_range.1 hj
 omega
theorem aBJ (l:List Nat):j5 l 1 0=List.replicate l.length 0:=by
 refine List.ext_getElem? fun j=>?_
 by_cases hj:j<l.length
 ·rw [pL hj,if_neg (by omega),List.getElem?_replicate,if_pos hj]
 ·rw [nM hj,List.getElem?_replicate,if_neg hj]
def oH (l:List Nat):List Nat:=j5 l 16 0
theorem tE {l:List Nat} {j:Nat} (h:j<l.length) (h0:0<l.getD j 0) (h15:l.getD j 0≤15):(oH l)[j]? = some (Huff.codeAt l j):=by
 unfold oH
 rw [pL h,if_pos ⟨h0,.inl (by omega)⟩]
section
variable [XR] {h:aA} {Q:AV→aA→Prop} {v:AV} {l:List Nat}
theorem aCW (l:List Nat) (i n:Nat):(l.take i).countP (· == n)≤l.length:=Nat.le_trans List.countP_le_length (by simp; omega)
theorem aAT {h0 h0':aA} (hl:l.length≤320) (R0:RdI 1 h0 v (bB l) l.length) {n:Nat} (hn0:0<n) (hn:n≤15) {w:AV}
  (hq:∀ h',Upd (fun _=>False) h0 h'→cR h' (fun i=>h0.length≤i) w (j5 l n l.length)→Y8.p1 (aH h0' Q) v w (Huff.fin l n) ((n+1:Nat):Int) h') :
  ∀ (m i:Nat) (h:aA),i+m=l.length→Upd (fun _=>False) h0 h→cR h (fun i=>h0.length≤i) w (j5 l n i)→Y8.p2 (aH h0' Q) v w ((Huff.fst l n+(l.take i).countP (· == n):Nat):Int) n i h:=by
 intro m
 induction m with
 | zero =>
  intro i h hi U A
  obtain rfl:i=l.length:=by omega
  rw [List.take_length]
  refine Y8.i2 ?_
  simp only [Y8.t2, ← Y8.p1.eq_1]
  refine (R0.ext U).len (aL (by simp) (inc (by omega) ?_))
  have e:Huff.fst l n+l.countP (· == n)=Huff.fin l n:=by
   obtain ⟨k,rfl⟩:∃ k,n=k+1:=⟨n - 1,by omega⟩
   rfl
  rw [e]
  exact hq h U A
 | succ m ih =>
  intro i h hi U A
  obtain ⟨x,hx⟩:∃ x,l[i]? = some x:=⟨_,List.getElem?_eq_getElem (by omega)⟩
  have hg:l.getD i 0=x:=by rw [List.getD_eq_getElem?_getD,hx] <;> rfl
  have c1:=aCW l i n
  have f1:=mB hl hn
  have nxt:∀ h',Upd (fun _=>False) h0 h'→cR h' (fun i=>h0.length≤i) w (j5 l n (i+1))→Y8.p3 (aH h0' Q) v w ((Huff.fst l n+(l.take (i+1)).countP (· == n):Nat):Int) n i h':=fun h' U' A'=>by
   refine Y8.i3 ?_
   simp only [Y8.t3, ← Y8.p2.eq_1]
   exact inc (by omega) (ih (i+1) h' (by omega) U' A')
  rw [dR hx,List.countP_append] at nxt
  refine Y8.i2 ?_
  simp only [Y8.t2, ← Y8.p3.eq_1]
  refine (R0.ext U).len (aW (by simp; omega) (cO (R0.ext U) hx ?_))
  refine aG ?_ ?_ <;> intro e
  ·have e : x = n := by simp at e; omega
   subst e
   refine A.store (by rw [rJ]; omega) fun h1 l1 U1 A1=>inc (by omega) ?_
   have hc:Huff.codeAt l i=Huff.fst l x+(l.take i).countP (· == x):=by unfold Huff.codeAt; rw [hg]
   rw [← hc,aEA (by omega) hn0 hg] at A1
   have hown:∀ j,aQ w j→h0.length≤j:=fun j hj=>by obtain ⟨id,b,rfl,_,_,_,_,_,g⟩:=A; have e:id=j:=hj; exact e ▸ g
   have:=nxt h1 (U.ownP U1 hown) A1
   simpa [Nat.add_assoc] using this
  ·have e : ¬ x = n := by simp at e; omega
   have:=nxt h U (by rw [aCF (by rw [hg]; exact e)]; exact A)
   simpa [e] using this
theorem yC {h0 h0':aA} (hl:l.length≤320) (R0:RdI 1 h0 v (bB l) l.length) {w:AV} (hq:∀ h',Upd (fun _=>False) h0 h'→cR h' (fun i=>h0.length≤i) w (oH l)→Q w h') :
  ∀ (m n:Nat) (h:aA),n+1+m=16→Upd (fun _=>False) h0 h→cR h (fun i=>h0.length≤i) w (j5 l (n+1) 0)→Y8.p1 (aH h0' Q) v w (Huff.fin l n) ((n+1:Nat):Int) h:=by
 intro m
 induction m with
 | zero =>
  intro n h hn U A
  obtain rfl:n=15:=by omega
  refine Y8.i1 ?_
  simp only [Y8.t1]
  exact aL (by simp) (.inl (hq h U A))
 | succ m ih =>
  intro n h hn U A
  have f1:=mB hl (n:=n+1) (by omega)
  have f2:Huff.fst l (n+1)=2 * Huff.fin l n:=rfl
  refine Y8.i1 ?_
  simp only [Y8.t1, ← Y8.p2.eq_1]
  refine aW (by simp; omega) ?_
  refine bS (n:=((Huff.fst l (n+1)+(l.take 0).countP (· == n+1):Nat):Int)) (by simp; omega) (by omega) (by simp; omega) ?_
  refine aAT hl R0 (n:=n+1) (by omega) (by omega) (fun h' U' A'=>?_) l.length 0 h (by omega) U A
  exact ih (n+1) h' (by omega) U' (by rw [aBI]; exact A')
theorem aCZ (R:RdI 1 h v (bB l) l.length) (hl:l.length≤320) (h15:∀ x∈l,x≤15) (hok:Huff.checkP l≠1) (hq:∀ h' w,Upd (fun _=>False) h h'→cR h' (fun i=>h.length≤i) w (oH l)→Q w h'):C Y8.id [v] h Q:=by
 have P0:Y8.p0 (aH h Q) v false h:=by
  refine Y8.i0 ?_
  simp only [Y8.t0, ← Y8.p1.eq_1]
  refine aL rfl (R.len ?_)
  refine mN (by omega) fun w h1 U1 A1=>?_
  have:=yC hl R (w:=w) (fun h' U A=>hq h' w U A) 15 0 h1 (by omega) U1 (by rw [aBJ]; exact A1) (h0':=h)
  exact this
 refine Y8.call ?_
 simp only [Y8.t, ← Y8.p0.eq_1]
 refine j3 R hl h15 (aC ?_)
 have hck:d8 (Huff.checkP l)=0∨d8 (Huff.checkP l)=1:=by
  unfold d8
  split
  ·exact .inl rfl
  ·rename_i e; exact absurd e hok
  ·exact .inr rfl
 rcases hck with e | e
 ·rw [e]; exact aL rfl P0
 ·rw [e]; exact aW rfl P0
structure eF (h:aA) (G:Nat→Prop) (id:Nat) (l:List Nat) (lv cv:AV) (n x:Nat):Prop where
 recd:bC h id [lv,cv,iN n,iN x]
 lens:RdI 1 h lv (bB l) l.length
 codes:RdI 1 h cv (bB (oH l)) (oH l).length
 g:G id
 gl:∀ i,aQ lv i→G i∧i≠id∧i<h.length
 gc:∀ i,aQ cv i→G i∧i≠id∧i<h.length
 ok:Huff.checkP l=0
 len:l.length≤320
 le:∀ x∈l,x≤15
theorem eF.upd {h h':aA} {G G' N:Nat→Prop} {id n x:Nat} {l:List Nat} {lv cv:AV} (A:eF h G id l lv cv n x) (U:Upd N h h') (hN:∀ i,G i→¬ N i) (hG:∀ i,i<h.length→G i→G' i):eF h' G' id l lv cv n x:=
 { A with recd:=A.recd.upd U (hN id A.g),lens:=A.lens.upd U fun i hi=>hN i (A.gl i hi).1,codes:=A.codes.upd U fun i hi=>hN i (A.gc i hi).1,g:=hG id A.recd.lt A.g,gl:=fun i hi=>⟨hG i (A.gl i hi).2.2 (A.gl i hi).1,(A.gl i hi).2.1,Nat.lt_of_lt_of_le (A.gl i hi).2.2 U.1⟩,gc:=fun i hi=>⟨hG i (A.gc i hi).2.2 (A.gc i hi).1,(A.gc i hi).2.1,Nat.lt_of_lt_of_le (A.gc i hi).2.2 U.1⟩ }
abbrev kp (c:Nat):AV:=.p (some ⟨c,4,0⟩)
theorem nU (R:RdI 1 h v (bB l) l.length) (hlt:∀ i,aQ v i→i<h.length) (hvk:v.parts=[v]∧v.sizeOK=true∧v.cellOK=true) (hl:l.length≤320) (h15:∀ x∈l,x≤15) (hq0:Huff.checkP l≠0→∀ e:Int,Q (.tu [.p none,.i .i64 e]) h)
  (hq:Huff.checkP l=0→∀ h' id cv,Upd (fun _=>False) h h'→eF h' (fun i=>aQ v i∨h.length≤i) id l v cv 0 0→h.length≤id→(∀ i,aQ cv i→h.length≤i)→Q (.tu [kp id,iN 0]) h'):C Y48.id [v] h Q:=by
 refine Y48.call ?_
 simp only [Y48.t]
 refine j3 R hl h15 (aC ?_)
 by_cases hok:Huff.checkP l=0
 ·rw [hok]
  refine aL rfl (aCZ R hl h15 (by rw [hok]; decide) fun h1 cv U1 A1=>?_)
  have hcvk:cv.parts=[cv]∧cv.sizeOK=true:=by obtain ⟨id,b,rfl,_⟩:=A1; exact ⟨rfl,rfl⟩
  have hcv:∀ i,aQ cv i→h.length≤i∧i<h1.length:=fun i hi=>by
   refine ⟨?_,A1.rd.lt hi⟩
   obtain ⟨id,b,rfl,_,_,_,_,_,g⟩:=A1
   have e:id=i:=hi
   exact e ▸ g
  refine aAI (cs:=[v,cv,iN 0,iN 0]) ?_ ?_
  ·unfold eQ
   rw [hvk.1,hvk.2.1]
   simp only [List.length_cons,List.length_nil,List.zipIdx_cons,List.zipIdx_nil,List.foldl_cons,List.foldl_nil,List.set_cons_zero,Nat.zero_add]
   unfold eQ
   rw [hcvk.1,hcvk.2]
   first | done | rfl
  refine bQ (hk:=fun h2 l2 U2 R2=>.inl (hq hok h2 h1.length cv (U1.then U2) ?_ U1.1 fun i hi=>(hcv i hi).1))
  have U:=U1.then U2
  have hl1:=U1.1
  exact { recd:=R2,lens:=R.ext U,codes:=by rw [← aY]; exact (by have:=(A1.rd.i).ext U2; rw [aY]; exact this),g:=.inr U1.1,gl:=fun i hi=>⟨.inl hi,by have:=hlt i hi; omega,by have:=hlt i hi; omega⟩,gc:=fun i hi=>⟨.inr (hcv i hi).1,by have:=(hcv i hi).2; omega,by have:=(hcv i hi).2; omega⟩,ok:=hok,len:=hl,le:=h15 }
 ·have e : d8 (Huff.checkP l) ≠ 0 := by
   unfold d8
   split
   ·contradiction
   ·decide
   ·decide
  exact aW (by simp [e]) (.inl (hq0 hok _))
theorem yW {h0' : aA} {G : Nat → Prop} {id N X : Nat} {lv cv : AV} (A : eF h G id l lv cv N X) (hN0 : 0 < N) (hN : N ≤ 16) (hX : X < 2 ^ 16)
  (hq:match Huff.stepR l N X with
   | .sym i=>i<l.length→∀ h',Upd (· = id) h h'→bC h' id [lv,cv,iN 0,iN 0]→Q (.tu [iN i,.b true,iN 0]) h'
   | .more=>Q (.tu [iN 0,.b false,iN 0]) h
   | .bad=>∀ h',Upd (· = id) h h'→bC h' id [lv,cv,iN 0,iN 0]→Q (.tu [iN 0,.b false,iN 2]) h') :
  ∀ (m i : Nat), i + m = l.length → (∀ j, j < i → (l.getD j 0 == N && Huff.codeAt l j == X) = false) →
   Y11.p0 (aH h0' Q) (kp id) ((List.range i).any fun j=>decide (N<l.getD j 0)&&(Huff.codeAt l j >>> (l.getD j 0 - N)) == X) i h:=by
 intro m
 induction m with
 | zero =>
  intro i hi hno
  obtain rfl:i=l.length:=by omega
  have hf:(List.range l.length).find? (fun i=>l.getD i 0 == N&&Huff.codeAt l i == X)=none:=by
   rw [List.find?_eq_none]
   intro j hj
   rw [hno j (by simpa using hj)]; simp
  unfold Huff.stepR at hq
  rw [hf] at hq
  refine Y11.i0 ?_
  simp only [Y11.t0,bF,bD]
  refine aE A.recd rfl rfl (A.lens.len (aL (by simp) ?_))
  refine aG ?_ ?_ <;> intro e
  ·simp only [e, if_true] at hq
   exact .inl hq
  ·simp only [e, Bool.false_eq_true, if_false] at hq
   refine aP A.recd rfl (ltr rfl) (hk:=fun h1 l1 U1 R1=>?_)
   refine aP R1 rfl (ltr rfl) (hk:=fun h2 l2 U2 R2=>.inl (hq h2 (U1.trans U2 fun _ _ h=>h) R2))
 | succ m ih =>
  intro i hi hno
  obtain ⟨y,hy⟩:∃ y,l[i]? = some y:=⟨_,List.getElem?_eq_getElem (by omega)⟩
  have hg:l.getD i 0=y:=by rw [List.getD_eq_getElem?_getD,hy] <;> rfl
  have hy15:=A.le y (List.mem_of_getElem? hy)
  have hil:i<l.length:=aM hy
  have hcb:Huff.codeAt l i<2 ^ 40:=by
   unfold Huff.codeAt
   rw [hg]
   have:=mB A.len hy15
   have h2:(l.take i).countP (· == y)≤l.length:=Nat.le_trans List.countP_le_length (by simp; omega)
   have:=A.len
   omega
  have nxt:∀ t,t=((List.range i).any (fun j=>decide (N<l.getD j 0)&&(Huff.codeAt l j >>> (l.getD j 0 - N)) == X)||(decide (N<y)&&(Huff.codeAt l i >>> (y - N)) == X))→(l.getD i 0 == N&&Huff.codeAt l i == X)=false→Y11.p3 (aH h0' Q) (kp id) t i h:=fun t ht hne=>by
   refine Y11.i3 ?_
   simp only [Y11.t3, ← Y11.p0.eq_1]
   refine inc (by have:=A.len; omega) ?_
   have:=ih (i+1) (by omega) fun j hj=>by
    by_cases e:j=i
    ·rw [e]; exact hne
    ·exact hno j (by omega)
   rw [List.range_succ,List.any_append] at this
   simp only [List.any_cons,List.any_nil,Bool.or_false,hg] at this
   rw [ht]; exact this
  have P1:∀ t,t=(l.getD i 0 == N&&Huff.codeAt l i == X)→Y11.p1 (aH h0' Q) (kp id) ((List.range i).any fun j=>decide (N<l.getD j 0)&&(Huff.codeAt l j >>> (l.getD j 0 - N)) == X) i t h:=fun t ht=>by
   refine Y11.i1 ?_
   simp only [Y11.t1,bF,bD, ← Y11.p2.eq_1]
   refine aG ?_ ?_ <;> intro e
   ·have hf : (List.range l.length).find? (fun i => l.getD i 0 == N && Huff.codeAt l i == X) = some i := by
     rw [List.find?_range_eq_some]
     refine ⟨by rw [← ht]; exact e,by simpa using hil,fun j hj=>by rw [hno j hj] <;> rfl⟩
    unfold Huff.stepR at hq
    rw [hf] at hq
    refine aP A.recd rfl (ltr rfl) (hk:=fun h1 l1 U1 R1=>?_)
    refine aP R1 rfl (ltr rfl) (hk:=fun h2 l2 U2 R2=>.inl (hq hil h2 (U1.trans U2 fun _ _ h=>h) R2))
   ·refine aE A.recd rfl rfl (cO A.lens hy ?_)
    refine aE A.recd rfl rfl (aC ?_)
    have hne:(l.getD i 0 == N&&Huff.codeAt l i == X)=false:=by rw [← ht]; exact e
    have P2:∀ t,t=(decide (N<y)&&(Huff.codeAt l i >>> (y - N)) == X)→Y11.p2 (aH h0' Q) (kp id) ((List.range i).any fun j=>decide (N<l.getD j 0)&&(Huff.codeAt l j >>> (l.getD j 0 - N)) == X) i t h:=fun t ht=>by
     refine Y11.i2 ?_
     simp only [Y11.t2, ← Y11.p3.eq_1]
     refine aG ?_ ?_ <;> intro e
     ·exact nxt true (by rw [← ht,e]; simp) hne
     ·exact nxt _ (by rw [← ht,e]; simp) hne
    refine aG ?_ ?_ <;> intro e2
    ·have e2 : N < y := by simp at e2; omega
     refine aE A.recd rfl rfl (cO A.codes (tE hil (by omega) (by omega)) ?_)
     refine aE A.recd rfl rfl (cO A.lens hy ?_)
     refine aE A.recd rfl rfl (aC ?_)
     refine bS (n:=((y - N:Nat):Int)) (by omega) (by omega) (by omega) ?_
     rw [wrap_u64 (by omega) (by omega)]
     refine oB (a:=Huff.codeAt l i) (b:=y - N) (by show y - N≤64; omega) ?_
     refine aE A.recd rfl rfl (aC (P2 _ ?_))
     rw [decide_eq_true e2,Bool.true_and,Nat.shiftRight_eq_div_pow,Bool.eq_iff_iff]
     generalize Huff.codeAt l i / 2 ^ (y - N)=z
     simp; omega
    ·have e2 : ¬ N < y := by simp at e2; omega
     exact P2 _ (by rw [decide_eq_false e2] <;> rfl)
  refine Y11.i0 ?_
  simp only [Y11.t0,bF,bD, ← Y11.p1.eq_1]
  refine aE A.recd rfl rfl (A.lens.len (aW (by simp; omega) ?_))
  refine aE A.recd rfl rfl (cO A.lens hy ?_)
  refine aE A.recd rfl rfl (aC ?_)
  refine aG ?_ ?_ <;> intro e
  ·have e : y = N := by simp at e; omega
   refine aE A.recd rfl rfl (cO A.codes (tE hil (by omega) (by omega)) ?_)
   refine aE A.recd rfl rfl (aC (P1 _ ?_))
   rw [hg,e,beq_self_eq_true,Bool.true_and,Bool.eq_iff_iff]
   simp; omega
  ·have e : ¬ y = N := by simp at e; omega
   refine P1 _ ?_
   rw [hg]
   simp [e]
theorem aGG {G:Nat→Prop} {id n x b:Nat} {lv cv:AV} (A:eF h G id l lv cv n x) (hn:n≤15) (hx:x<2 ^ n) (hb:b<2)
  (hq:∀ h',Upd (· = id) h h'→match Huff.stepR l (n+1) (2 * x+b) with
   | .sym i=>i<l.length→eF h' G id l lv cv 0 0→Q (.tu [iN i,.b true,iN 0]) h'
   | .more=>eF h' G id l lv cv (n+1) (2 * x+b)→Q (.tu [iN 0,.b false,iN 0]) h'
   | .bad=>eF h' G id l lv cv 0 0→Q (.tu [iN 0,.b false,iN 2]) h'):C Y11.id [kp id,iN b] h Q:=by
 have hx15:x<2 ^ 15:=Nat.lt_of_lt_of_le hx (Nat.pow_le_pow_right (by decide) hn)
 have mk:∀ {h1 n' x'},Upd (· = id) h h1→bC h1 id [lv,cv,iN n',iN x']→eF h1 G id l lv cv n' x':=fun {h1 n' x'} U R=>{ A with recd:=R,lens:=A.lens.upd U fun i hi e=>(A.gl i hi).2.1 e,codes:=A.codes.upd U fun i hi e=>(A.gc i hi).2.1 e,gl:=fun i hi=>⟨(A.gl i hi).1,(A.gl i hi).2.1,Nat.lt_of_lt_of_le (A.gl i hi).2.2 U.1⟩,gc:=fun i hi=>⟨(A.gc i hi).1,(A.gc i hi).2.1,Nat.lt_of_lt_of_le (A.gc i hi).2.2 U.1⟩ }
 refine Y11.call ?_
 simp only [Y11.t, ← Y11.p0.eq_1]
 refine dI (by kernel_rfl) (aV (aL rfl ?_))
 simp only [bF,bD]
 refine aE A.recd rfl rfl (aC (inc (by omega) ?_))
 refine aP A.recd rfl (ltr rfl) (hk:=fun h1 l1 U1 R1=>?_)
 refine aE R1 rfl rfl (aC ?_)
 refine bS (n:=((2 * x:Nat):Int)) (by omega) (by omega) (by omega) ?_
 have hand:bO .and .i64 (b:Int) 1=(b:Int):=by
  have:=fW (x:=b) (y:=1) (by omega) (by decide)
  rw [z7 hb] at this
  exact this
 rw [hand]
 refine bS (n:=((2 * x+b:Nat):Int)) (by omega) (by omega) (by omega) ?_
 refine aP R1 rfl (ltr rfl) (hk:=fun h2 l2 U2 R2=>?_)
 have U:=U1.trans U2 fun _ _ h=>h
 have A2:eF h2 G id l lv cv (n+1) (2 * x+b):=mk U R2
 refine yW A2 (by omega) (by omega) (by omega) ?_ l.length 0 (by omega) fun j hj=>by omega
 cases hs:Huff.stepR l (n+1) (2 * x+b) with
 | sym i =>
  intro hi h3 U3 R3
  have:=hq h3 (U.trans U3 fun _ _ h=>h)
  rw [hs] at this
  exact this hi (mk (U.trans U3 fun _ _ h=>h) R3)
 | more =>
  have:=hq h2 U
  rw [hs] at this
  exact this A2
 | bad =>
  intro h3 U3 R3
  have:=hq h3 (U.trans U3 fun _ _ h=>h)
  rw [hs] at this
  exact this (mk (U.trans U3 fun _ _ h=>h) R3)
end
end Go.Proofs.YtpaphfeihpgamaaDoor
