/- Lemmas (several texts in one). -/
import Derived.Test.YtpaphfeihpgamaaDoorRows
import Derived.OpenShut
import Derived.Test.YtpaphfeihpgamaaDoorMg3
set_option linter.unusedVariables false
set_option linter.unusedSimpArgs false
set_option linter.unusedSectionVars false
set_option maxRecDepth 20000
namespace Go.Proofs.YtpaphfeihpgamaaDoor
open Go.GAM
theorem dG.mono {h:aA} {G G':Nat→Prop} {v:AV} {l:List Nat} (A:dG h G v l) (hG:∀ i,i<h.length→G i→G' i):dG h G' v l:=A.upd (Upd.refl (fun _=>False) h) (fun _ _ h=>h) hG
theorem dG.rd {h:aA} {G:Nat→Prop} {v:AV} {l:List Nat} (A:dG h G v l):Rd 1 h v (bB l) l.length:=by
 obtain ⟨id,b,rfl,h1,h2,h3,h4,h5,g⟩:=A
 have e:b.cells.length=l.length:=by rw [h2,aT]
 exact .inr ⟨id,_,0,none,b,rfl,h1,.inl h5,by omega,by omega,by omega,by rw [h2,List.drop_zero,Nat.mul_one, ← aT l,List.take_length]⟩
theorem pM {h:aA} {K:AV→aA→Prop} {n:Nat} (hn:n≤1000) (hk:∀ v h',Upd (fun _=>False) h h'→dG h' (fun i=>h.length≤i) v (List.replicate n 0)→K v h'):nD 1 8 [.i .i64 0] (.i .i64 (n:Int)) (.i .i64 (n:Int)) h K:=by
 refine ⟨by omega,by omega,by omega,by omega,rfl,Nat.one_pos, ?_⟩
 refine hk _ _ (Upd.app _ _) ⟨h.length,aZ (List.replicate n (.i .i64 0)) 1 true, ?_, ?_, ?_, ?_,rfl,rfl,Nat.le_refl _⟩
 ·rw [Int.toNat_natCast,Nat.mul_one,List.length_replicate]
 ·rw [Int.toNat_natCast,t6,List.getElem?_append_right (Nat.le_refl _),Nat.sub_self] <;> rfl
 ·simp [aZ,bB]
 ·simp [aZ]
theorem sG:∀ (ws pre cs:List AV),ws.length≤cs.length→wr (pre++cs) pre.length ws=pre++(ws++cs.drop ws.length)
 | [],pre,cs,h=>by simp [wr]
 | w :: ws,pre,[],h=>by simp at h
 | w :: ws, pre, c :: cs, h => by
  simp only [wr]
  have e:(pre++c :: cs).set pre.length w=(pre++[w])++cs:=by simp
  rw [e]
  have:=sG ws (pre++[w]) cs (by simpa using h)
  simpa using this
theorem aDY:∀ n:Fin 300,bP .and .u64 ((n.1:Nat):Int) 4294967295=(n.1:Int)∧((n.1:Nat):Int).fdiv (2 ^ (min (32:Int).toNat IntKind.u64.bits))=0∧IntKind.wrap .u64 (1 * ((n.1:Nat):Int))=(n.1:Int):=by decide +kernel
section
variable [XR] {h:aA} {Q:AV→aA→Prop}
theorem aFB {n:Nat} (hn:n<300) (hq:Q (.tu [.i .u64 0,.i .u64 (n:Int)]) h):C Y59.id [.i .u64 1,.i .u64 (n:Int)] h Q:=by
 obtain ⟨m1,m2,m3⟩:=aDY ⟨n,hn⟩
 simp only at m1 m2 m3
 refine Y59.call ?_
 simp only [Y59.t]
 refine Y66.call ?_
 simp only [Y66.t]
 have z:Int.fdiv 0 (2 ^ (min (32:Int).toNat IntKind.u64.bits))=0:=by decide
 have o:Int.fdiv 1 (2 ^ (min (32:Int).toNat IntKind.u64.bits))=0:=by decide
 refine aM (n:=1) (by decide) ⟨by decide, ?_⟩
 rw [o]
 refine aM m1 ⟨by decide, ?_⟩
 rw [m2]
 refine aM m3 (aM (n:=0) (by rw [Int.zero_mul]; decide) ⟨by decide, ?_⟩)
 rw [m2]
 refine aM (n:=0) (by decide) (aM (n:=0) (by decide) ⟨by decide, ?_⟩)
 rw [z]
 refine aM (n:=0) (by decide) (aM (n:=0) (by decide) (aM (n:=0) (by decide) (aM (n:=0) (by decide) ⟨by decide, ?_⟩)))
 rw [z]
 refine aM (n:=0) (by decide) (aM m3 (.inl ?_))
 exact ⟨by simp,kS ⟨by simp,kS (.inl hq)⟩⟩
theorem aB5 {h0 : aA} {n y : Nat} (hn : n < 300) (hq : ∀ h' v, Upd (fun _ => False) h0 h' → dG h' (fun i => h0.length ≤ i) v (List.replicate n y) → Q v h') :
  ∀ (f m:Nat) (h:aA) (v:AV),0<m→m+f=n→Upd (fun _=>False) h0 h→dG h (fun i=>h0.length≤i) v (List.replicate m y++List.replicate f 0)→Y17.p1 (aK h0 Q) v m h:=by
 intro f
 induction f using Nat.strongRecOn with
 | _ f ih =>
  intro m h v hm hmf U A
  refine Y17.i1 ?_
  simp only [Y17.t1, ← Y17.p1.eq_1]
  refine A.rd.len ?_
  have hlen:(List.replicate m y++List.replicate f 0).length=n:=by simp; omega
  rw [hlen]
  by_cases hf:f=0
  ·subst hf
   refine aV (by simp; omega) (.inl (hq h v U ?_))
   rw [List.replicate_zero,List.append_nil,show m=n by omega] at A
   exact A
  ·refine bA (by simp; omega) ?_
   obtain ⟨id,b,rfl,h1,h2,h3,h4,h5,g⟩:=A
   have hbl:b.cells.length=n:=by rw [h2,aT,hlen]
   rw [hlen] at h3 ⊢
   refine ⟨Nat.one_pos,(fun hh=>by cases hh),⟨by omega,by simp; omega,b,h1,by omega,by show b.floor≤n; omega,.inl h5,.inl (Nat.le_refl _), ?_⟩⟩
   refine ⟨Nat.one_pos,(fun hh=>by cases hh),⟨by omega,Nat.zero_le _,b,h1,by omega,by show b.floor≤n; omega,.inl h5,.inl (by simp; omega), ?_⟩⟩
   rw [Int.toNat_natCast]
   have hnews:∀ K:List AV→Nat→Prop,K (bB (List.replicate m y)) m→eF 1 (.sl (some ⟨id,n,0+0 * 1⟩) (m - 0) (Option.map (fun x=>x - 0) (none:Option Nat))) h K:=fun K hk=>by
    refine .inr ⟨b,h1,⟨by simp only; omega,by simp only; omega,by simp only; omega⟩, ?_⟩
    rw [h2,eQ]
    have:((bB (List.replicate m y)++bB (List.replicate f 0)).drop (0+0 * 1)).take ((m - 0) * 1)=bB (List.replicate m y):=by
     rw [show 0+0 * 1=0 from rfl,List.drop_zero,show (m - 0) * 1=m by omega]
     exact List.take_left' (by simp [bB])
    simp only [this]
    exact hk
   refine ⟨Nat.one_pos,hnews _ ?_⟩
   refine ⟨b,h1,h5,⟨by simp only; omega,by simp only; omega,by simp only; omega⟩,h4,by simp only; omega, ?_, ?_⟩
   ·rw [List.all_eq_true]
    intro x hx
    exact List.all_eq_true.1 (jX (List.replicate m y)) x (List.mem_of_mem_take hx)
   refine aD ?_
   refine dM (n:=((m+min m f:Nat):Int)) (by omega) (by omega) (by omega) ?_
   refine ih (f - min m f) (by omega) (m+min m f) _ _ (by omega) (by omega) (U.own (Upd.set _ _ _) g) ?_
   have hl2:(List.replicate (m+min m f) y++List.replicate (f - min m f) 0).length=n:=by simp; omega
   have hcells:wr b.cells (0+m * 1) ((bB (List.replicate m y)).take (min m (n - m) * 1))=bB (List.replicate (m+min m f) y++List.replicate (f - min m f) 0):=by
    rw [h2,eQ]
    have:=sG ((bB (List.replicate m y)).take (min m (n - m) * 1)) (bB (List.replicate m y)) (bB (List.replicate f 0)) (by rw [List.length_take,aT,aT]; simp; omega)
    rw [aT,List.length_replicate] at this
    rw [show 0+m * 1=m by omega,this]
    rw [List.length_take,aT,List.length_replicate,show n - m=f by omega]
    unfold bB
    rw [← List.map_take, ← List.map_drop,List.take_replicate,List.drop_replicate, ← List.map_append, ← List.map_append]
    congr 1
    rw [show min (min m f * 1) m=min m f by omega, ← List.append_assoc,List.replicate_append_replicate]
   refine ⟨id,{ b with cells:=wr b.cells (0+m * 1) ((bB (List.replicate m y)).take (min m (n - m) * 1)),floor:=b.cells.length }, ?_, ?_,hcells, ?_,h4,h5,g⟩
   ·rw [hl2]
   ·rw [List.getElem?_set_self (aI h1)]
   ·show b.cells.length≤_; rw [hl2]; omega
theorem sP {x:AV} {n y:Nat} (R:RdI 1 h x (bB [y]) 1) (h0:0<n) (hn:n<300) (hq:∀ h' v,Upd (fun _=>False) h h'→dG h' (fun i=>h.length≤i) v (List.replicate n y)→Q v h') :
  C Y17.id [x,iN n] h Q:=by
 refine Y17.call ?_
 simp only [Y17.t, ← Y17.p0.eq_1]
 refine aV (by simp) (R.len ?_)
 have e1:IntKind.wrap .u64 ((1:Nat):Int)=1:=by decide
 have e2:IntKind.wrap .u64 (n:Int)=(n:Int):=by have:=(aDY ⟨n,hn⟩).2.2; rw [Int.one_mul] at this; exact this
 rw [e1,e2]
 refine aFB hn ⟨by simp,kS ⟨by simp,kS ?_⟩⟩
 refine aV rfl ?_
 refine Y17.i0 ?_
 simp only [Y17.t0, ← Y17.p1.eq_1]
 refine aV (by simp; omega) ?_
 rw [aW (by omega) (by omega)]
 refine pM (by omega) fun v h1 U1 A1=>?_
 have R1:=R.ext U1
 refine ⟨Nat.one_pos,R1.news ?_⟩
 obtain ⟨id,b,rfl,k1,k2,k3,k4,k5,g⟩:=A1
 have hbl:b.cells.length=n:=by rw [k2,aT]; simp
 rw [List.length_replicate] at k3 ⊢
 refine ⟨b,k1,k5,⟨by simp only; omega,by simp only; omega,by simp only; omega⟩,k4,by simp only; omega, ?_, ?_⟩
 ·rw [List.all_eq_true]
  intro x hx
  exact List.all_eq_true.1 (jX [y]) x (List.mem_of_mem_take hx)
 refine aD ?_
 rw [show min 1 n=1 by omega]
 refine aB5 hn hq (n - 1) 1 _ _ (by omega) (by omega) (U1.own (Upd.set _ _ _) g) ?_
 refine ⟨id,{ b with cells:=wr b.cells 0 ((bB [y]).take (1 * 1)),floor:=b.cells.length }, ?_,by rw [List.getElem?_set_self (aI k1)], ?_, ?_,k4,k5,g⟩
 ·simp; omega
 ·show wr b.cells 0 (bB [y]) = _
  rw [k2]
  have:=sG (bB [y]) [] (bB (List.replicate n 0)) (by rw [aT,aT]; simp; omega)
  simp only [List.nil_append,List.length_nil] at this
  rw [this,eQ,aT]
  unfold bB
  rw [← List.map_drop,List.drop_replicate] <;> rfl
 ·show b.cells.length≤_; simp; omega
theorem xY:∀ i,i<288→Infl.fixedL[i]? = some (if i<144∨280≤i then 8 else if i<256 then 9 else 7):=by decide +kernel
theorem vZ {h0 : aA} (hq : ∀ h' v w, Upd (fun _ => False) h0 h' → RdI 1 h' v (bB Infl.fixedL) Infl.fixedL.length → RdI 1 h' w (bB Infl.fixedD) Infl.fixedD.length → (∀ j, aQ v j → h0.length ≤ j) → (∀ j, aQ w j → h0.length ≤ j) → Q (.tu [v, w]) h') :
  ∀ (m i:Nat) (h:aA) (v:AV),i+m=288→Upd (fun _=>False) h0 h→Stk h v (bB (Infl.fixedL.take i))→(∀ j,aQ v j→h0.length≤j)→Y10.p0 (aK h0 Q) v i h:=by
 intro m
 induction m with
 | zero =>
  intro i h v hi U S N
  obtain rfl:i=288:=by omega
  refine Y10.i0 ?_
  simp only [Y10.t0]
  refine aV (by decide) ?_
  refine eS (cs:=bB [5]) rfl rfl fun y h1 l1 U1 R1 F1=>?_
  have S1:=S.upd U1 fun _ _ h=>h
  refine sP (n:=32) (y:=5) R1.i (by decide) (by decide) fun h2 w U2 A2=>?_
  have S2:=S1.upd U2 fun _ _ h=>h
  refine .inl (hq h2 v w ((U.then U1).then U2) ?_ A2.rd.i N fun j hj=>?_)
  rotate_left
  ·obtain ⟨id, b, rfl, _, _, _, _, _, g⟩ := A2
   cases hj
   have g:h1.length≤id:=g
   have:=U.1
   show h0.length≤id
   omega
  have:=S2.rd.i
  rw [aT,show Infl.fixedL.take 288=Infl.fixedL from by decide +kernel] at this
  exact this
 | succ m ih =>
  intro i h v hi U S N
  have hil:(Infl.fixedL.take i).length≤288:=by rw [List.length_take]; omega
  have hL:=xY i (by omega)
  have push:∀ (c:Nat),Infl.fixedL[i]? = some c→∀ (K:AV→aA→Prop),(∀ v' h',Y10.p2 (aK h0 Q) v' i h'→K v' h')→(bQ 1 1 [.i .i64 0] [(0,1,iN c)] h fun y h1=>bU none 1 8 v y h1 K):=fun c hc K hk=>by
   refine S.push rfl rfl (by rw [aT]; omega) (by rw [aT]; omega) fun v' h' U' S' N'=>hk v' h' ?_
   refine Y10.i2 ?_
   simp only [Y10.t2, ← Y10.p0.eq_1]
   refine inc (by omega) (ih (i+1) h' v' (by omega) (U.ownP U' N) ?_ fun j hj=>?_)
   ·rw [fH hc,eQ]; exact S'
   ·rcases N' j hj with g | g
    ·exact N j g
    ·have:=U.1; omega
  have P1:∀ t,t=decide (i<144∨280≤i)→Y10.p1 (aK h0 Q) v i i t h:=fun t ht=>by
   refine Y10.i1 ?_
   simp only [Y10.t1, ← Y10.p2.eq_1]
   by_cases hc:i<144∨280≤i
   ·rw [decide_eq_true hc] at ht
    rw [if_pos hc] at hL
    exact bA ht (push 8 hL _ fun v' h' hp=>hp)
   ·rw [decide_eq_false hc] at ht
    rw [if_neg hc] at hL
    refine aV ht ?_
    refine aP ?_ ?_ <;> intro e
    ·rw [if_pos (by simp at e; omega)] at hL
     exact push 9 hL _ fun v' h' hp=>hp
    ·rw [if_neg (by simp at e; omega)] at hL
     exact push 7 hL _ fun v' h' hp=>hp
  refine Y10.i0 ?_
  simp only [Y10.t0, ← Y10.p1.eq_1]
  refine bA (by simp; omega) ?_
  refine aP ?_ ?_ <;> intro e
  ·exact P1 _ (decide_eq_true (by simp at e; omega)).symm
  ·refine P1 _ ?_
   simp only [decide_eq_false_iff_not] at e
   rw [decide_eq_decide]; omega
theorem i9 (hq:∀ h' v w,Upd (fun _=>False) h h'→RdI 1 h' v (bB Infl.fixedL) Infl.fixedL.length→RdI 1 h' w (bB Infl.fixedD) Infl.fixedD.length→(∀ j,aQ v j→h.length≤j)→(∀ j,aQ w j→h.length≤j)→Q (.tu [v,w]) h'):C Y10.id [] h Q:=by
 refine Y10.call ?_
 simp only [Y10.t, ← Y10.p0.eq_1]
 exact vZ hq 288 0 h _ rfl (Upd.refl _ _) (.inl ⟨rfl,rfl⟩) fun _ h=>h.elim
end
end Go.Proofs.YtpaphfeihpgamaaDoor
namespace Go.Proofs.YtpaphfeihpgamaaDoor
open Go.GAM
open Go.Infl (bS cZ b8 Out Lim)
theorem pQ:∀ x,x<286→257≤x→(Infl.least x).1+2 ^ (Infl.least x).2≤300∧(Infl.least x).2≤16:=by decide +kernel
theorem vN:∀ x,x<30→0<(Infl.farOf x).1∧(Infl.farOf x).1+2 ^ (Infl.farOf x).2≤32769∧(Infl.farOf x).2≤16:=by decide +kernel
section
variable [XR] {h:aA} {Q:AV→aA→Prop} {L:Lim} {F:Nat→Prop} {d:Nat} {r:DR} {out:List UInt8} {told:Nat}
theorem oZ {x:Nat} (h1:257≤x) (h2:x≤285) (hq:Q (.tu [iN (Infl.least x).1,iN (Infl.least x).2]) h):C Y33.id [iN x] h Q:=by
 refine Y33.call ?_
 simp only [Y33.t]
 unfold Infl.least at hq
 refine aP ?_ ?_ <;> intro e
 ·have e : x ≤ 264 := by simp at e; omega
  rw [if_pos e] at hq
  exact dM (n:=((x - 254:Nat):Int)) (by omega) (by omega) (by omega) (.inl hq)
 ·have e : ¬ x ≤ 264 := by simp at e; omega
  rw [if_neg e] at hq
  refine aP ?_ ?_ <;> intro e2
  ·have e2 : x = 285 := by simp at e2; omega
   rw [if_pos e2] at hq
   exact .inl hq
  ·have e2 : ¬ x = 285 := by simp at e2; omega
   rw [if_neg e2] at hq
   refine dM (n:=((x - 261:Nat):Int)) (by omega) (by omega) (by omega) ?_
   refine uU (n:=(((x - 261) / 4:Nat):Int)) (by decide) (by rw [Int.tdiv_eq_ediv_of_nonneg (by omega),aW (by omega) (by omega)]; omega) ?_
   refine dM (n:=((x - 265:Nat):Int)) (by omega) (by omega) (by omega) ?_
   refine vQ (n:=(((x - 265) % 4:Nat):Int)) (by decide) (by rw [Int.tmod_eq_emod_of_nonneg (by omega)]; omega) ?_
   refine dM (n:=((4+(x - 265) % 4:Nat):Int)) (by omega) (by omega) (by omega) ?_
   have hp:2 ^ ((x - 261) / 4)≤2 ^ 6:=Nat.pow_le_pow_right (by decide) (by omega)
   have hm:(4+(x - 265) % 4) * 2 ^ ((x - 261) / 4)≤8 * 2 ^ 6:=Nat.mul_le_mul (by omega) hp
   refine mN (by omega) (by omega) ?_
   generalize (4+(x - 265) % 4) * 2 ^ ((x - 261) / 4)=y at *
   exact dM (n:=((y+3:Nat):Int)) (by omega) (by omega) (by omega) (.inl hq)
theorem kI {x:Nat} (h2:x≤29) (hq:Q (.tu [iN (Infl.farOf x).1,iN (Infl.farOf x).2]) h):C Y34.id [iN x] h Q:=by
 refine Y34.call ?_
 simp only [Y34.t]
 unfold Infl.farOf at hq
 refine aP ?_ ?_ <;> intro e
 ·have e : x < 4 := by simp at e; omega
  rw [if_pos e] at hq
  exact inc (by omega) (.inl hq)
 ·have e : ¬ x < 4 := by simp at e; omega
  rw [if_neg e] at hq
  refine uU (n:=((x / 2:Nat):Int)) (by decide) (by rw [Int.tdiv_eq_ediv_of_nonneg (by omega),aW (by omega) (by omega)]; omega) ?_
  refine dM (n:=((x / 2 - 1:Nat):Int)) (by omega) (by omega) (by omega) ?_
  refine vQ (n:=((x % 2:Nat):Int)) (by decide) (by rw [Int.tmod_eq_emod_of_nonneg (by omega)]; omega) ?_
  refine dM (n:=((2+x % 2:Nat):Int)) (by omega) (by omega) (by omega) ?_
  have hp:2 ^ (x / 2 - 1)≤2 ^ 13:=Nat.pow_le_pow_right (by decide) (by omega)
  have hm:(2+x % 2) * 2 ^ (x / 2 - 1)≤4 * 2 ^ 13:=Nat.mul_le_mul (by omega) hp
  refine mN (by omega) (by omega) ?_
  generalize (2+x % 2) * 2 ^ (x / 2 - 1)=y at *
  exact inc (by omega) (.inl hq)
theorem mX {a b:List Nat} {ia ib:Nat} {syma symb:AV} (D:Dec L h F d r out told) (hF:∀ i,h.length≤i→F i) (hd:r.done=false) (T:Two h (Gd F d r) ia syma a ib symb b)
  (hq:∀ e h' r',cN (· = d) L h F d r told (Infl.litW ⟨out,r.last,r.skip⟩ a b) e h' r'→Q (.i .i64 e) h'):C Y37.id [dp d,cp ia,cp ib] h Q:=by
 refine Y37.call ?_
 simp only [Y37.t]
 refine bT (hk:=fun h1 l1 U1 R1=>?_)
 refine bT (hk:=fun h2 l2 U2 R2=>?_)
 refine bT (hk:=fun h3 l3 U3 R3=>?_)
 have U:=(U1.then U2).then U3
 have R1:=(R1.upd U2 fun h=>h).upd U3 fun h=>h
 have R2:=R2.upd U3 fun h=>h
 have ha:=T.1.recd.lt
 have hb:=T.2.recd.lt
 have G:∀ {i},h.length≤i→Gd F d r i∧i≠ia:=fun hi=>⟨D.gd hF hi,by omega⟩
 have B1:Bx h3 (fun i=>Gd F d r i∧i≠ia) (.p (some ⟨h.length,1,0⟩)) (dp d):=⟨_,rfl,R1,G (Nat.le_refl _)⟩
 have B2:Bx h3 (fun i=>Gd F d r i∧i≠ia) (.p (some ⟨h1.length,1,0⟩)) (cp ia):=⟨_,rfl,R2,G (by omega)⟩
 have B3:Bx h3 (fun i=>Gd F d r i∧i≠ia) (.p (some ⟨h2.length,1,0⟩)) (cp ib):=⟨_,rfl,R3,G (by omega)⟩
 refine aE R1 rfl rfl (aE R2 rfl rfl ?_)
 refine oR (D.ext U) hd (l:=a) (ic:=ia) (sym:=syma) (c:=.lit a b) (T.1.upd U (fun _ _ h=>h) fun i _ hi=>hi.1) ⟨_,_,_,ib,symb,rfl,B1,B2,B3,T.2.upd U (fun _ _ h=>h) fun i _ hi=>hi,fun hs=>(T.1.gs ib hs).1.2 rfl⟩ ⟨by decide,by decide,fun v hv=>Nat.lt_of_lt_of_le hv (by have:=T.1.len; omega)⟩ fun h4 r4 P=>aD (.inl (hq 0 h4 r4 ?_))
 exact P.from U (fun _ _ h=>h.elim) (fun _ _ h=>h) rfl rfl rfl
theorem wI {a b : List Nat} {va vb : AV} (D : Dec L h F d r out told) (hF : ∀ i, h.length ≤ i → F i) (hd : r.done = false) (Ra : RdI 1 h va (bB a) a.length) (Rb : RdI 1 h vb (bB b) b.length) (la : a.length ≤ 320) (lb : b.length ≤ 320) (a15 : ∀ x ∈ a, x ≤ 15) (b15 : ∀ x ∈ b, x ≤ 15)
  (hq:∀ e h' r',cN (· = d) L h F d r told (Infl.codes ⟨out,r.last,r.skip⟩ a b) e h' r'→Q (.i .i64 e) h'):C Y42.id [dp d,va,vb] h Q:=by
 refine Y42.call ?_
 simp only [Y42.t]
 refine oD Ra la a15 (fun hn e he=>?_) fun ha h1 ia syma U1 A1=>?_
 ·simp only [d6, d7]
  refine aD (bA (by simp [he]) (.inl (hq 2 h r ?_)))
  unfold Infl.codes
  rw [if_neg fun hh=>hn hh.1]
  exact ⟨Upd.refl _ _,fun _ _ h=>h,D,rfl,rfl,rfl,rfl,.inl rfl,hd⟩
 ·simp only [d6, d7]
  refine aD (aV rfl ?_)
  refine oD (Rb.ext U1) lb b15 (fun hn e he=>?_) fun hb h2 ib symb U2 A2=>?_
  ·simp only [d6, d7]
   refine aD (bA (by simp [he]) (.inl (hq 2 h1 r ?_)))
   unfold Infl.codes
   rw [if_neg fun hh=>hn hh.2]
   exact ⟨U1.mono fun _ _ h=>h.elim,fun _ _ h=>h,D.ext U1,rfl,rfl,rfl,rfl,.inl rfl,hd⟩
  ·simp only [d6, d7]
   refine aD (aV rfl ?_)
   have U:=U1.then U2
   have hlt:=A1.recd.lt
   have hge:=A2.g
   have hU1:=U1.1
   have T:Two h2 (Gd F d r) ia syma a ib symb b:=by
    refine ⟨{ A1.upd (G':=fun i=>h.length≤i) U2 (fun _ _ h=>h) (fun i hl hi=>hi) with g:=⟨D.gd hF A1.g,by omega⟩,gs:=fun i hi=>?_ },{ A2 with g:=⟨D.gd hF (by omega),by omega⟩,gs:=fun i hi=>?_ }⟩
    ·obtain ⟨g1, g2, g3⟩ := A1.gs i hi
     exact ⟨⟨D.gd hF g1,by omega⟩,g2,Nat.lt_of_lt_of_le g3 U2.1⟩
    ·obtain ⟨g1, g2, g3⟩ := A2.gs i hi
     exact ⟨⟨D.gd hF (by omega),by omega⟩,g2,g3⟩
   refine mX (D.ext U) (fun i hi=>hF i (Nat.le_trans U.1 hi)) hd T fun e h3 r3 P=>aD (.inl (hq e h3 r3 ?_))
   unfold Infl.codes
   rw [if_pos ⟨ha,hb⟩]
   exact P.from U (fun _ _ h=>h.elim) (fun _ _ h=>h) rfl rfl rfl
theorem qG:∀ x∈Infl.fixedL,x≤15:=by decide +kernel
theorem qV:∀ x∈Infl.fixedD,x≤15:=by decide +kernel
theorem aCE (D:Dec L h F d r out told) (hF:∀ i,h.length≤i→F i) (hd:r.done=false)
  (hq:∀ e h' r',cN (· = d) L h F d r told (Infl.codes ⟨out,r.last,r.skip⟩ Infl.fixedL Infl.fixedD) e h' r'→Q (.i .i64 e) h'):C Y52.id [dp d] h Q:=by
 refine Y52.call ?_
 simp only [Y52.t]
 refine i9 fun h1 v w U1 Rv Rw _ _=>?_
 simp only [d6,d7]
 refine wI (D.ext U1) (fun i hi=>hF i (Nat.le_trans U1.1 hi)) hd Rv Rw (by decide +kernel) (by decide +kernel) qG qV fun e h2 r2 P=>aD (.inl (hq e h2 r2 ?_))
 exact P.from U1 (fun _ _ h=>h.elim) (fun _ _ h=>h) rfl rfl rfl
theorem aCR {x : Nat} {v : AV} (D : Dec L h F d r out told) (hF : ∀ i, h.length ≤ i → F i) (hd : r.done = false) (hc : Clo h (Gd F d r) d 0 (.p none) .block v) (hf : fit .block x)
  (hq:∀ e h' r',cN F L h F d r told (Infl.apply L r.input ⟨out,r.last,r.skip⟩ x .block) e h' r'→Q (.i .i64 e) h'):bV C v [iN x] h Q:=by
 obtain ⟨bd,rfl,B⟩:=hc
 have hf:x<8:=hf
 refine cR (by decide) (Y57.call ?_)
 simp only [Y57.t,B.ld,bI,bH]
 have hand:bP .and .i64 (x:Int) 1=((x % 2:Nat):Int):=by
  have:=jC (x:=x) (y:=1) (by omega) (by decide)
  rw [Nat.and_one_is_mod] at this
  exact this
 rw [hand]
 have hlast:decide (((x % 2:Nat):Int)=1)=(x % 2 == 1):=by
  rw [Bool.eq_iff_iff]; simp; omega
 rw [hlast]
 refine aR D.recd rfl (ltr rfl) (hk:=fun h1 l1 U1 R1=>?_)
 have D1:Dec L h1 F d { r with last:=x % 2 == 1 } out told:=D.with U1 R1 rfl rfl rfl rfl
 have B1:Bx h1 (Gd F d { r with last:=x % 2 == 1 }) bd (dp d):=B.upd U1 (fun i hi e=>hi.2 (.inl e)) fun _ _ h=>h
 have hF1:∀ i,h1.length≤i→F i:=fun i hi=>hF i (by omega)
 refine sA (a:=x) (b:=1) (by decide) ?_
 rw [B1.ld]
 have hx4:x / 2 ^ 1=x / 2:=rfl
 have hm:∀ {o:Out} {e:Int} {h':aA} {r':DR},cN (· = d) L h1 F d { r with last:=x % 2 == 1 } told o e h' r'→cN F L h F d r told o e h' r':=fun {o e h' r'} P=>by
  have P':cN F L h1 F d { r with last:=x % 2 == 1 } told o e h' r':=P.mono fun i _ e=>D.f i (.inl e)
  exact P'.from U1 (fun i _ e=>D.f i (.inl e)) (fun _ _ h=>h) rfl rfl rfl
 simp only [Infl.apply] at hq
 refine aP ?_ ?_ <;> intro e0
 ·have e0 : x / 2 = 0 := by simp at e0; omega
  simp only [e0] at hq
  simp only [bI,bH]
  refine aR D1.recd rfl (ltr rfl) (hk:=fun h2 l2 U2 R2=>?_)
  have D2:Dec L h2 F d { r with last:=x % 2 == 1,skip:=true } out told:=D1.with U2 R2 rfl rfl rfl rfl
  have B2:Bx h2 (Gd F d { r with last:=x % 2 == 1,skip:=true }) bd (dp d):=B1.upd U2 (fun i hi e=>hi.2 (.inl e)) fun _ _ h=>h
  rw [B2.ld]
  refine aA1 D2 (fun i hi=>hF i (by omega)) hd fun e h3 r3 P=>aD (.inl (hq e h3 r3 ?_))
  refine hm (P.from U2 (fun i _ e=>e) (fun _ _ h=>h) rfl rfl rfl)
 ·refine aP ?_ ?_ <;> intro e1
  ·have e1 : x / 2 = 1 := by simp at e1; omega
   simp only [e1] at hq
   rw [B1.ld]
   refine aCE D1 hF1 hd fun e h3 r3 P=>aD (.inl (hq e h3 r3 (hm P)))
  ·refine aP ?_ ?_ <;> intro e2
   ·have e2 : x / 2 = 2 := by simp at e2; omega
    simp only [e2] at hq
    rw [B1.ld]
    refine y9 D1 hF1 hd fun e h3 r3 P=>aD (.inl (hq e h3 r3 (hm P)))
   ·have e3 : x / 2 = 3 := by simp at e0 e1 e2; omega
    simp only [e3] at hq
    exact .inl (hq 2 h1 { r with last:=x % 2 == 1 } ⟨U1.mono fun i _ e=>D.f i (.inl e),fun _ _ h=>h,D1,rfl,rfl,rfl,rfl,.inl rfl,hd⟩)
theorem wK {a b:List Nat} {ic ib:Nat} {sym symb:AV} (A:bZ h (Gd F d r) ic a sym 0 0) (Bc:bZ h (fun i=>Gd F d r i∧i≠ic) ib b symb 0 0) (hs:¬ aQ sym ib):Two h (Gd F d r) ic sym a ib symb b:=
 ⟨{ A with g:=⟨A.g,fun e=>Bc.g.2 e.symm⟩,gs:=fun i hi=>⟨⟨(A.gs i hi).1,fun e=>hs (e ▸ hi)⟩,(A.gs i hi).2⟩ },Bc⟩
theorem aE9 {x ic : Nat} {sym : AV} {a b : List Nat} {v : AV} (D : Dec L h F d r out told) (hF : ∀ i, h.length ≤ i → F i) (hd : r.done = false) (A : bZ h (Gd F d r) ic a sym 0 0) (hc : Clo h (fun i => Gd F d r i ∧ i ≠ ic) d ic sym (.lit a b) v) (hf : fit (.lit a b) x)
  (hq:∀ e h' r',cN F L h F d r told (Infl.apply L r.input ⟨out,r.last,r.skip⟩ x (.lit a b)) e h' r'→Q (.i .i64 e) h'):bV C v [iN x] h Q:=by
 obtain ⟨bd,ba,bb,ib,symb,rfl,B,Ba,Bb,Bc,hs⟩:=hc
 have hf:x<320:=hf
 have T:=wK A Bc hs
 have w:∀ {y z},Bx h (fun i=>Gd F d r i∧i≠ic) y z→Bx h (Gd F d r) y z:=fun B=>B.upd (Upd.refl (fun _=>False) h) (fun _ _ h=>h) fun i _ hi=>hi.1
 have B:=w B
 have Ba:=w Ba
 have Bb:=w Bb
 refine cR (by decide) (Y61.call ?_)
 simp only [Y61.t,B.ld]
 simp only [Infl.apply,Infl.putP] at hq
 refine aP ?_ ?_ <;> intro e0
 ·have e0 : x < 256 := by simp at e0; omega
  rw [if_pos e0] at hq
  rw [aDS e0]
  refine aA2 D hF (fun hfull=>?_) fun hfull p f h1 U1 K1 D1=>?_
  ·refine aD (bA rfl (.inl (hq 16 h r ?_)))
   rw [if_pos hfull]
   exact ⟨Upd.refl _ _,fun _ _ h=>h,D,rfl,rfl,rfl,rfl,.inr rfl,hd⟩
  ·refine aD (aV rfl ?_)
   have B1:=B.upd U1 (fun i hi hm=>hi.2 hm) (eO K1)
   have Ba1:=Ba.upd U1 (fun i hi hm=>hi.2 hm) (eO K1)
   have Bb1:=Bb.upd U1 (fun i hi hm=>hi.2 hm) (eO K1)
   rw [B1.ld,Ba1.ld,Bb1.ld]
   refine mX D1 (fun i hi=>hF i (Nat.le_trans U1.1 hi)) hd (T.upd U1 (fun i hi hm=>hi.2 hm) (eO K1)) fun e h2 r2 P=>aD (.inl (hq e h2 r2 ?_))
   rw [if_neg (by simp [hfull])]
   exact (P.mono fun i _ e=>D1.f i (.inl e)).from U1 (fun i _ hm=>D.f i hm) K1 rfl rfl rfl
 ·have e0 : ¬ x < 256 := by simp at e0; omega
  rw [if_neg e0] at hq
  refine aP ?_ ?_ <;> intro e1
  ·have e1 : x = 256 := by simp at e1; omega
   rw [if_pos e1] at hq
   exact rX D hF hd fun e h1 r1 P=>aD (.inl (hq e h1 r1 (P.mono fun i _ e=>D.f i (.inl e))))
  ·have e1 : ¬ x = 256 := by simp at e1; omega
   rw [if_neg e1] at hq
   refine aP ?_ ?_ <;> intro e2
   ·have e2 : 285 < x := by simp at e2; omega
    rw [if_pos e2] at hq
    exact .inl (hq 2 h r ⟨Upd.refl _ _,fun _ _ h=>h,D,rfl,rfl,rfl,rfl,.inl rfl,hd⟩)
   ·have e2 : ¬ 285 < x := by simp at e2; omega
    rw [if_neg e2] at hq
    obtain ⟨b1,b2⟩:=pQ x (by omega) (by omega)
    refine oZ (by omega) (by omega) ?_
    simp only [d6,d7]
    refine aD (aD (cF fun h1 l1 U1 R1=>?_))
    refine aR R1 rfl (ltr rfl) (hk:=fun h2 l2 U2 R2=>?_)
    have U:Upd (fun _=>False) h h2:=U1.own U2 (Nat.le_refl _)
    have up:∀ {y z},Bx h (Gd F d r) y z→Bx h2 (Gd F d r) y z:=fun B=>B.upd U (fun _ _ h=>h) fun _ _ h=>h
    have Bn:Bx h2 (Gd F d r) (.p (some ⟨h.length,1,0⟩)) (iN (Infl.least x).1):=⟨_,rfl,R2,D.gd hF (Nat.le_refl _)⟩
    rw [(up B).ld]
    refine dI (D.ext U) hd (c:=.more a b (Infl.least x).1) ⟨_,_,_,_,ic,sym,ib,symb,rfl,up B,up Bb,Bn,up Ba,T.upd U (fun _ _ h=>h) fun _ _ h=>h⟩ ⟨b2,by simp, ?_,fun v hv=>?_⟩ fun h3 r3 P=>aD (.inl (hq 0 h3 r3 ?_))
    ·by_cases hz : (Infl.least x).2 = 0
     ·exact .inr ⟨hz,rfl,trivial⟩
     ·exact .inl (by omega)
    ·show (Infl.least x).1+v≤300; omega
    ·exact (P.from U (fun _ _ h=>h.elim) (fun _ _ h=>h) rfl rfl rfl).mono fun i _ e=>D.f i (.inl e)
theorem aEC {x n:Nat} {a b:List Nat} {v:AV} (D:Dec L h F d r out told) (hF:∀ i,h.length≤i→F i) (hd:r.done=false) (hc:Clo h (Gd F d r) d 0 (.p none) (.more a b n) v) (hf:fit (.more a b n) x)
  (hq:∀ e h' r',cN F L h F d r told (Infl.apply L r.input ⟨out,r.last,r.skip⟩ x (.more a b n)) e h' r'→Q (.i .i64 e) h'):bV C v [iN x] h Q:=by
 obtain ⟨bd,bb,bn,ba,ia,syma,ib,symb,rfl,B,Bb,Bn,Ba,T⟩:=hc
 have hf:n+x≤300:=hf
 refine cR (by decide) (Y51.call ?_)
 simp only [Y51.t]
 refine bT (hk:=fun h1 l1 U1 R1=>?_)
 have hib:=T.2.recd.lt
 have up:∀ {y z},Bx h (Gd F d r) y z→Bx h1 (Gd F d r) y z:=fun B=>B.upd U1 (fun _ _ h=>h) fun _ _ h=>h
 rw [(up B).ld,(up Bb).ld]
 have sep:∀ {y z},Bx h1 (Gd F d r) y z→Bx h1 (fun i=>Gd F d r i∧i≠ib) y z:=fun {y z} B=>by
  obtain ⟨id,e,R,g⟩:=B
  refine ⟨id,e,R,g, ?_⟩
  rintro rfl
  have R':=(T.2.recd.upd U1 fun h=>h)
  obtain ⟨b1,p1,p2,_⟩:=R
  obtain ⟨b2,q1,q2,_⟩:=R'
  rw [p1] at q1
  cases q1
  rw [p2] at q2
  have:=congrArg List.length q2
  rw [dZ, ← cJ (b7 b) xX (by simp)] at this
  simp at this
 refine oR (D.ext U1) hd (l:=b) (ic:=ib) (sym:=symb) (c:=.far a b (n+x)) (T.2.upd U1 (fun _ _ h=>h) fun i _ hi=>hi.1) ⟨bd,bn,_,ba,bb,n,x,ia,syma,rfl,rfl,sep (up B),sep (up Bn),sep (Bx.new R1 (D.gd hF (Nat.le_refl _))),sep (up Ba),sep (up Bb),T.1.upd U1 (fun _ _ h=>h) fun i _ hi=>hi,fun hs=>(T.2.gs ia hs).1.2 rfl⟩ ⟨by decide,by decide,fun v hv=>⟨hf,by have:=T.2.len; omega⟩⟩ fun h2 r2 P=>aD (.inl (hq 0 h2 r2 ?_))
 exact (P.from U1 (fun _ _ h=>h.elim) (fun _ _ h=>h) rfl rfl rfl).mono fun i _ e=>D.f i (.inl e)
theorem aE2 {x n ic:Nat} {sym:AV} {a b:List Nat} {v:AV} (D:Dec L h F d r out told) (hF:∀ i,h.length≤i→F i) (hd:r.done=false) (A:bZ h (Gd F d r) ic b sym 0 0) (hc:Clo h (fun i=>Gd F d r i∧i≠ic) d ic sym (.far a b n) v) (hf:fit (.far a b n) x)
  (hq:∀ e h' r',cN F L h F d r told (Infl.apply L r.input ⟨out,r.last,r.skip⟩ x (.far a b n)) e h' r'→Q (.i .i64 e) h'):bV C v [iN x] h Q:=by
 obtain ⟨bd,bn,bm,ba,bb,n0,m,ia,syma,rfl,hn,B,Bn,Bm,Ba,Bb,Ac,hs⟩:=hc
 obtain ⟨hf1,hf2⟩:=hf
 have T:Two h (Gd F d r) ia syma a ic sym b:=by
  have:=wK A Ac hs
  exact ⟨this.2,this.1⟩
 have w:∀ {y z},Bx h (fun i=>Gd F d r i∧i≠ic) y z→Bx h (Gd F d r) y z:=fun B=>B.upd (Upd.refl (fun _=>False) h) (fun _ _ h=>h) fun i _ hi=>hi.1
 refine cR (by decide) (Y64.call ?_)
 simp only [Y64.t]
 simp only [Infl.apply] at hq
 refine aP ?_ ?_ <;> intro e0
 ·have e0 : 29 < x := by simp at e0; omega
  rw [if_pos e0] at hq
  exact .inl (hq 2 h r ⟨Upd.refl _ _,fun _ _ h=>h,D,rfl,rfl,rfl,rfl,.inl rfl,hd⟩)
 ·have e0 : ¬ 29 < x := by simp at e0; omega
  rw [if_neg e0] at hq
  obtain ⟨b0,b1,b2⟩:=vN x (by omega)
  refine kI (by omega) ?_
  simp only [d6,d7]
  refine aD (aD (cF fun h1 l1 U1 R1=>?_))
  refine aR R1 rfl (ltr rfl) (hk:=fun h2 l2 U2 R2=>?_)
  have U:Upd (fun _=>False) h h2:=U1.own U2 (Nat.le_refl _)
  have up:∀ {y z},Bx h (fun i=>Gd F d r i∧i≠ic) y z→Bx h2 (Gd F d r) y z:=fun B=>(w B).upd U (fun _ _ h=>h) fun _ _ h=>h
  have Bf:Bx h2 (Gd F d r) (.p (some ⟨h.length,1,0⟩)) (iN (Infl.farOf x).1):=⟨_,rfl,R2,D.gd hF (Nat.le_refl _)⟩
  rw [(up B).ld]
  refine dI (D.ext U) hd (c:=.farMore a b n (Infl.farOf x).1) ⟨_,_,_,_,_,_,n0,m,ia,syma,ic,sym,rfl,hn,up B,up Bn,up Bm,Bf,up Ba,up Bb,T.upd U (fun _ _ h=>h) fun _ _ h=>h⟩ ⟨b2,by simp, ?_,fun v hv=>⟨hf1,b0,by omega⟩⟩ fun h3 r3 P=>aD (.inl (hq 0 h3 r3 ?_))
  ·by_cases hz : (Infl.farOf x).2 = 0
   ·exact .inr ⟨hz,rfl,trivial⟩
   ·exact .inl (by omega)
  ·exact (P.from U (fun _ _ h=>h.elim) (fun _ _ h=>h) rfl rfl rfl).mono fun i _ e=>D.f i (.inl e)
theorem zD {x n f : Nat} {a b : List Nat} {v : AV} (D : Dec L h F d r out told) (hF : ∀ i, h.length ≤ i → F i) (hd : r.done = false) (hc : Clo h (Gd F d r) d 0 (.p none) (.farMore a b n f) v) (hf : fit (.farMore a b n f) x)
  (hq:∀ e h' r',cN F L h F d r told (Infl.apply L r.input ⟨out,r.last,r.skip⟩ x (.farMore a b n f)) e h' r'→Q (.i .i64 e) h'):bV C v [iN x] h Q:=by
 obtain ⟨bd,bn,bm,bf,ba,bb,n0,m,ia,syma,ib,symb,rfl,hn,B,Bn,Bm,Bf,Ba,Bb,T⟩:=hc
 obtain ⟨hf1,hf2,hf3⟩:=hf
 refine cR (by decide) (Y49.call ?_)
 simp only [Y49.t,B.ld,Bn.ld,Bm.ld,Bf.ld,gQ]
 simp only [Infl.apply] at hq
 refine dM (n:=(n:Int)) (by omega) (by omega) (by omega) ?_
 refine dM (n:=((f+x:Nat):Int)) (by omega) (by omega) (by omega) ?_
 refine aED (by omega) hf1 hf3 D hF (fun hlt=>?_) fun hge e h1 p f' t U1 K1 D1 he=>?_
 ·rw [if_pos hlt] at hq
  exact aD (bA rfl (.inl (hq 2 h r ⟨Upd.refl _ _,fun _ _ h=>h,D,rfl,rfl,rfl,rfl,.inl rfl,hd⟩)))
 ·rw [if_neg (by omega)] at hq
  have hcore:=oG (L:=L) (input:=r.input) (far:=f+x) n ⟨out,r.last,r.skip⟩
  cases hcp:Infl.copyP L r.input (f+x) n ⟨out,r.last,r.skip⟩ with
  | mk k ok =>
   rw [hcp] at hcore D1 he hq
   simp only at hcore D1 he hq
   rcases he with ⟨rfl,rfl⟩ | ⟨rfl,rfl⟩
   ·refine aD (aV rfl ?_)
    have B1:=B.upd U1 (fun i hi hm=>hi.2 hm) (eO K1)
    have Ba1:=Ba.upd U1 (fun i hi hm=>hi.2 hm) (eO K1)
    have Bb1:=Bb.upd U1 (fun i hi hm=>hi.2 hm) (eO K1)
    rw [B1.ld,Ba1.ld,Bb1.ld]
    refine mX D1 (fun i hi=>hF i (Nat.le_trans U1.1 hi)) hd (T.upd U1 (fun i hi hm=>hi.2 hm) (eO K1)) fun e h2 r2 P=>aD (.inl (hq e h2 r2 ?_))
    rw [hcore]
    exact (P.mono fun i _ e=>D1.f i (.inl e)).from U1 (fun i _ hm=>D.f i hm) K1 rfl rfl rfl
   ·refine aD (bA rfl (.inl (hq 16 h1 { r with past := p, total := t, fresh := f' } ?_)))
    exact ⟨U1.mono fun i _ hm=>D.f i hm,K1,D1,rfl,rfl,rfl,rfl,.inr rfl,hd⟩
end
end Go.Proofs.YtpaphfeihpgamaaDoor
namespace Go.Proofs.YtpaphfeihpgamaaDoor
open Go.GAM
theorem eN.load {E:TypeId} {h:aA} {v:AV} {l:List UInt8} {c:UInt8} (B:eN E h v l) {k:IntKind} {i:Nat} (hi:l[i]? = some c) {K:AV→Prop} (hk:K (byteAV c)):aX 1 v (.i k (i:Int)) h fun a=>aB a h K:=by
 have hlt:=(List.getElem?_eq_some_iff.1 hi).1
 rcases B with ⟨rfl,rfl⟩ | ⟨id,b,rfl,h1,h2,h3,h4,h5⟩
 ·simp at hlt
 ·have e : b.cells.length = l.length := by rw [h2]; simp
  refine ⟨by omega,by omega,⟨b,h1,by show b.floor≤l.length; omega,by omega⟩, ?_⟩
  refine ⟨b,h1,⟨by show b.floor≤l.length; omega,by show l.length≤b.cells.length; omega,by simp only [Int.toNat_natCast]; omega⟩, ?_⟩
  simp only [Int.toNat_natCast,Nat.zero_add,Nat.mul_one]
  rw [h2,getD_some (c:=byteAV c) (by rw [List.getElem?_map,hi] <;> rfl)]
  exact hk
theorem eN.store {E:TypeId} {h:aA} {v:AV} {l:List UInt8} {c:UInt8} (B:eN E h v l) {k:IntKind} {i:Nat} (hi:i<l.length) {K:aA→Prop} (hk:∀ h',h'.length=h.length→Upd (aQ v) h h'→eN E h' v (l.set i c)→K h') :
  aX 1 v (.i k (i:Int)) h fun a=>aU 1 a (byteAV c) h K:=by
 rcases B with ⟨rfl,rfl⟩ | ⟨id,b,rfl,h1,h2,h3,h4,h5,h6,h7,h8,h9⟩
 ·simp at hi
 ·have e : b.cells.length = l.length := by rw [h2]; simp
  refine ⟨by omega,by omega,⟨b,h1,by show b.floor≤l.length; omega,by omega⟩, ?_⟩
  refine ⟨b,h1,h5,h4,e.symm,by simp only [Int.toNat_natCast]; omega,rfl,rfl,rfl, ?_⟩
  refine hk _ (by simp) ((Upd.set _ _ _).mono fun i _ h=>h.symm) (.inr ⟨id,_,by rw [List.length_set],List.getElem?_set_self (aI h1), ?_,h3, ?_,h5,h6,h7,h8, ?_⟩)
  ·show (b.cells).set (0 + (i : Int).toNat * 1) (byteAV c) = _
   rw [Int.toNat_natCast,Nat.mul_one,Nat.zero_add,h2,List.map_set]
  ·show b.cells.length ≤ _
   rw [List.length_set]; omega
  ·intro h0
   have:=congrArg List.length h0
   rw [List.length_set] at this
   simp at this
   exact h9 this
abbrev u8T:TypeId:=5
abbrev wp (w:Nat):AV:=.p (some ⟨w,2,0⟩)
def fre (n:Nat):Nat:=(8 - n % 8) % 8
def Wr (h:aA) (G:Nat→Prop) (w:Nat) (bs:List Nat):Prop:=∃ v,bC h w [v,iN (fre bs.length)]∧eN u8T h v (Infl.pack bs)∧(∀ i,aQ v i→G i∧i≠w)∧G w∧∀ x∈bs,x<2
theorem aEH:∀ (fr:Fin 9) (c:Fin 256) (b:Fin 2),1≤fr.1→c.1<2 ^ (8 - fr.1)→bP .or .u8 ((c.1:Nat):Int) (IntKind.wrap .u8 (((b.1:Nat):Int) * 2 ^ (min (((8 - fr.1:Nat):Int)).toNat IntKind.u8.bits)))=((c.1+b.1 * 2 ^ (8 - fr.1):Nat):Int)∧c.1+b.1 * 2 ^ (8 - fr.1)<256:=by decide +kernel
section
variable [XR] {h:aA} {Q:AV→aA→Prop} {G:Nat→Prop} {w:Nat}
theorem slv {E:TypeId} {h:aA} {v:AV} {l:List UInt8} (B:eN E h v l):v.parts=[v]∧v.sizeOK=true∧v.cellOK=true:=by
 rcases B with ⟨rfl,_⟩ | ⟨id,b,rfl,_⟩ <;> exact ⟨rfl,rfl,rfl⟩
theorem eN.plen {E:TypeId} {h:aA} {v:AV} {l:List UInt8} (B:eN E h v l) {K:Int→Prop} (hk:K (l.length:Int)):bX v K:=by
 rcases B with ⟨rfl,rfl⟩ | ⟨id,b,rfl,_⟩ <;> exact hk
theorem aAF {E:TypeId} {h:aA} {v:AV} {l:List UInt8} (B:eN E h v l) (hlen:l.length<140737488355328) {K:AV→aA→Prop}
  (hk:∀ v' h',Upd (aQ v) h h'→eN E h' v' (l++[0])→(∀ i,aQ v' i→aQ v i∨h.length≤i)→K v' h'):bQ 1 1 [.i .u8 0] [(0,1,.i .u8 0)] h fun x h'=>bU (some E) 1 1 v x h' K:=by
 refine eS (cs:=[.i .u8 0]) rfl rfl (hk:=fun x h1 l1 U1 R1 hx=>?_)
 refine (B.upd U1 fun _ _ h=>h).append (t:=[0]) (fun K' hK=>R1.news hK) (by simp; omega) fun v' h' U2 B2 g2=>hk v' h' ?_ B2 fun i hi=>?_
 ·exact (U1.mono fun _ _ h=>h.elim).trans U2 fun _ _ h=>h
 ·rcases g2 i hi with h | h
  ·exact .inl h
  ·exact .inr (by omega)
theorem aE3 {v:AV} {fr:Nat} {pre:List UInt8} {c:Nat} {x n j:Nat} (h1:1≤fr) (h8:fr≤8) (hc:c<2 ^ (8 - fr)) (hpl:pre.length<140737488355328) (hj:j<n) (hn:n≤64) (hx:x<2 ^ 62) (R:bC h w [v,iN fr]) (B:eN u8T h v (pre++[UInt8.ofNat c])) (hv:¬ aQ v w)
  (hq:∀ h',h'.length=h.length→Upd (fun i=>i=w∨aQ v i) h h'→bC h' w [v,iN (fr - 1)]→eN u8T h' v (pre++[UInt8.ofNat (c+(x / 2 ^ j % 2) * 2 ^ (8 - fr))])→Y11.p0 Q (wp w) x n ((j:Int)+1) h') :
  Y11.p1 Q (wp w) x j n j h:=by
 refine Y11.i1 ?_
 unfold Y11.t1
 have c256:c<256:=Nat.lt_of_lt_of_le hc (Nat.pow_le_pow_right (by decide) (by omega:8 - fr≤8))
 obtain ⟨e1,e2⟩:=aEH ⟨fr,by omega⟩ ⟨c,c256⟩ ⟨x / 2 ^ j % 2,Nat.mod_lt _ (by decide)⟩ h1 hc
 simp only at e1 e2
 refine gG (cX (aE R rfl rfl (gG (cX (aE R rfl rfl (eN.plen B ?_))))))
 refine aM (n:=(pre.length:Int)) (by rw [List.length_append,List.length_singleton,aW (by omega) (by omega)]; omega) ?_
 refine eN.load B (c:=UInt8.ofNat c) (by simp) ?_
 refine kS ?_
 refine sA (by show j≤64; omega) ?_
 refine aM (n:=((x / 2 ^ j % 2:Nat):Int)) ?_ ?_
 ·have hlt : x / 2 ^ j < 2 ^ 62 := Nat.lt_of_le_of_lt (Nat.div_le_self _ _) hx
  have:=jC (x:=x / 2 ^ j) (y:=1) (by omega) (by decide)
  rw [Nat.and_one_is_mod] at this
  rw [show ((1:Nat):Int)=1 from rfl] at this
  rw [this]
  have:=Nat.mod_lt (x / 2 ^ j) (show 0<2 by decide)
  exact wN (by omega) (by omega)
 refine gG (cX (aE R rfl rfl (aD ?_)))
 refine aM (n:=((8 - fr:Nat):Int)) (by rw [aW (by omega) (by omega)]; omega) ?_
 refine ⟨by omega, ?_⟩
 have ec:(((UInt8.ofNat c).toNat:Nat):Int)=(c:Int):=by rw [UInt8.toNat_ofNat']; omega
 show aX 1 v (AV.i .i64 (pre.length:Int)) h fun v44=>aU 1 v44 (AV.i .u8 (bP .or .u8 (((UInt8.ofNat c).toNat:Nat):Int) (IntKind.wrap .u8 (((x / 2 ^ j % 2:Nat):Int) * 2 ^ (min (((8 - fr:Nat):Int)).toNat IntKind.u8.bits))))) h _
 rw [ec,e1]
 have eb:AV.i .u8 ((c+x / 2 ^ j % 2 * 2 ^ (8 - fr):Nat):Int)=byteAV (UInt8.ofNat (c+x / 2 ^ j % 2 * 2 ^ (8 - fr))):=by
  unfold byteAV
  rw [UInt8.toNat_ofNat',Nat.mod_eq_of_lt (show _<2 ^ 8 from e2)]
 rw [eb]
 refine eN.store B (c:=UInt8.ofNat (c+x / 2 ^ j % 2 * 2 ^ (8 - fr))) (by simp) fun h2 l2 U2 B2=>?_
 have R2:=R.upd U2 hv
 refine gG (cX (aE R2 rfl rfl (aD ?_)))
 refine aM (n:=((fr - 1:Nat):Int)) (by rw [aW (by omega) (by omega)]; omega) ?_
 refine gG (cX (aR R2 rfl (by show 1<2; decide) (hk:=fun h3 l3 U3 R3=>?_)))
 refine aM (n:=(j:Int)+1) (aW (by omega) (by omega)) ?_
 refine hq h3 (by omega) ?_ R3 ?_
 ·exact (U2.mono fun i _ h=>Or.inr h).trans (U3.mono fun i _ h=>Or.inl h) fun _ _ h=>h
 ·have : (pre ++ [UInt8.ofNat c]).set pre.length (UInt8.ofNat (c + x / 2 ^ j % 2 * 2 ^ (8 - fr))) = pre ++ [UInt8.ofNat (c + x / 2 ^ j % 2 * 2 ^ (8 - fr))] := by
   rw [List.set_append_right _ _ (Nat.le_refl _),Nat.sub_self] <;> rfl
  rw [this] at B2
  exact B2.upd U3 fun i hi e=>hv (e ▸ hi)
theorem zM (x n : Nat) (hn : n ≤ 64) (hx : x < 2 ^ 62) (bs : List Nat) (hlen : bs.length + n < 2 ^ 40) : ∀ (k j : Nat) (h : aA), j + k = n → (∀ i, h.length ≤ i → G i) → Wr h G w (bs ++ Huff.loBits x j) → (∀ h', Upd G h h' → Wr h' G w (bs ++ Huff.loBits x n) → Q (.tu []) h') →
  Y11.p0 Q (wp w) x n j h:=by
 intro k
 induction k with
 | zero =>
  intro j h hj hG W hq
  refine Y11.i0 ?_
  unfold Y11.t0
  refine aV (decide_eq_false (by omega)) ?_
  have:j=n:=by omega
  subst this
  exact hq h (Upd.refl _ _) W
 | succ k ih =>
  intro j h hj hG W hq
  obtain ⟨v,R,B,g,gw,hx2⟩:=W
  have hb:x / 2 ^ j % 2<2:=Nat.mod_lt _ (by decide)
  obtain ⟨pre,c,p1,p2,p3⟩:=Infl.pack_snoc hb _ _ (Nat.le_refl _) hx2
  have hL:(bs++Huff.loBits x j).length=bs.length+j:=by rw [List.length_append,Infl.lo_length]
  have hsn:bs++Huff.loBits x (j+1)=(bs++Huff.loBits x j)++[x / 2 ^ j % 2]:=by rw [Infl.lo_snoc,List.append_assoc]
  have hx3:∀ y∈bs++Huff.loBits x (j+1),y<2:=by
   intro y hy
   rw [hsn] at hy
   rcases List.mem_append.1 hy with h | h
   ·exact hx2 y h
   ·rw [List.mem_singleton.1 h]; exact hb
  have hpk:=Infl.pack_len hx2
  rw [hL] at hpk p1 p2 p3
  have hv:¬ aQ v w:=fun h=>(g w h).2 rfl
  refine Y11.i0 ?_
  unfold Y11.t0
  refine bA (decide_eq_true (by omega)) ?_
  refine gG (cX (aE R rfl rfl (aD ?_)))
  rcases p2 with ⟨m0,p2⟩ | ⟨m0,p2⟩
  ·have hf : fre (bs ++ Huff.loBits x j).length = 0 := by unfold fre; omega
   rw [m0,Nat.pow_zero] at p1 p3
   have c0:c=0:=by omega
   subst c0
   refine bA (decide_eq_true (by rw [hf] <;> rfl)) ?_
   refine gG (cX (aE R rfl rfl ?_))
   refine aAF B (by omega) fun v1 h1 U1 B1 g1=>?_
   have R1:=R.upd U1 hv
   have hv1:¬ aQ v1 w:=fun h=>by
    rcases g1 w h with h | h
    ·exact hv h
    ·have:=R.lt; omega
   obtain ⟨s1,s2,s3⟩:=slv B1
   refine gG (cX (aR R1 rfl (by show 0<2; decide) s1 s2 s3 (hk:=fun h2 l2 U2 R2=>?_)))
   refine gG (cX (aR R2 rfl (by show 1<2; decide) (hk:=fun h3 l3 U3 R3=>?_)))
   have B3:=(B1.upd U2 fun i hi e=>hv1 (e ▸ hi)).upd U3 fun i hi e=>hv1 (e ▸ hi)
   rw [p2] at B3
   have gv1:∀ i,aQ v1 i→G i∧i≠w:=fun i hi=>⟨by
    rcases g1 i hi with h | h
    ·exact (g i h).1
    ·exact hG i h,fun e=>hv1 (e ▸ hi)⟩
   have hh:h.length≤h3.length:=by have:=U1.1; omega
   refine aE3 (fr:=8) (c:=0) (pre:=pre) (by decide) (by decide) (by decide) (by rw [p2] at hpk; omega) (by omega) hn hx R3 B3 hv1 fun h4 l4 U4 R4 B4=>?_
   refine ih (j+1) h4 (by omega) (fun i hi=>hG i (by omega)) ⟨v1, ?_, ?_,gv1,gw,hx3⟩ fun h5 U5 W5=>hq h5 ?_ W5
   ·have : fre (bs ++ Huff.loBits x (j + 1)).length = 8 - 1 := by rw [List.length_append, Infl.lo_length]; unfold fre; omega
    rw [this]; exact R4
   ·rw [hsn,p3]; exact B4
   ·refine ((((U1.mono fun i _ h => (g i h).1).trans (U2.mono fun i _ h => (h ▸ gw : G i)) fun _ _ h => h).trans (U3.mono fun i _ h => (h ▸ gw : G i)) fun _ _ h => h).trans (U4.mono fun i _ h => ?_) fun _ _ h => h).trans U5 fun _ _ h => h
    rcases h with h | h
    ·exact h ▸ gw
    ·exact (gv1 i h).1
  ·have hf : fre (bs ++ Huff.loBits x j).length = 8 - (bs.length + j) % 8 := by rw [hL]; unfold fre; omega
   refine aV (decide_eq_false (by rw [hf]; omega)) ?_
   rw [hf] at R
   rw [p2] at B
   have e8:8 - (8 - (bs.length+j) % 8)=(bs.length+j) % 8:=by omega
   refine aE3 (fr:=8 - (bs.length+j) % 8) (c:=c) (pre:=pre) (by omega) (by omega) (by rw [e8]; exact p1) (by rw [p2,List.length_append] at hpk; omega) (by omega) hn hx R B hv fun h4 l4 U4 R4 B4=>?_
   rw [e8] at B4
   refine ih (j+1) h4 (by omega) (fun i hi=>hG i (by omega)) ⟨v, ?_, ?_,g,gw,hx3⟩ fun h5 U5 W5=>hq h5 ?_ W5
   ·have : fre (bs ++ Huff.loBits x (j + 1)).length = 8 - (bs.length + j) % 8 - 1 := by rw [List.length_append, Infl.lo_length]; unfold fre; omega
    rw [this]; exact R4
   ·rw [hsn,p3]; exact B4
   ·refine (U4.mono fun i _ h => ?_).trans U5 fun _ _ h => h
    rcases h with h | h
    ·exact h ▸ gw
    ·exact (g i h).1
theorem j2 {x n:Nat} {bs:List Nat} (hn:n≤64) (hx:x<2 ^ 62) (hlen:bs.length+n<2 ^ 40) (hG:∀ i,h.length≤i→G i) (W:Wr h G w bs) (hq:∀ h',Upd G h h'→Wr h' G w (bs++Huff.loBits x n)→Q (.tu []) h'):C Y11.id [wp w,iN x,iN n] h Q:=by
 refine Y11.call ?_
 unfold Y11.t
 refine zM x n hn hx bs hlen n 0 h (by omega) hG (by simpa [Huff.loBits] using W) fun h' U W'=>.inl (hq h' U W')
theorem aA7 {l:List Nat} {i x:Nat} (h:l[i]? = some x):(bB l)[i * 1]? = some (iN x):=by
 unfold bB
 rw [Nat.mul_one,List.getElem?_map,h] <;> rfl
theorem RdI.nat {h:aA} {v:AV} {l:List Nat} {k:IntKind} {i x:Nat} (R:RdI 1 h v (bB l) l.length) (hx:l[i]? = some x) {K:AV→Prop} (hk:K (iN x)):aX 1 v (.i k (i:Int)) h fun a=>aB a h K:=by
 have hi:=(List.getElem?_eq_some_iff.1 hx).1
 obtain ⟨p,P,hp⟩:=R.at hi
 have e:((bB l).drop (i * 1)).take 1=[iN x]:=by
  have hl:i<(bB l).length:=by rw [aT]; exact hi
  rw [Nat.mul_one,List.drop_eq_getElem_cons hl]
  have:=aA7 hx
  rw [Nat.mul_one,List.getElem?_eq_getElem hl] at this
  rw [Option.some.inj this] <;> rfl
 rw [e] at P
 exact hp k h _ (Upd.refl _ _) (P.load1 hk)
theorem aCU {s c:Nat} {cs:List Nat} {vc:AV} (hs:cs[s]? = some c) (hc:c<2 ^ 62) (hvG:∀ i,aQ vc i→¬ G i):∀ (j:Nat) (bs':List Nat) (h:aA),j≤60→bs'.length+j<2 ^ 40 - 1→(∀ i,h.length≤i→G i)→RdI 1 h vc (bB cs) cs.length→Wr h G w bs' →
  (∀ h',Upd G h h'→Wr h' G w (bs'++Huff.hiBits c j)→Q (.tu []) h')→Y20.p0 Q (wp w) vc s ((j:Int) - 1) h:=by
 intro j
 induction j with
 | zero =>
  intro bs' h hj hl hG R W hq
  refine Y20.i0 ?_
  unfold Y20.t0
  refine aV (by decide) (hq h (Upd.refl _ _) (by simpa [Huff.hiBits] using W))
 | succ j ih =>
  intro bs' h hj hl hG R W hq
  refine Y20.i0 ?_
  unfold Y20.t0
  have ej:((j+1:Nat):Int) - 1=(j:Int):=by omega
  rw [ej]
  refine bA (decide_eq_true (by omega)) ?_
  refine RdI.nat R hs (aD ?_)
  refine sA (by show j≤64; omega) ?_
  have hlt:c / 2 ^ j<2 ^ 62:=Nat.lt_of_le_of_lt (Nat.div_le_self _ _) hc
  have ha:bP .and .i64 ((c / 2 ^ j:Nat):Int) 1=((c / 2 ^ j % 2:Nat):Int):=by
   have:=jC (x:=c / 2 ^ j) (y:=1) (by omega) (by decide)
   rw [Nat.and_one_is_mod] at this
   exact this
  rw [ha]
  have hb:c / 2 ^ j % 2<2:=Nat.mod_lt _ (by decide)
  refine j2 (x:=c / 2 ^ j % 2) (n:=1) (by decide) (by omega) (by omega) hG W fun h1 U1 W1=>?_
  refine aM (n:=(j:Int) - 1) (aW (by omega) (by omega)) ?_
  have e1:Huff.loBits (c / 2 ^ j % 2) 1=[c / 2 ^ j % 2]:=by
   show [c / 2 ^ j % 2 % 2]=_
   rw [Nat.mod_mod]
  rw [e1] at W1
  refine ih (bs'++[c / 2 ^ j % 2]) h1 (by omega) (by simp; omega) (fun i hi=>hG i (Nat.le_trans U1.1 hi)) (R.upd U1 hvG) W1 fun h2 U2 W2=>hq h2 (U1.trans U2 fun _ _ h=>h) ?_
  rw [List.append_assoc] at W2
  exact W2
theorem aES {s c n:Nat} {cs ls:List Nat} {vc vl:AV} {bs:List Nat} (hs:cs[s]? = some c) (hn:ls[s]? = some n) (hc:c<2 ^ 62) (hn2:n≤60) (hvG:∀ i,aQ vc i→¬ G i) (hl:bs.length+n<2 ^ 40 - 1) (hG:∀ i,h.length≤i→G i) (Rc:RdI 1 h vc (bB cs) cs.length) (Rl:RdI 1 h vl (bB ls) ls.length) (W:Wr h G w bs)
  (hq:∀ h',Upd G h h'→Wr h' G w (bs++Huff.hiBits c n)→Q (.tu []) h'):C Y20.id [wp w,vc,vl,iN s] h Q:=by
 refine Y20.call ?_
 unfold Y20.t
 refine RdI.nat Rl hn (aD ?_)
 refine aM (n:=(n:Int) - 1) (aW (by omega) (by omega)) ?_
 exact aCU hs hc hvG n bs h hn2 hl hG Rc W fun h' U W'=>.inl (hq h' U W')
end
end Go.Proofs.YtpaphfeihpgamaaDoor
namespace Go.GAM
def rO (h:aA) (id:Nat) (cs:List AV):Prop:=∃ b:ABlk,h[id]? = some b∧b.cells=cs∧b.floor≤cs.length∧b.gl=true
theorem rO.upd {M:Nat→Prop} {h h':aA} {id:Nat} {cs:List AV} (G:rO h id cs) (U:Upd M h h') (hM:¬ M id):rO h' id cs:=by
 obtain ⟨b,h1,h2⟩:=G
 exact ⟨b,(U.2 id (aI h1) hM).trans h1,h2⟩
theorem rO.var {h:aA} {id:Nat} {cs:List AV} (G:rO h id cs):y1 h id = .p (some ⟨id,cs.length,0⟩):=by
 obtain ⟨b,h1,rfl,h3,h4⟩:=G
 unfold y1
 rw [h1]
 simp only [h4,Bool.true_and,Nat.ble_eq_true_of_le h3,cond_true]
theorem rO.ld {h:aA} {id n o:Nat} {cs:List AV} {v:AV} {K:AV→Prop} (G:rO h id cs) (hn:n=cs.length) (hc:cs[o]? = some v) (hk:K v):aB (.p (some ⟨id,n,o⟩)) h K:=by
 obtain ⟨b,h1,rfl,h3,h4⟩:=G
 subst hn
 have:=aI hc
 refine ⟨b,h1,⟨h3,Nat.le_refl _,this⟩, ?_⟩
 show K (b.cells.getD o .u)
 rw [getD_some hc]; exact hk
end Go.GAM
namespace Go.Proofs.YtpaphfeihpgamaaDoor
open Go.GAM
open Go.Infl (bS cZ b8 Out Lim)
theorem Exa.rd {h:aA} {v:AV} {l:List Nat} (S:Exa h v l):Rd 1 h v (bB l) l.length:=by
 rcases S with ⟨rfl,rfl⟩ | ⟨id,b,rfl,h1,h2,h3,h4,h5⟩
 ·exact .inl ⟨rfl,rfl,rfl⟩
 ·have e : b.cells.length = l.length := by rw [h3, aT]
  exact .inr ⟨id,_,0,none,b,rfl,h1,.inl h2,h4,by omega,by omega,by rw [h3,List.drop_zero,Nat.mul_one, ← aT l,List.take_length]⟩
theorem Exa.app {ty:Option TypeId} {h:aA} {v y:AV} {l ns:List Nat} (S:Exa h v l) (R1:∀ K:List AV→Nat→Prop,K (bB ns) ns.length→eF 1 y h K) (hn:0<ns.length) (hlen:l.length+ns.length≤1000000) {K:AV→aA→Prop}
  (hk:∀ v' h',Upd (aQ v) h h'→Exa h' v' (l++ns)→(∀ i,aQ v' i→aQ v i∨h.length≤i)→K v' h'):bU ty 1 8 v y h K:=by
 refine ⟨Nat.one_pos,R1 _ ?_⟩
 rcases S with ⟨rfl,rfl⟩ | ⟨id,b,rfl,g1,g2,g3,g4,g5,g6⟩
 ·refine ⟨by omega, by omega, ?_⟩
  rw [if_neg (by omega)]
  exact hk _ _ ((Upd.app _ _).mono fun _ _ h=>h.elim) (.inr ⟨h.length,aZ (bB ns) 1 false ty,by rw [aT] <;> rfl,by simp,rfl,rfl,by simp [aZ,aT],rfl,rfl⟩) fun i hi=>.inr (by have e:h.length=i:=hi; omega)
 ·have hid := aI g1
  have e:b.cells.length=l.length:=by rw [g3,aT]
  have ea:(l++ns).length=l.length+ns.length:=List.length_append
  have ec:(b.cells.drop 0).take (l.length * 1)=bB l:=by rw [g3,List.drop_zero,Nat.mul_one, ← aT l,List.take_length]
  refine ⟨by omega,by omega,b,g1,g2,⟨g4,by simp only; omega,by simp only; omega⟩, ?_⟩
  cases hex:b.ex with
  | true =>
   refine .inr (.inl ⟨hn,.inr ⟨rfl,e.symm,rfl,by simp only; omega⟩, ?_⟩)
   simp only [ec]
   rw [← eQ]
   refine hk _ _ ((Upd.app _ _).mono fun _ _ h=>h.elim) (.inr ⟨h.length,aZ (bB (l++ns)) 1 false ty,by rw [aT,ea],by simp,rfl,rfl,by simp [aZ,aT],rfl,rfl⟩) fun i hi=>.inr (by have e:h.length=i:=hi; omega)
  | false =>
   refine .inr (.inr (.inr (.inl ⟨hn,g5,e.symm,rfl,by omega,rfl,rfl,g6,jX _, ?_⟩)))
   refine hk _ _ ((Upd.set _ _ _).mono fun i _ h=>h.symm) (.inr ⟨id,{ b with cells:=b.cells++bB ns,ty:=eV b.ty ty }, ?_,by simp [hid,hex],g2,by simp only [g3]; rw [eQ],by simp only; omega,g5,g6⟩) fun i hi=>.inl hi
   rw [List.length_append,aT,e,ea]
theorem Exa.front {h:aA} {v:AV} {l:List Nat} (S:Exa h v l) {n:Nat} (hn:n≤l.length) {K:AV→Prop} (hk:∀ v',RdI 1 h v' (bB (l.take n)) (l.take n).length→K v'):bJ 1 v none (some (.i .i64 (n:Int))) none h K:=by
 obtain ⟨v',R,hv⟩:=S.rd.cutAt Nat.one_pos (lo:=none) (lo':=0) (hi:=n) (.inl ⟨rfl,rfl⟩) (Nat.zero_le _) hn
 refine hv _ (hk v' ?_)
 have e:(l.take n).length=n:=by rw [List.length_take]; omega
 rw [e]
 have:=R.i
 rw [Nat.zero_mul,List.drop_zero,Nat.mul_one,Nat.sub_zero] at this
 unfold bB at this ⊢
 rw [List.map_take]; exact this
theorem Exa.back {h:aA} {v:AV} {l:List Nat} (S:Exa h v l) {n:Nat} (hn:n≤l.length) {K:AV→Prop} (hk:∀ v',RdI 1 h v' (bB (l.drop n)) (l.drop n).length→K v'):bJ 1 v (some (.i .i64 (n:Int))) none none h K:=by
 rcases S with ⟨rfl,rfl⟩ | ⟨id,b,rfl,g1,g2,g3,g4,g5,g6⟩
 ·have : n = 0 := by simpa using hn
  subst this
  exact ⟨by simp,rfl,rfl,rfl,fun h=>by simp at h,hk _ (.inl ⟨rfl,rfl,rfl⟩)⟩
 ·have e : b.cells.length = l.length := by rw [g3, aT]
  refine ⟨Nat.one_pos,fun h=>by simp at h,by omega,by simpa using hn,b,g1,by omega,by show b.floor≤l.length; omega,.inl g2,.inl (Nat.le_refl _), ?_⟩
  refine hk _ (.inr (.inr ⟨id,l.length,0+((n:Int).toNat) * 1,none,b, ?_,g1,by omega,by omega, ?_, ?_⟩))
  ·simp
  ·simp; omega
  ·rw [Int.toNat_natCast, Nat.mul_one, Nat.zero_add, Nat.mul_one, g3]
   unfold bB
   rw [← List.map_drop]
   exact List.take_of_length_le (by simp)
theorem dG.store {h:aA} {G:Nat→Prop} {v:AV} {l:List Nat} (A:dG h G v l) {k:IntKind} {i x:Nat} (hi:i<l.length) {K:aA→Prop} (hk:∀ h',h'.length=h.length→Upd (aQ v) h h'→dG h' G v (l.set i x)→K h') :
  aX 1 v (.i k (i:Int)) h fun a=>aU 1 a (iN x) h K:=by
 obtain ⟨id,b,rfl,h1,h2,h3,h4,h5,g⟩:=A
 have e:b.cells.length=l.length:=by rw [h2,aT]
 refine ⟨by omega,by omega,⟨b,h1,by show b.floor≤l.length; omega,by omega⟩, ?_⟩
 refine ⟨b,h1,h4,h3,e.symm,by simp only [Int.toNat_natCast]; omega,rfl,rfl,rfl, ?_⟩
 refine hk _ (by simp) ((Upd.set _ _ _).mono fun i _ h=>h.symm) ⟨id,_,by rw [List.length_set],List.getElem?_set_self (aI h1), ?_, ?_,h4,h5,g⟩
 ·show (b.cells).set (0 + (i : Int).toNat * 1) (iN x) = _
  rw [Int.toNat_natCast,Nat.mul_one,Nat.zero_add,h2,iZ]
 ·show b.cells.length ≤ _
  rw [List.length_set]; omega
section
variable [XR] {h:aA} {Q:AV→aA→Prop} {L:Lim} {F:Nat→Prop} {d:Nat} {r:DR} {out:List UInt8} {told:Nat}
theorem mC {c l:List Nat} {lits dists ic:Nat} {symc lv:AV} (hc19:c.length≤19) (hl1:lits≤286) (hd1:dists≤30) (hll:l.length≤lits+dists) (h16:∀ x∈l,x<16) (D:Dec L h F d r out told) (hF:∀ i,h.length≤i→F i) (hd:r.done=false)
  (A:bZ h (Gd F d r) ic c symc 0 0) (S:Lst h (fun i=>Gd F d r i∧i≠ic∧¬ aQ symc i) lv l)
  (hq:∀ e h' r',cN (· = d) L h F d r told (Infl.lensW ⟨out,r.last,r.skip⟩ c l lits dists) e h' r'→Q (.i .i64 e) h'):C Y38.id [dp d,cp ic,lv,iN lits,iN dists] h Q:=by
 refine Y38.call ?_
 simp only [Y38.t]
 refine bT (hk:=fun h1 l1 U1 R1=>?_)
 refine bT (hk:=fun h2 l2 U2 R2=>?_)
 refine bT (hs:=by rcases S.1 with ⟨rfl,_⟩ | ⟨id,b,rfl,_⟩ <;> rfl) (hk:=fun h3 l3 U3 R3=>?_)
 have hparts:lv.parts=[lv]:=by rcases S.1 with ⟨rfl,_⟩ | ⟨id,b,rfl,_⟩ <;> rfl
 rw [hparts] at R3 ⊢
 refine bT (hk:=fun h4 l4 U4 R4=>?_)
 refine bT (hk:=fun h5 l5 U5 R5=>?_)
 have U45:=U4.then U5
 have U35:=U3.then U45
 have U25:=U2.then U35
 have U:=U1.then U25
 have R1:=R1.upd U25 fun h=>h
 have R2:=R2.upd U35 fun h=>h
 have R3:=R3.upd U45 fun h=>h
 have R4:=R4.upd U5 fun h=>h
 have S5:Exa h5 lv l:=S.1.upd U fun _ _ h=>h
 refine aE R3 rfl rfl (S5.rd.len ?_)
 refine aE R4 rfl rfl (aD (aE R5 rfl rfl (aD ?_)))
 refine dM (n:=((lits+dists:Nat):Int)) (by omega) (by omega) (by omega) ?_
 unfold Infl.lensW at hq
 refine aP ?_ ?_ <;> intro e
 ·have e : l.length = lits + dists := by simp at e; omega
  rw [if_pos e] at hq
  refine aE R1 rfl rfl (aE R3 rfl rfl (aE R4 rfl rfl (aD (S5.front (by omega) fun va Ra=>?_))))
  refine aE R3 rfl rfl (aE R4 rfl rfl (aD (S5.back (by omega) fun vb Rb=>?_)))
  refine wI (D.ext U) (fun i hi=>hF i (Nat.le_trans U.1 hi)) hd Ra Rb (by rw [List.length_take]; omega) (by rw [List.length_drop]; omega) (fun x hx=>by have:=h16 x (List.mem_of_mem_take hx); omega) (fun x hx=>by have:=h16 x (List.mem_of_mem_drop hx); omega) fun e1 h6 r6 P=>aD (.inl (hq e1 h6 r6 ?_))
  exact P.from U (fun _ _ h=>h.elim) (fun _ _ h=>h) rfl rfl rfl
 ·have e : ¬ l.length = lits + dists := by simp at e; omega
  rw [if_neg e] at hq
  refine cF fun h6 l6 U6 R6=>?_
  refine aR R6 rfl (ltr rfl) (hk:=fun h7 l7 U7 R7=>?_)
  have U67:Upd (fun _=>False) h5 h7:=U6.own U7 (Nat.le_refl _)
  have V:=U.then U67
  have R1:=R1.upd U67 fun h=>h
  have R2:=R2.upd U67 fun h=>h
  have R3:=R3.upd U67 fun h=>h
  have R4:=R4.upd U67 fun h=>h
  have R5:=R5.upd U67 fun h=>h
  have hic:=A.recd.lt
  have G:∀ {i},h.length≤i→(Gd F d r i∧i≠ic)∧¬ aQ lv i:=fun hi=>⟨⟨D.gd hF hi,by omega⟩,fun hs=>by have:=S.1.lt hs; omega⟩
  refine aE R1 rfl rfl (aE R2 rfl rfl ?_)
  refine oR (D.ext V) hd (l:=c) (ic:=ic) (sym:=symc) (c:=.lens c l lits dists) (A.upd V (fun _ _ h=>h) fun i _ hi=>hi) ⟨_,_,_,_,_,_,lv,rfl,⟨S.1.upd V fun _ _ h=>h,fun i hi=>⟨(S.2 i hi).1,(S.2 i hi).2.1⟩⟩,fun i hi=>(S.2 i hi).2.2,⟨_,rfl,R1,G (Nat.le_refl _)⟩,⟨_,rfl,R2,G (by omega)⟩,⟨_,rfl,R3,G (by omega)⟩,⟨_,rfl,R4,G (by omega)⟩,⟨_,rfl,R5,G (by omega)⟩,⟨_,rfl,R7,G (by omega)⟩⟩
   ⟨by decide,by decide,fun v hv=>⟨hc19,hl1,hd1,by omega,h16,by omega⟩⟩ fun h8 r8 P=>aD (.inl (hq 0 h8 r8 ?_))
  exact P.from V (fun _ _ h=>h.elim) (fun _ _ h=>h) rfl rfl rfl
theorem xG {l:List Nat} {i n lits dists:Nat} {lv:AV} (hl1:lits≤286) (hd1:dists≤30) (h19:l.length=19) (h8:∀ x∈l,x<8) (hin:i≤n) (hn:n≤19) (D:Dec L h F d r out told) (hF:∀ i,h.length≤i→F i) (hd:r.done=false) (A:dG h (Gd F d r) lv l)
  (hq:∀ e h' r',cN (· = d) L h F d r told (Infl.thirdW ⟨out,r.last,r.skip⟩ l i n lits dists) e h' r'→Q (.i .i64 e) h'):C Y45.id [dp d,lv,iN i,iN n,iN lits,iN dists] h Q:=by
 refine Y45.call ?_
 simp only [Y45.t]
 have hparts:lv.parts=[lv]:=by obtain ⟨id,b,rfl,_⟩:=A; rfl
 have hlt:∀ j,aQ lv j→j<h.length:=fun j hj=>A.rd.lt hj
 refine bT (hk:=fun h1 l1 U1 R1=>?_)
 refine bT (hs:=by obtain ⟨id,b,rfl,_⟩:=A; rfl) (hk:=fun h2 l2 U2 R2=>?_)
 rw [hparts] at R2 ⊢
 refine bT (hk:=fun h3 l3 U3 R3=>?_)
 refine bT (hk:=fun h4 l4 U4 R4=>?_)
 refine bT (hk:=fun h5 l5 U5 R5=>?_)
 refine bT (hk:=fun h6 l6 U6 R6=>?_)
 have U56:=U5.then U6
 have U46:=U4.then U56
 have U36:=U3.then U46
 have U26:=U2.then U36
 have U:=U1.then U26
 have R1:=R1.upd U26 fun h=>h
 have R2:=R2.upd U36 fun h=>h
 have R3:=R3.upd U46 fun h=>h
 have R4:=R4.upd U56 fun h=>h
 have R5:=R5.upd U6 fun h=>h
 have A6:dG h6 (Gd F d r) lv l:=A.upd U (fun _ _ h=>h) fun _ _ h=>h
 refine aE R3 rfl rfl (aD (aE R4 rfl rfl (aD ?_)))
 unfold Infl.thirdW at hq
 refine aP ?_ ?_ <;> intro e
 ·have e : i = n := by simp at e; omega
  rw [if_pos e] at hq
  refine aE R2 rfl rfl ?_
  refine oD A6.rd.i (by omega) (fun x hx=>by have:=h8 x hx; omega) (fun hn e he=>?_) fun hok h7 ic sym U7 Ac=>?_
  ·simp only [d6, d7]
   rw [if_neg hn] at hq
   refine aD (bA (by simp [he]) (.inl (hq 2 h6 r ?_)))
   exact ⟨U.mono fun _ _ h=>h.elim,fun _ _ h=>h,D.ext U,rfl,rfl,rfl,rfl,.inl rfl,hd⟩
  ·simp only [d6, d7]
   rw [if_pos hok] at hq
   refine aD (aV rfl ?_)
   have V:=U.then U7
   have hU:=U.1
   have Ag:bZ h7 (Gd F d r) ic l sym 0 0:={ Ac with g:=D.gd hF (Nat.le_trans hU Ac.g),gs:=fun i hi=>⟨D.gd hF (Nat.le_trans hU (Ac.gs i hi).1),(Ac.gs i hi).2⟩ }
   refine aE (R1.upd U7 fun h=>h) rfl rfl (aE (R5.upd U7 fun h=>h) rfl rfl (aD (aE (R6.upd U7 fun h=>h) rfl rfl (aD ?_))))
   refine mC (l:=[]) (by omega) hl1 hd1 (Nat.zero_le _) (fun x hx=>by cases hx) (D.ext V) (fun i hi=>hF i (Nat.le_trans V.1 hi)) hd Ag ⟨.inl ⟨rfl,rfl⟩,fun _ h=>h.elim⟩ fun e h8 r8 P=>aD (.inl (hq e h8 r8 ?_))
   exact P.from V (fun _ _ h=>h.elim) (fun _ _ h=>h) rfl rfl rfl
 ·have e : ¬ i = n := by simp at e; omega
  rw [if_neg e] at hq
  have G:∀ {i},h.length≤i→Gd F d r i∧¬ aQ lv i:=fun hi=>⟨D.gd hF hi,fun hs=>by have:=hlt _ hs; omega⟩
  refine aE R1 rfl rfl ?_
  refine dI (D.ext U) hd (c:=.third l i n lits dists) ⟨_,_,_,_,_,_,lv,rfl,A6,⟨_,rfl,R2,G (by omega)⟩,⟨_,rfl,R3,G (by omega)⟩,⟨_,rfl,R1,G (Nat.le_refl _)⟩,⟨_,rfl,R4,G (by omega)⟩,⟨_,rfl,R5,G (by omega)⟩,⟨_,rfl,R6,G (by omega)⟩⟩
   ⟨by decide,by decide,.inl (by decide),fun v hv=>⟨hl1,hd1,h19,by omega,hn,h8,hv⟩⟩ fun h7 r7 P=>aD (.inl (hq 0 h7 r7 ?_))
  exact P.from U (fun _ _ h=>h.elim) (fun _ _ h=>h) rfl rfl rfl
theorem aEF {x lits dists:Nat} {v:AV} (D:Dec L h F d r out told) (hF:∀ i,h.length≤i→F i) (hd:r.done=false) (hc:Clo h (Gd F d r) d 0 (.p none) (.dyn3 lits dists) v) (hf:fit (.dyn3 lits dists) x)
  (hq:∀ e h' r',cN F L h F d r told (Infl.apply L r.input ⟨out,r.last,r.skip⟩ x (.dyn3 lits dists)) e h' r'→Q (.i .i64 e) h'):bV C v [iN x] h Q:=by
 obtain ⟨bd,bl,bs,rfl,B,Bl,Bs⟩:=hc
 obtain ⟨f1,f2,f3⟩:=hf
 refine cR (by decide) (Y54.call ?_)
 simp only [Y54.t,B.ld,Bl.ld,Bs.ld,gQ]
 refine dM (n:=((x+4:Nat):Int)) (by omega) (by omega) (by omega) ?_
 refine pM (n:=19) (by decide) fun v h1 U1 A1=>?_
 have up:∀ {y z},Bx h (Gd F d r) y z→Bx h1 (Gd F d r) y z:=fun B=>B.upd U1 (fun _ _ h=>h) fun _ _ h=>h
 simp only [(up B).ld,(up Bl).ld,(up Bs).ld,gQ,mB,true_and]
 refine xG (l:=List.replicate 19 0) (i:=0) f1 f2 (by simp) (fun x hx=>by rw [(List.mem_replicate.1 hx).2]; decide) (by omega) (by omega) (D.ext U1) (fun i hi=>hF i (Nat.le_trans U1.1 hi)) hd (A1.mono fun i _ hi=>D.gd hF hi) fun e h2 r2 P=>aD (.inl (hq e h2 r2 ?_))
 exact (P.from U1 (fun _ _ h=>h.elim) (fun _ _ h=>h) rfl rfl rfl).mono fun i _ e=>D.f i (.inl e)
theorem aB2:∀ i,i<19→Infl.order[i]? = some (Infl.order.getD i 0)∧Infl.order.getD i 0<19:=by decide
abbrev cE (h:aA):Prop:=rO h 0 (bB Infl.order)
theorem aDK {x i n lits dists:Nat} {l:List Nat} {v:AV} (O:cE h) (D:Dec L h F d r out told) (hF:∀ i,h.length≤i→F i) (hd:r.done=false) (hc:Clo h (Gd F d r) d 0 (.p none) (.third l i n lits dists) v) (hf:fit (.third l i n lits dists) x)
  (hq:∀ e h' r',cN F L h F d r told (Infl.apply L r.input ⟨out,r.last,r.skip⟩ x (.third l i n lits dists)) e h' r'→Q (.i .i64 e) h'):bV C v [iN x] h Q:=by
 obtain ⟨bl,bi,bd,bn,bt,bs,lv,rfl,A,Bl,Bi,B,Bn,Bt,Bs⟩:=hc
 obtain ⟨f1,f2,f3,f4,f5,f6,f7⟩:=hf
 obtain ⟨o1,o2⟩:=aB2 i (by omega)
 refine cR (by decide) (Y50.call ?_)
 simp only [Y50.t,Bl.ld,Bi.ld,gQ]
 rw [O.var]
 refine ⟨by omega,by omega, ?_⟩
 refine O.ld (o:=0+(i:Int).toNat * 1) (v:=iN (Infl.order.getD i 0)) rfl (by rw [Int.toNat_natCast,Nat.mul_one,Nat.zero_add]; exact hP o1) (aD ?_)
 refine A.store (by omega) fun h1 l1 U1 A1=>?_
 have up:∀ {y z},Bx h (fun i=>Gd F d r i∧¬ aQ lv i) y z→Bx h1 (fun i=>Gd F d r i∧¬ aQ lv i) y z:=fun B=>B.upd U1 (fun i hi=>hi.2) fun _ _ h=>h
 simp only [(up B).ld,(up Bl).ld,(up Bi).ld,(up Bn).ld,(up Bt).ld,(up Bs).ld,gQ]
 have hlv:∀ i,aQ lv i→Gd F d r i:=fun i hi=>by obtain ⟨id,b,rfl,_,_,_,_,_,g⟩:=A; have e:id=i:=hi; exact e ▸ g
 refine inc (by omega) ?_
 refine xG (l:=l.set (Infl.order.getD i 0) x) (i:=i+1) f1 f2 (by rw [List.length_set]; exact f3) (fun y hy=>?_) (by omega) f5 (D.upd U1 fun i hm hi=>(hlv i hi).2 hm) (fun i hi=>hF i (by omega)) hd A1 fun e h2 r2 P=>aD (.inl (hq e h2 r2 ?_))
 ·rcases List.mem_or_eq_of_mem_set hy with h | h
  ·exact f6 y h
  ·rw [h]; exact f7
 ·exact (P.mono (N:=F) fun i _ e=>D.f i (.inl e)).from U1 (fun i _ hi=>(hlv i hi).1) (fun _ _ h=>h) rfl rfl rfl
theorem mQ {bd bl bt bs bc lv symc:AV} {c l:List Nat} {lits dists ic bits m x:Nat} (D:Dec L h F d r out told) (hF:∀ i,h.length≤i→F i) (hd:r.done=false) (A:bZ h (Gd F d r) ic c symc 0 0) (S:Lst h (fun i=>Gd F d r i∧i≠ic∧¬ aQ symc i) lv l)
  (B:Bx h (fun i=>Gd F d r i∧¬ aQ lv i) bd (dp d)) (Bl:Bx h (fun i=>Gd F d r i∧¬ aQ lv i) bl lv) (Bt:Bx h (fun i=>Gd F d r i∧¬ aQ lv i) bt (iN lits)) (Bs:Bx h (fun i=>Gd F d r i∧¬ aQ lv i) bs (iN dists)) (Bc:Bx h (fun i=>Gd F d r i∧¬ aQ lv i) bc (cp ic))
  (hb0:0<bits) (hb:bits≤7) (hfit:∀ v,v<2 ^ bits→fit (.rep c l lits dists m x) v)
  (hq:∀ h' r',cN (· = d) L h F d r told (.wait ⟨out,r.last,r.skip⟩ (.num bits 0 0) (.rep c l lits dists m x)) 0 h' r'→Q (iN 0) h'):bV C (Fn Y39.id [bd,bl,bt,bs,bc]) [iN bits,iN m,iN x] h Q:=by
 refine cR (by decide) (Y39.call ?_)
 simp only [Y39.t]
 refine bT (hk:=fun h1 l1 U1 R1=>?_)
 refine bT (hk:=fun h2 l2 U2 R2=>?_)
 have U:=U1.then U2
 have R1:=R1.upd U2 fun h=>h
 have up:∀ {y z},Bx h (fun i=>Gd F d r i∧¬ aQ lv i) y z→Bx h2 (fun i=>Gd F d r i∧¬ aQ lv i) y z:=fun B=>B.upd U (fun _ _ h=>h) fun _ _ h=>h
 have G:∀ {i},h.length≤i→Gd F d r i∧¬ aQ lv i:=fun hi=>⟨D.gd hF hi,fun hs=>by have:=S.1.lt hs; omega⟩
 rw [(up B).ld]
 refine dI (D.ext U) hd (c:=.rep c l lits dists m x) ⟨_,_,_,_,_,_,_,ic,symc,lv,rfl,S.upd U (fun _ _ h=>h) fun _ _ h=>h,A.upd U (fun _ _ h=>h) fun _ _ h=>h,up Bl,⟨_,rfl,R1,G (Nat.le_refl _)⟩,up Bt,up Bs,up B,up Bc,⟨_,rfl,R2,G (by omega)⟩⟩
  ⟨by omega,by simp,.inl hb0,hfit⟩ fun h3 r3 P=>aD (.inl (hq h3 r3 ?_))
 exact P.from U (fun _ _ h=>h.elim) (fun _ _ h=>h) rfl rfl rfl
theorem aD5 {x ic lits dists : Nat} {sym : AV} {c l : List Nat} {v : AV} (D : Dec L h F d r out told) (hF : ∀ i, h.length ≤ i → F i) (hd : r.done = false) (A : bZ h (Gd F d r) ic c sym 0 0) (hc : Clo h (fun i => Gd F d r i ∧ i ≠ ic) d ic sym (.lens c l lits dists) v) (hf : fit (.lens c l lits dists) x)
  (hq:∀ e h' r',cN F L h F d r told (Infl.apply L r.input ⟨out,r.last,r.skip⟩ x (.lens c l lits dists)) e h' r'→Q (.i .i64 e) h'):bV C v [iN x] h Q:=by
 obtain ⟨bd,bc,bl,bt,bs,br,lv,rfl,S0,hns,B,Bc,Bl,Bt,Bs,Br⟩:=hc
 obtain ⟨f0,f1,f2,f3,f4,f5⟩:=hf
 have S:Lst h (fun i=>Gd F d r i∧i≠ic∧¬ aQ sym i) lv l:=⟨S0.1,fun i hi=>⟨(S0.2 i hi).1,(S0.2 i hi).2,hns i hi⟩⟩
 have w:∀ {y z},Bx h (fun i=>(Gd F d r i∧i≠ic)∧¬ aQ lv i) y z→Bx h (fun i=>Gd F d r i∧¬ aQ lv i) y z:=fun B=>B.upd (Upd.refl (fun _=>False) h) (fun _ _ h=>h) fun i _ hi=>⟨hi.1.1,hi.2⟩
 have B:=w B
 have Bc:=w Bc
 have Bl:=w Bl
 have Bt:=w Bt
 have Bs:=w Bs
 have Br:=w Br
 have hFd:∀ i,h.length≤i→F i:=hF
 refine cR (by decide) (Y24.call ?_)
 simp only [Y24.t, ← Y24.p0.eq_1]
 simp only [Infl.apply] at hq
 refine aP ?_ ?_ <;> intro e0
 ·have e0 : x < 16 := by simp at e0; omega
  rw [if_pos e0] at hq
  simp only [B.ld,Bc.ld,Bl.ld,Bt.ld,Bs.ld,gQ]
  refine eS (cs:=bB [x]) rfl rfl fun y h1 l1 U1 R1 F1=>?_
  have up:∀ {y z},Bx h (fun i=>Gd F d r i∧¬ aQ lv i) y z→Bx h1 (fun i=>Gd F d r i∧¬ aQ lv i) y z:=fun B=>B.upd U1 (fun _ _ h=>h) fun _ _ h=>h
  simp only [(up B).ld,(up Bc).ld,(up Bl).ld,(up Bt).ld,(up Bs).ld,gQ,mB,true_and]
  have S1:Exa h1 lv l:=S.1.upd U1 fun _ _ h=>h
  refine S1.app (ns:=[x]) (fun K hk=>R1.news hk) Nat.one_pos (by simp; omega) fun lv' h2 U2 S2 N2=>?_
  have up2:∀ {y z},Bx h (fun i=>Gd F d r i∧¬ aQ lv i) y z→Bx h2 (fun i=>Gd F d r i∧¬ aQ lv i) y z:=fun B=>(up B).upd U2 (fun i hi=>hi.2) fun _ _ h=>h
  simp only [(up2 B).ld,(up2 Bc).ld,(up2 Bt).ld,(up2 Bs).ld,gQ,mB,true_and]
  have U:Upd (aQ lv) h h2:=(U1.mono fun _ _ h=>h.elim).trans U2 fun _ _ h=>h
  have hic:=A.recd.lt
  refine mC (l:=l++[x]) f0 f1 f2 (by simp; omega) (fun y hy=>?_) (D.upd U fun i hm hi=>(S.2 i hi).1.2 hm) (fun i hi=>hF i (Nat.le_trans U.1 hi)) hd { A with recd:=A.recd.upd U fun hs=>(S.2 ic hs).2.1 rfl,syms:=A.syms.upd U fun i hi hs=>(S.2 i hs).2.2 hi,gs:=fun i hi=>⟨(A.gs i hi).1,(A.gs i hi).2.1,Nat.lt_of_lt_of_le (A.gs i hi).2.2 U.1⟩ } ⟨S2,fun i hi=>?_⟩ fun e h3 r3 P=>aD (.inl (hq e h3 r3 ?_))
  ·rcases List.mem_append.1 hy with h | h
   ·exact f4 y h
   ·simp at h; omega
  ·rcases N2 i hi with g | g
   ·exact S.2 i g
   ·have := U1.1
    exact ⟨D.gd hF (by omega),by omega,fun hs=>by have:=(A.gs i hs).2.2; omega⟩
  ·exact (P.mono (N:=F) fun i _ e=>D.f i (.inl e)).from U (fun i _ hi=>(S.2 i hi).1.1) (fun _ _ h=>h) rfl rfl rfl
 ·have e0 : ¬ x < 16 := by simp at e0; omega
  rw [if_neg e0] at hq
  have P0 : ∀ t, t = decide (x = 16 ∧ l = []) → Y24.p0 (aK h Q) x bl br t h := fun t ht => by
   refine Y24.i0 ?_
   simp only [Y24.t0]
   by_cases h16:x=16
   ·rw [if_pos h16] at hq
    by_cases hl:l=[]
    ·rw [if_pos hl] at hq
     refine bA (by rw [ht]; exact decide_eq_true ⟨h16,hl⟩) (.inl (hq 2 h r ?_))
     exact ⟨Upd.refl _ _,fun _ _ h=>h,D,rfl,rfl,rfl,rfl,.inl rfl,hd⟩
    ·rw [if_neg hl] at hq
     refine aV (by rw [ht]; exact decide_eq_false fun hh=>hl hh.2) (bA (by simp; omega) ?_)
     have hpos:0<l.length:=List.length_pos_iff.2 hl
     simp only [Bl.ld,Br.ld]
     refine S.1.rd.len (dM (n:=((l.length - 1:Nat):Int)) (by omega) (by omega) (by omega) ?_)
     have hlast:l[l.length - 1]? = some (l.getLastD 0):=by
      rw [List.getLastD_eq_getLast?,List.getLast?_eq_getElem?]
      rw [List.getElem?_eq_getElem (by omega)] <;> rfl
     have hx16:=f4 _ (List.mem_of_getElem? hlast)
     refine j1 S.1.rd.i hlast ?_
     refine mQ (bits:=2) (m:=3) D hF hd A S B Bl Bt Bs Bc (by decide) (by decide) (fun v hv=>⟨f0,f1,f2,f3,f4,hx16,by decide,by omega⟩) fun h1 r1 P=>aD (.inl (hq 0 h1 r1 (P.mono fun i _ e=>D.f i (.inl e))))
   ·rw [if_neg h16] at hq
    refine aV (by rw [ht]; exact decide_eq_false fun hh=>h16 hh.1) (aV (by simp; omega) ?_)
    refine aP ?_ ?_ <;> intro e1
    ·have e1 : x = 17 := by simp at e1; omega
     rw [if_pos e1] at hq
     simp only [Br.ld]
     refine mQ (bits:=3) (m:=3) (x:=0) D hF hd A S B Bl Bt Bs Bc (by decide) (by decide) (fun v hv=>⟨f0,f1,f2,f3,f4,by decide,by decide,by omega⟩) fun h1 r1 P=>aD (.inl (hq 0 h1 r1 (P.mono fun i _ e=>D.f i (.inl e))))
    ·have e1 : ¬ x = 17 := by simp at e1; omega
     rw [if_neg e1] at hq
     simp only [Br.ld]
     refine mQ (bits:=7) (m:=11) (x:=0) D hF hd A S B Bl Bt Bs Bc (by decide) (by decide) (fun v hv=>⟨f0,f1,f2,f3,f4,by decide,by decide,by omega⟩) fun h1 r1 P=>aD (.inl (hq 0 h1 r1 (P.mono fun i _ e=>D.f i (.inl e))))
  refine aP ?_ ?_ <;> intro e1
  ·have e1 : x = 16 := by simp at e1; omega
   simp only [Bl.ld]
   refine S.1.rd.len (P0 _ ?_)
   rw [decide_eq_decide]
   constructor
   ·intro hh; exact ⟨e1,List.eq_nil_of_length_eq_zero (by omega)⟩
   ·rintro ⟨_,rfl⟩; rfl
  ·have e1 : ¬ x = 16 := by simp at e1; omega
   exact P0 _ (decide_eq_false fun hh=>e1 hh.1).symm
theorem aFF {x lits dists m y : Nat} {c l : List Nat} {v : AV} (D : Dec L h F d r out told) (hF : ∀ i, h.length ≤ i → F i) (hd : r.done = false) (hc : Clo h (Gd F d r) d 0 (.p none) (.rep c l lits dists m y) v) (hf : fit (.rep c l lits dists m y) x)
  (hq:∀ e h' r',cN F L h F d r told (Infl.apply L r.input ⟨out,r.last,r.skip⟩ x (.rep c l lits dists m y)) e h' r'→Q (.i .i64 e) h'):bV C v [iN x] h Q:=by
 obtain ⟨bl,bm,bt,bs,bd,bc,bx,ic,symc,lv,rfl,S,A,Bl,Bm,Bt,Bs,B,Bc,Bx'⟩:=hc
 obtain ⟨f0,f1,f2,f3,f4,f5,f6,f7⟩:=hf
 refine cR (by decide) (Y63.call ?_)
 simp only [Y63.t,B.ld,Bc.ld,Bl.ld,Bm.ld,Bt.ld,Bs.ld,Bx'.ld,gQ]
 simp only [Infl.apply] at hq
 refine S.1.rd.len ?_
 refine dM (n:=((l.length+m:Nat):Int)) (by omega) (by omega) (by omega) ?_
 refine dM (n:=((l.length+(m+x):Nat):Int)) (by omega) (by omega) (by omega) ?_
 refine dM (n:=((lits+dists:Nat):Int)) (by omega) (by omega) (by omega) ?_
 refine aP ?_ ?_ <;> intro e0
 ·have e0 : lits + dists < l.length + (m + x) := by simp at e0; omega
  rw [if_pos e0] at hq
  exact .inl (hq 2 h r ⟨Upd.refl _ _,fun _ _ h=>h,D,rfl,rfl,rfl,rfl,.inl rfl,hd⟩)
 ·have e0 : ¬ lits + dists < l.length + (m + x) := by simp at e0; omega
  rw [if_neg e0] at hq
  refine dM (n:=((m+x:Nat):Int)) (by omega) (by omega) (by omega) ?_
  refine eS (cs:=bB [y]) rfl rfl fun z h1 l1 U1 R1 F1=>?_
  have up:∀ {y z},Bx h (fun i=>Gd F d r i∧¬ aQ lv i) y z→Bx h1 (fun i=>Gd F d r i∧¬ aQ lv i) y z:=fun B=>B.upd U1 (fun _ _ h=>h) fun _ _ h=>h
  simp only [(up B).ld,(up Bc).ld,(up Bl).ld,(up Bm).ld,(up Bt).ld,(up Bs).ld,(up Bx').ld,gQ,mB,true_and]
  refine sP R1.i (by omega) (by omega) fun h2 z2 U2 A2=>?_
  have U12:=U1.then U2
  have up2:∀ {y z},Bx h (fun i=>Gd F d r i∧¬ aQ lv i) y z→Bx h2 (fun i=>Gd F d r i∧¬ aQ lv i) y z:=fun B=>B.upd U12 (fun _ _ h=>h) fun _ _ h=>h
  simp only [(up2 B).ld,(up2 Bc).ld,(up2 Bl).ld,(up2 Bm).ld,(up2 Bt).ld,(up2 Bs).ld,(up2 Bx').ld,gQ,mB,true_and]
  have S2:Exa h2 lv l:=S.1.upd U12 fun _ _ h=>h
  refine S2.app (ns:=List.replicate (m+x) y) (fun K hk=>A2.rd.i.news hk) (by simp; omega) (by simp; omega) fun lv' h3 U3 S3 N3=>?_
  have up3:∀ {y z},Bx h (fun i=>Gd F d r i∧¬ aQ lv i) y z→Bx h3 (fun i=>Gd F d r i∧¬ aQ lv i) y z:=fun B=>(up2 B).upd U3 (fun i hi=>hi.2) fun _ _ h=>h
  simp only [(up3 B).ld,(up3 Bc).ld,(up3 Bl).ld,(up3 Bm).ld,(up3 Bt).ld,(up3 Bs).ld,(up3 Bx').ld,gQ,mB,true_and]
  have U:Upd (aQ lv) h h3:=(U12.mono fun _ _ h=>h.elim).trans U3 fun _ _ h=>h
  have hic:=A.recd.lt
  refine mC (l:=l++List.replicate (m+x) y) f0 f1 f2 (by simp; omega) (fun y' hy=>?_) (D.upd U fun i hm hi=>(S.2 i hi).1.2 hm) (fun i hi=>hF i (Nat.le_trans U.1 hi)) hd { A with recd:=A.recd.upd U fun hs=>(S.2 ic hs).2.1 rfl,syms:=A.syms.upd U fun i hi hs=>(S.2 i hs).2.2 hi,gs:=fun i hi=>⟨(A.gs i hi).1,(A.gs i hi).2.1,Nat.lt_of_lt_of_le (A.gs i hi).2.2 U.1⟩ } ⟨S3,fun i hi=>?_⟩ fun e h4 r4 P=>aD (.inl (hq e h4 r4 ?_))
  ·rcases List.mem_append.1 hy with h | h
   ·exact f4 y' h
   ·rw [(List.mem_replicate.1 h).2]; exact f5
  ·rcases N3 i hi with g | g
   ·exact S.2 i g
   ·have := U12.1
    exact ⟨D.gd hF (by omega),by omega,fun hs=>by have:=(A.gs i hs).2.2; omega⟩
  ·exact (P.mono (N:=F) fun i _ e=>D.f i (.inl e)).from U (fun i _ hi=>(S.2 i hi).1.1) (fun _ _ h=>h) rfl rfl rfl
end
end Go.Proofs.YtpaphfeihpgamaaDoor
namespace Go.Proofs.YtpaphfeihpgamaaDoor
open Go.GAM
def eY (l:List Nat) (i:Nat):List Nat:=(List.range 16).map fun n=>Huff.fst l n+Huff.cnt (l.take i) n
def mT (l:List Nat) (i:Nat):List Nat:=(List.range l.length).map fun j=>if j<i∧0<l.getD j 0 then Huff.codeAt l j else 0
def gD (l:List Nat):List Nat:=mT l l.length
theorem gU (l:List Nat) (i:Nat):(eY l i).length=16:=by simp [eY]
theorem jR (l:List Nat) (i:Nat):(mT l i).length=l.length:=by simp [mT]
theorem pS (l:List Nat) (i:Nat) {n:Nat} (h:n<16):(eY l i)[n]? = some (Huff.fst l n+Huff.cnt (l.take i) n):=by simp [eY,h]
theorem nX (l:List Nat) (i:Nat) {j:Nat} (h:j<l.length):(mT l i)[j]? = some (if j<i∧0<l.getD j 0 then Huff.codeAt l j else 0):=by simp [mT,h]
theorem zB {l:List Nat} {j:Nat} (h:j<l.length) (h0:0<l.getD j 0):(gD l)[j]? = some (Huff.codeAt l j):=by
 rw [gD,nX l _ h,if_pos ⟨h,h0⟩]
theorem uV (l:List Nat):eY l 0=(List.range 16).map (Huff.fst l):=by
 unfold eY
 exact List.map_congr_left fun j _=>by
  have:Huff.cnt (l.take 0) j=0:=by cases j <;> rfl
  rw [this] <;> rfl
theorem zQ (l:List Nat):mT l 0=List.replicate l.length 0:=by
 refine List.ext_getElem? fun j=>?_
 by_cases hj:j<l.length
 ·rw [nX l 0 hj,if_neg (by omega)]; simp [hj]
 ·rw [List.getElem?_eq_none (by rw [jR]; omega),List.getElem?_eq_none (by simp; omega)]
theorem xQ {l:List Nat} {i x:Nat} (hx:l[i]? = some x) (h0:0<x) (h:x<16):(eY l i).set x (Huff.fst l x+Huff.cnt (l.take i) x+1)=eY l (i+1):=by
 refine List.ext_getElem? fun j=>?_
 rw [List.getElem?_set]
 by_cases hj:j<16
 ·rw [pS l i hj, pS l (i + 1) hj, fH hx, lK]
  by_cases e:x=j
  ·subst e; rw [if_pos rfl,if_pos (by rw [gU]; exact h),if_pos ⟨h0,rfl⟩] <;> rfl
  ·rw [if_neg e,if_neg (by omega)]
 ·rw [if_neg (by omega),List.getElem?_eq_none (by rw [gU]; omega),List.getElem?_eq_none (by rw [gU]; omega)]
theorem vA {l:List Nat} {i:Nat} (hx:l[i]? = some 0):eY l (i+1)=eY l i:=by
 unfold eY
 exact List.map_congr_left fun j _=>by rw [fH hx,lK,if_neg (by omega)]
theorem rT {l:List Nat} {i x:Nat} (hx:l[i]? = some x):l.getD i 0=x:=by rw [List.getD_eq_getElem?_getD,hx] <;> rfl
theorem yK {l:List Nat} {i x:Nat} (hx:l[i]? = some x) (h0:0<x):Huff.codeAt l i=Huff.fst l x+Huff.cnt (l.take i) x:=by
 unfold Huff.codeAt
 rw [rT hx]
 cases x with
 | zero=>omega
 | succ n=>rfl
theorem aAU {l : List Nat} {i x : Nat} (hx : l[i]? = some x) (h0 : 0 < x) : (mT l i).set i (Huff.fst l x + Huff.cnt (l.take i) x) = mT l (i + 1) := by
 have hi:=aI hx
 refine List.ext_getElem? fun j=>?_
 rw [List.getElem?_set]
 by_cases hj:j<l.length
 ·rw [nX l i hj, nX l (i + 1) hj]
  by_cases e:i=j
  ·subst e; rw [if_pos rfl,if_pos (by rw [jR]; exact hi),if_pos ⟨by omega,by rw [rT hx]; exact h0⟩,yK hx h0]
  ·rw [if_neg e]
   congr 1
   by_cases hji:j<i
   ·by_cases h2 : 0 < l.getD j 0
    ·rw [if_pos ⟨hji,h2⟩,if_pos ⟨by omega,h2⟩]
    ·rw [if_neg (fun h=>h2 h.2),if_neg (fun h=>h2 h.2)]
   ·rw [if_neg (fun h=>hji h.1),if_neg (fun h=>by omega)]
 ·rw [if_neg (by omega),List.getElem?_eq_none (by rw [jR]; omega),List.getElem?_eq_none (by rw [jR]; omega)]
theorem yG {l:List Nat} {i:Nat} (hx:l[i]? = some 0):mT l (i+1)=mT l i:=by
 unfold mT
 refine List.map_congr_left fun j _=>?_
 by_cases e:j=i
 ·subst e
  rw [if_neg (fun h=>by rw [rT hx] at h; omega),if_neg (fun h=>by omega)]
 ·by_cases hji : j < i
  ·by_cases h2 : 0 < l.getD j 0
   ·rw [if_pos ⟨by omega,h2⟩,if_pos ⟨hji,h2⟩]
   ·rw [if_neg (fun h=>h2 h.2),if_neg (fun h=>h2 h.2)]
  ·rw [if_neg (fun h=>by omega),if_neg (fun h=>hji h.1)]
section
variable [XR] {h:aA} {Q:AV→aA→Prop} {v:AV} {l:List Nat}
theorem yR (hl : l.length ≤ 320) (h15 : ∀ x ∈ l, x ≤ 15) {h0 : aA} {a : Nat} {x5 : AV} (R0 : RdI 1 h0 v (bB l) l.length) (ha : h0.length ≤ a) (hq : ∀ h', Upd (fun _ => False) h0 h' → dG h' (fun i => h0.length ≤ i) x5 (gD l) → Q x5 h') :
  ∀ (m i:Nat) (h:aA),i+m=l.length→Upd (fun _=>False) h0 h→bC h a (bB (eY l i))→dG h (fun i=>h0.length≤i∧i≠a) x5 (mT l i)→Y9.p1 (aK h0 Q) (.p (some ⟨a,16,0⟩)) x5 v l.length i h:=by
 intro m
 induction m with
 | zero =>
  intro i h hi U Ra O
  obtain rfl:i=l.length:=by omega
  refine Y9.i1 ?_
  simp only [Y9.t1]
  exact aV (by simp) (.inl (hq h U (O.mono fun i _ g=>g.1)))
 | succ m ih =>
  intro i h hi U Ra O
  have hil:i<l.length:=by omega
  obtain ⟨x,hx⟩:∃ x,l[i]? = some x:=⟨l[i],List.getElem?_eq_getElem hil⟩
  have hx15:x≤15:=h15 x (List.mem_of_getElem? hx)
  have R:=R0.ext U
  refine Y9.i1 ?_
  simp only [Y9.t1, ← Y9.p2.eq_1]
  refine bA (by simp; omega) ?_
  refine j1 R hx ?_
  have P2:∀ h',Upd (fun _=>False) h0 h'→bC h' a (bB (eY l (i+1)))→dG h' (fun i=>h0.length≤i∧i≠a) x5 (mT l (i+1))→Y9.p2 (aK h0 Q) (.p (some ⟨a,16,0⟩)) x5 v l.length i h':=fun h' U' R' O'=>by
   refine Y9.i2 ?_
   simp only [Y9.t2, ← Y9.p1.eq_1]
   exact inc (by omega) (ih (i+1) h' (by omega) U' R' O')
  refine aP (fun e=>?_) fun e=>?_
  ·have e : 0 < x := by simp at e; omega
   have tl:16=(bB (eY l i)).length:=by rw [aT,gU]
   have hn:=pS l i (show x<16 by omega)
   have hb1:=rE hl hx15
   have hb2:=kJ (l.take i) x
   have hb3:(l.take i).length≤l.length:=by simp; omega
   have ex:0+(x:Int).toNat * 1=x:=by rw [Int.toNat_natCast]; omega
   refine ⟨by omega,by omega, ?_⟩
   rw [ex]
   refine aE Ra tl (hP hn) (aD ?_)
   refine dG.store O (by rw [jR]; exact hil) fun h1 l1 U1 O1=>?_
   obtain ⟨idv,bv,hv,_,_,_,_,_,gv⟩:=O
   have Ra1:=Ra.upd U1 fun h=>by rw [hv] at h; exact gv.2 h
   refine ⟨by omega,by omega, ?_⟩
   rw [ex]
   refine aE Ra1 tl (hP hn) (aD ?_)
   refine aM (n:=((Huff.fst l x+Huff.cnt (l.take i) x+1:Nat):Int)) (by rw [aW (by omega) (by omega)]; omega) ?_
   refine ⟨by omega,by omega, ?_⟩
   rw [ex]
   refine aR Ra1 tl (by rw [← tl]; omega) (hk:=fun h2 l2 U2 R2=>?_)
   have Ub:Upd (fun _=>False) h0 h1:=U.ownP U1 fun j hj=>by
    rw [hv] at hj; cases hj; exact gv.1
   refine P2 h2 (Ub.own U2 ha) ?_ ?_
   ·rw [iZ,xQ hx e (by omega)] at R2; exact R2
   ·rw [aAU hx e] at O1
    exact O1.upd U2 (fun i g e=>g.2 e) fun i _ g=>g
  ·have e : x = 0 := by simp at e; omega
   subst e
   rw [← vA hx] at Ra
   rw [← yG hx] at O
   exact P2 h U Ra O
theorem tK (hl:l.length≤320) (h15:∀ x∈l,x≤15) (hk:Huff.checkP l≠1) (R:RdI 1 h v (bB l) l.length) (hq:∀ h' w,Upd (fun _=>False) h h'→dG h' (fun i=>h.length≤i) w (gD l)→Q w h'):C Y9.id [v] h Q:=by
 refine Y9.call ?_
 simp only [Y9.t, ← Y9.p0.eq_1]
 refine wV R hl h15 (aD ?_)
 have P0:∀ b,b=false→Y9.p0 (aK h Q) v b h:=fun b hb=>by
  subst hb
  refine Y9.i0 ?_
  simp only [Y9.t0, ← Y9.p1.eq_1]
  refine aV rfl ?_
  refine xD hl h15 R fun h1 U1=>?_
  have hf:((tab (d9 l) ((List.range 16).map (Huff.fst l))).drop 16).take 16=bB (eY l 0):=by
   unfold tab
   rw [List.drop_left' (by rw [aT,b7]),uV]
   exact List.take_of_length_le (by rw [aT]; simp)
  rw [show ∀ K:AV→Prop,j4 16 16 (AV.ag (tab (d9 l) ((List.range 16).map (Huff.fst l)))) K=K (.ag (bB (eY l 0))) from fun K=>by rw [← hf] <;> rfl]
  refine cF fun h2 l2 U2 R2=>?_
  refine gY R2 rfl (by rw [aT,gU]) (jX _) fun h3 l3 U3 R3=>?_
  refine R.len ?_
  refine pM (by omega) fun w h4 U4 A4=>?_
  refine R.len ?_
  have U:Upd (fun _=>False) h h4:=((U1.then U2).own U3 U1.1).then U4
  refine yR hl h15 R (a:=h1.length) U1.1 (fun h' U' O'=>hq h' w U' O') l.length 0 h4 (by omega) U ?_ ?_
  ·exact R3.upd U4 fun h=>h
  ·rw [zQ]
   exact A4.mono fun i _ g=>⟨by have:=U1.1; omega,by omega⟩
 unfold gJ
 rcases hc:Huff.checkP l with _ | _ | n
 ·exact aV rfl (P0 _ rfl)
 ·exact absurd hc hk
 ·exact bA rfl (P0 _ rfl)
end
end Go.Proofs.YtpaphfeihpgamaaDoor
namespace Go.Proofs.YtpaphfeihpgamaaDoor
open Go.GAM
def lsF (n k:Nat):Nat:=((List.range k).map (· + 257)).foldl (fun o s=>if (Infl.least s).1≤n then s else o) 257
theorem sR (n k:Nat):lsF n (k+1)=if (Infl.least (k+257)).1≤n then k+257 else lsF n k:=by
 unfold lsF
 rw [List.range_succ,List.map_append,List.foldl_append]
 first | done | rfl
def fsF (n k:Nat):Nat:=(List.range k).foldl (fun o s=>if (Infl.farOf s).1≤n then s else o) 0
theorem tV (n k:Nat):fsF n (k+1)=if (Infl.farOf k).1≤n then k else fsF n k:=by
 unfold fsF
 rw [List.range_succ,List.foldl_append]
 first | done | rfl
section
variable [XR] {h:aA} {Q:AV→aA→Prop}
theorem aDJ (n:Nat) (hq:Q (iN (lsF n 28)) h):∀ (m k:Nat),k+m=28→Y13.p0 Q n (lsF n k) ((k+257:Nat):Int) h:=by
 intro m
 induction m with
 | zero =>
  intro k hk
  obtain rfl:k=28:=by omega
  refine Y13.i0 ?_
  simp only [Y13.t0]
  exact aV (by decide) hq
 | succ m ih =>
  intro k hk
  refine Y13.i0 ?_
  simp only [Y13.t0, ← Y13.p1.eq_1]
  refine bA (decide_eq_true (by omega)) ?_
  refine oZ (x:=k+257) (by omega) (by omega) ?_
  simp only [d6,d7]
  refine aD (aD ?_)
  have nxt:∀ o:Nat,o=lsF n (k+1)→Y13.p1 Q n o ((k+257:Nat):Int) h:=fun o ho=>by
   subst ho
   refine Y13.i1 ?_
   simp only [Y13.t1, ← Y13.p0.eq_1]
   refine aM (n:=((k+1+257:Nat):Int)) (by rw [aW (by omega) (by omega)]; omega) (ih (k+1) (by omega))
  refine aP (fun e=>?_) fun e=>?_
  ·exact nxt _ (by rw [sR,if_pos (by simp at e; omega)])
  ·exact nxt _ (by rw [sR,if_neg (by simp at e; omega)])
theorem aD6 {n:Nat} (hq:Q (iN (Infl.lenSym n)) h):C Y13.id [iN n] h Q:=by
 refine Y13.call ?_
 simp only [Y13.t, ← Y13.p0.eq_1]
 refine aP (fun e=>?_) fun e=>?_
 ·refine .inl ?_
  have:Infl.lenSym n=285:=by unfold Infl.lenSym; rw [if_pos (by simp at e; omega)]
  rw [this] at hq; exact hq
 ·have : Infl.lenSym n = lsF n 28 := by unfold Infl.lenSym; rw [if_neg (by simp at e; omega)] <;> rfl
  rw [this] at hq
  exact aDJ n (.inl hq) 28 0 (by omega)
theorem aCV (n:Nat) (hq:Q (iN (fsF n 30)) h):∀ (m k:Nat),k+m=30→Y14.p0 Q n (fsF n k) (k:Int) h:=by
 intro m
 induction m with
 | zero =>
  intro k hk
  obtain rfl:k=30:=by omega
  refine Y14.i0 ?_
  simp only [Y14.t0]
  exact aV (by decide) hq
 | succ m ih =>
  intro k hk
  refine Y14.i0 ?_
  simp only [Y14.t0, ← Y14.p1.eq_1]
  refine bA (decide_eq_true (by omega)) ?_
  refine kI (x:=k) (by omega) ?_
  simp only [d6,d7]
  refine aD (aD ?_)
  have nxt:∀ o:Nat,o=fsF n (k+1)→Y14.p1 Q n o (k:Int) h:=fun o ho=>by
   subst ho
   refine Y14.i1 ?_
   simp only [Y14.t1, ← Y14.p0.eq_1]
   exact inc (by omega) (ih (k+1) (by omega))
  refine aP (fun e=>?_) fun e=>?_
  ·exact nxt _ (by rw [tV,if_pos (by simp at e; omega)])
  ·exact nxt _ (by rw [tV,if_neg (by simp at e; omega)])
theorem aEL {n:Nat} (hq:Q (iN (Infl.farSym n)) h):C Y14.id [iN n] h Q:=by
 refine Y14.call ?_
 simp only [Y14.t, ← Y14.p0.eq_1]
 exact aCV n (.inl hq) 30 0 (by omega)
end
structure Row where
 c:UInt8
 n:Nat
 d:Nat
def Row.cells (r:Row):List AV:=[byteAV r.c,iN r.n,iN r.d]
def Row.item (r:Row):Infl.Item:=if r.n=0 then .byte r.c else .copy r.n r.d
def jH (l:List Row):List AV:=l.flatMap Row.cells
theorem uD:∀ (l:List Row) (i:Nat) (r:Row),l[i]? = some r→((jH l).drop (i * 3)).take 3=r.cells
 | x :: l,0,r,h=>by cases h; rfl
 | x :: l, i + 1, r, h => by
  have h:l[i]? = some r:=h
  show ((x.cells++jH l).drop ((i+1) * 3)).take 3=_
  rw [show (i+1) * 3=x.cells.length+i * 3 by show _=3+i * 3; omega,List.drop_append,List.drop_eq_nil_of_le (by omega),Nat.add_sub_cancel_left,List.nil_append]
  exact uD l i r h
def Row.ok (r:Row):Prop:=r.n=0∨3≤r.n∧r.n≤258∧1≤r.d∧r.d≤32768
section
variable [XR] {h:aA} {Q:AV→aA→Prop} {G:Nat→Prop} {w:Nat}
theorem Rd.triple {h:aA} {v:AV} {l:List Row} {k:IntKind} {i:Nat} {r:Row} (R:Rd 3 h v (jH l) l.length) (hr:l[i]? = some r) {K:AV→Prop} (hk:K (.ag r.cells)):aX 3 v (.i k (i:Int)) h fun a=>cP 3 a h K:=by
 have hi:=aI hr
 obtain ⟨p,P,hp⟩:=R.i.at hi
 rw [uD l i r hr] at P
 exact hp k h _ (Upd.refl _ _) (P.loadN hk)
theorem qY {l:List Nat} {m:Nat} (h:∀ x∈l,x≤m) (j:Nat):l.getD j 0≤m:=by
 rw [List.getD_eq_getElem?_getD]
 cases hj:l[j]? with
 | none=>exact Nat.zero_le _
 | some x=>exact h x (List.mem_of_getElem? hj)
theorem zF {l:List Nat} (h1:l.length≤320) (h2:∀ x∈l,x≤15) (j:Nat):Huff.codeAt l j<2 ^ 62:=by
 unfold Huff.codeAt
 have e2:=rE h1 (qY h2 j)
 have e3:(l.take j).countP (· == l.getD j 0)≤(l.take j).length:=List.countP_le_length
 have e4:(l.take j).length≤l.length:=by simp; omega
 omega
theorem wQ {a bs':List Nat} {va ca:AV} {s:Nat} (ha:a.length≤320) (ha15:∀ x∈a,x≤15) (hs:s<a.length) (h0:0<a.getD s 0) (gca:∀ i,aQ ca i→¬ G i) (hG:∀ i,h.length≤i→G i) (Ra:RdI 1 h va (bB a) a.length) (Rc:RdI 1 h ca (bB (gD a)) (gD a).length) (W:Wr h G w bs') (hb:bs'.length+64<2 ^ 40 - 1)
  (hq:∀ h',Upd G h h'→Wr h' G w (bs'++Huff.codeBits a s)→Q (.tu []) h'):C Y20.id [wp w,ca,va,iN s] h Q:=by
 have h3:a[s]? = some (a.getD s 0):=by rw [List.getD_eq_getElem?_getD,List.getElem?_eq_getElem hs] <;> rfl
 have h4:=qY ha15 s
 exact aES (zB hs h0) h3 (zF ha ha15 s) (by omega) gca (by omega) hG Rc Ra W hq
theorem eE {a:List Nat} (h:∀ x∈a,x≤15) (s:Nat):(Huff.codeBits a s).length≤15:=by
 unfold Huff.codeBits
 rw [Infl.hi_length]
 exact qY h s
theorem aB8 {a b:List Nat} (ha:∀ x∈a,x≤15) (hb:∀ x∈b,x≤15) {r:Row} (hr:r.ok):(Infl.encItem a b r.item).length≤64:=by
 unfold Row.item
 by_cases h0:r.n=0
 ·rw [if_pos h0]
  exact Nat.le_trans (eE ha _) (by decide)
 ·rw [if_neg h0]
  obtain ⟨r1,r2,r3,r4⟩:=hr.resolve_left h0
  obtain ⟨s1,s2,_⟩:=Infl.lenSym_ok r.n r1 r2
  obtain ⟨f1,_⟩:=Infl.farSym_ok r3 r4
  have q1:=(pQ _ (by omega) s1).2
  have q2:=(vN _ f1).2.2
  unfold Infl.encItem
  simp only [List.length_append,Infl.lo_length]
  have c1:=eE ha (Infl.lenSym r.n)
  have c2:=eE hb (Infl.farSym r.d)
  omega
theorem Wr.cut {h h':aA} {bs:List Nat} (W:Wr h G w bs) (U:Upd (fun _=>False) h h') {G':Nat→Prop} (hG:∀ i,i<h.length→G i→G' i):Wr h' G' w bs:=by
 obtain ⟨v,R,B,g,gw,hx⟩:=W
 exact ⟨v,R.upd U fun h=>h,B.upd U fun _ _ h=>h,fun i hi=>⟨hG i (B.lt hi) (g i hi).1,(g i hi).2⟩,hG w R.lt gw,hx⟩
theorem Wr.wide {h:aA} {bs:List Nat} {G':Nat→Prop} (W:Wr h G w bs) (hG:∀ i,G i→G' i):Wr h G' w bs:=by
 obtain ⟨v,R,B,g,gw,hx⟩:=W
 exact ⟨v,R,B,fun i hi=>⟨hG i (g i hi).1,(g i hi).2⟩,hG w gw,hx⟩
theorem xP {a b : List Nat} {va vb ca cb x1 : AV} {l : List Row} {bs : List Nat}
  (ha:a.length≤320) (hb:b.length≤320) (ha2:286≤a.length) (hb2:30≤b.length) (ha0:∀ j,j<286→0<a.getD j 0) (hb0:∀ j,j<30→0<b.getD j 0) (ha15:∀ x∈a,x≤15) (hb15:∀ x∈b,x≤15)
  (hl:∀ r∈l,r.ok) (hlen:bs.length+l.length * 64+64<2 ^ 39)
  (ga:∀ i,aQ va i→¬ G i) (gb:∀ i,aQ vb i→¬ G i) (gca:∀ i,aQ ca i→¬ G i) (gcb:∀ i,aQ cb i→¬ G i) (g1:∀ i,aQ x1 i→¬ G i)
  (hq:∀ h',Upd G h h'→Wr h' G w (bs++(Infl.encItems a b (l.map Row.item)++Huff.codeBits a 256))→Q (.tu []) h') :
  ∀ (m i : Nat) (h1 : aA), i + m = l.length → Upd G h h1 → (∀ i, h1.length ≤ i → G i) → RdI 1 h1 va (bB a) a.length → RdI 1 h1 vb (bB b) b.length → RdI 1 h1 ca (bB (gD a)) (gD a).length → RdI 1 h1 cb (bB (gD b)) (gD b).length → Rd 3 h1 x1 (jH l) l.length →
   Wr h1 G w (bs++Infl.encItems a b ((l.take i).map Row.item))→(bs++Infl.encItems a b ((l.take i).map Row.item)).length≤bs.length+i * 64→Y12.p0 Q (wp w) va vb ca cb x1 l.length i h1:=by
 intro m
 induction m with
 | zero =>
  intro i h1 hi U hG Ra Rb Rca Rcb R1 W hL
  obtain rfl:i=l.length:=by omega
  refine Y12.i0 ?_
  simp only [Y12.t0]
  refine aV (by simp) ?_
  refine wQ (s:=256) ha ha15 (by omega) (ha0 256 (by decide)) gca hG Ra Rca W (by omega) fun h2 U2 W2=>hq h2 (U.trans U2 fun _ _ h=>h) ?_
  rw [List.take_length,List.append_assoc] at W2
  exact W2
 | succ m ih =>
  intro i h1 hi U hG Ra Rb Rca Rcb R1 W hL
  have hil:i<l.length:=by omega
  obtain ⟨r,hr⟩:∃ r,l[i]? = some r:=⟨l[i],List.getElem?_eq_getElem hil⟩
  have hok:=hl r (List.mem_of_getElem? hr)
  have hsn:Infl.encItems a b ((l.take (i+1)).map Row.item)=Infl.encItems a b ((l.take i).map Row.item)++Infl.encItem a b r.item:=by
   rw [zR hr,List.map_append]
   unfold Infl.encItems
   rw [List.flatMap_append]
   simp
  have hel:=aB8 ha15 hb15 hok
  generalize hB:bs++Infl.encItems a b ((l.take i).map Row.item)=B at W hL
  have hL2:B.length+128<2 ^ 39+64:=by omega
  let G':Nat→Prop:=fun i=>G i∧i≠h1.length
  have nxt:∀ h',Upd (fun i=>G i) h1 h'→Wr h' G w (B++Infl.encItem a b r.item)→Y12.p1 Q (wp w) va vb ca cb x1 l.length i h':=fun h' U' W'=>by
   refine Y12.i1 ?_
   simp only [Y12.t1, ← Y12.p0.eq_1]
   have hE:bs++Infl.encItems a b ((l.take (i+1)).map Row.item)=B++Infl.encItem a b r.item:=by rw [hsn, ← List.append_assoc,hB]
   refine inc (by omega) (ih (i+1) h' (by omega) (U.trans U' fun _ _ h=>h) (fun j hj=>hG j (Nat.le_trans U'.1 hj)) (Ra.upd U' ga) (Rb.upd U' gb) (Rca.upd U' gca) (Rcb.upd U' gcb) (R1.upd U' g1) ?_ ?_)
   ·rw [hE]; exact W'
   ·rw [hE,List.length_append]; omega
  refine Y12.i0 ?_
  simp only [Y12.t0, ← Y12.p1.eq_1]
  refine bA (by simp; omega) ?_
  refine Rd.triple R1 hr ?_
  refine cF fun h2 l2 U2 R2=>?_
  refine gY R2 rfl rfl rfl fun h3 l3 U3 R3=>?_
  have R3:bC h3 h1.length r.cells:=R3
  have U13:Upd (fun _=>False) h1 h3:=U2.own U3 (Nat.le_refl _)
  have hG3:∀ i,h3.length≤i→G' i:=fun j hj=>⟨hG j (by omega),by omega⟩
  have W3:Wr h3 G' w B:=W.cut U13 fun j hj g=>⟨g,by omega⟩
  have gca':∀ i,aQ ca i→¬ G' i:=fun i hi g=>gca i hi g.1
  have gcb':∀ i,aQ cb i→¬ G' i:=fun i hi g=>gcb i hi g.1
  have ga':∀ i,aQ va i→¬ G' i:=fun i hi g=>ga i hi g.1
  have gb':∀ i,aQ vb i→¬ G' i:=fun i hi g=>gb i hi g.1
  have fin:∀ h',Upd G' h3 h'→Wr h' G' w (B++Infl.encItem a b r.item)→Y12.p1 Q (wp w) va vb ca cb x1 l.length i h':=fun h' U' W'=>
   nxt h' ((U13.mono fun _ _ h=>h.elim).trans (U'.mono fun _ _ h=>h.1) fun _ _ h=>h) (W'.wide fun _ h=>h.1)
  refine cX (aE R3 rfl rfl (aD ?_))
  by_cases h0:r.n=0
  ·refine bA (by simp [h0]) ?_
   refine cX (aE R3 rfl rfl (kS ?_))
   have hc:=r.c.toNat_lt
   rw [show AV.i .i64 (IntKind.wrap .i64 (r.c.toNat:Int))=iN r.c.toNat by rw [aW (by omega) (by omega)]]
   refine wQ (s:=r.c.toNat) ha ha15 (by omega) (ha0 _ (by omega)) gca' hG3 (Ra.ext U13) (Rca.ext U13) W3 (by omega) fun h4 U4 W4=>fin h4 U4 ?_
   have:Infl.encItem a b r.item=Huff.codeBits a r.c.toNat:=by unfold Row.item; rw [if_pos h0] <;> rfl
   rw [this]; exact W4
  ·refine aV (by simp [h0]) ?_
   obtain ⟨r1,r2,r3,r4⟩:=hok.resolve_left h0
   obtain ⟨s1,s2,s3,s4⟩:=Infl.lenSym_ok r.n r1 r2
   obtain ⟨f1,f2,f3⟩:=Infl.farSym_ok r3 r4
   have q1:=(pQ _ (by omega) s1).2
   have q2:=(vN _ f1).2.2
   have c1:=eE ha15 (Infl.lenSym r.n)
   have c2:=eE hb15 (Infl.farSym r.d)
   have hE:Infl.encItem a b r.item=Huff.codeBits a (Infl.lenSym r.n)++(Huff.loBits (r.n - (Infl.least (Infl.lenSym r.n)).1) (Infl.least (Infl.lenSym r.n)).2++(Huff.codeBits b (Infl.farSym r.d)++Huff.loBits (r.d - (Infl.farOf (Infl.farSym r.d)).1) (Infl.farOf (Infl.farSym r.d)).2)):=by
    unfold Row.item; rw [if_neg h0] <;> rfl
   rw [hE] at fin
   refine cX (aE R3 rfl rfl (aD ?_))
   refine aD6 (aD (oZ s1 s2 ?_))
   simp only [d6,d7]
   refine aD (aD ?_)
   refine wQ (s:=Infl.lenSym r.n) ha ha15 (by omega) (ha0 _ (by omega)) gca' hG3 (Ra.ext U13) (Rca.ext U13) W3 (by omega) fun h4 U4 W4=>?_
   have R4:=R3.upd U4 fun g=>g.2 rfl
   have hG4:∀ i,h4.length≤i→G' i:=fun j hj=>hG3 j (Nat.le_trans U4.1 hj)
   refine cX (aE R4 rfl rfl (aD ?_))
   refine aM (n:=((r.n - (Infl.least (Infl.lenSym r.n)).1:Nat):Int)) (by rw [aW (by omega) (by omega)]; omega) ?_
   refine j2 (by omega) (by omega) (by rw [List.length_append]; omega) hG4 W4 fun h5 U5 W5=>?_
   have R5:=R4.upd U5 fun g=>g.2 rfl
   have hG5:∀ i,h5.length≤i→G' i:=fun j hj=>hG4 j (Nat.le_trans U5.1 hj)
   have U35:=U4.trans U5 fun _ _ h=>h
   refine cX (aE R5 rfl rfl (aD ?_))
   refine aEL (aD (kI (by omega) ?_))
   simp only [d6,d7]
   refine aD (aD ?_)
   refine wQ (s:=Infl.farSym r.d) hb hb15 (by omega) (hb0 _ f1) gcb' hG5 ((Rb.ext U13).upd U35 gb') ((Rcb.ext U13).upd U35 gcb') W5 (by simp only [List.length_append,Infl.lo_length]; omega) fun h6 U6 W6=>?_
   have R6:=R5.upd U6 fun g=>g.2 rfl
   have hG6:∀ i,h6.length≤i→G' i:=fun j hj=>hG5 j (Nat.le_trans U6.1 hj)
   refine cX (aE R6 rfl rfl (aD ?_))
   refine aM (n:=((r.d - (Infl.farOf (Infl.farSym r.d)).1:Nat):Int)) (by rw [aW (by omega) (by omega)]; omega) ?_
   refine j2 (by omega) (by omega) (by simp only [List.length_append,Infl.lo_length]; omega) hG6 W6 fun h7 U7 W7=>?_
   refine fin h7 ((U35.trans U6 fun _ _ h=>h).trans U7 fun _ _ h=>h) ?_
   simp only [List.append_assoc] at W7
   exact W7
theorem RdI.ltp {sz:Nat} {h:aA} {v:AV} {cs:List AV} {len:Nat} (R:RdI sz h v cs len) (hl:0<len) {i:Nat} (hi:aQ v i):i<h.length:=by
 rcases R with ⟨rfl,rfl,rfl⟩ | ⟨rfl,_⟩ | ⟨id,ver,off,cap,b,rfl,h2,_⟩
 ·omega
 ·omega
 ·cases hi; exact aI h2
theorem aAK {a b:List Nat} {va vb x1:AV} {l:List Row} {bs:List Nat}
  (ha:a.length≤320) (hb:b.length≤320) (ha2:286≤a.length) (hb2:30≤b.length) (ha0:∀ j,j<286→0<a.getD j 0) (hb0:∀ j,j<30→0<b.getD j 0) (ha15:∀ x∈a,x≤15) (hb15:∀ x∈b,x≤15) (hka:Huff.checkP a≠1) (hkb:Huff.checkP b≠1)
  (hl:∀ r∈l,r.ok) (hlen:bs.length+l.length * 64+64<2 ^ 39) (hG:∀ i,h.length≤i→G i)
  (ga:∀ i,aQ va i→¬ G i) (gb:∀ i,aQ vb i→¬ G i) (g1:∀ i,aQ x1 i→¬ G i) (Ra:RdI 1 h va (bB a) a.length) (Rb:RdI 1 h vb (bB b) b.length) (R1:Rd 3 h x1 (jH l) l.length) (W:Wr h G w bs)
  (hq:∀ h',Upd G h h'→Wr h' G w (bs++(Infl.encItems a b (l.map Row.item)++Huff.codeBits a 256))→Q (.tu []) h'):C Y12.id [wp w,x1,va,vb] h Q:=by
 refine Y12.call ?_
 simp only [Y12.t, ← Y12.p0.eq_1]
 refine tK ha ha15 hka Ra fun h1 ca U1 O1=>?_
 refine tK hb hb15 hkb (Rb.ext U1) fun h2 cb U2 O2=>?_
 have U:=U1.then U2
 refine (R1.upd U fun _ _ h=>h).len ?_
 have lt1:∀ i,aQ ca i→h.length≤i∧i<h2.length:=fun i hi=>by
  obtain ⟨id,b,rfl,k1,_,_,_,_,g⟩:=O1
  cases hi
  have:=aI k1
  have:=U2.1
  have g:h.length≤id:=g
  exact ⟨g,by show id<_; omega⟩
 have lt2:∀ i,aQ cb i→h.length≤i∧i<h2.length:=fun i hi=>by
  obtain ⟨id,b,rfl,k1,_,_,_,_,g⟩:=O2
  cases hi
  have k2:=aI k1
  have:=U1.1
  have g:h1.length≤id:=g
  exact ⟨by show _≤id; omega,k2⟩
 let G2:Nat→Prop:=fun i=>(G i∧i<h.length)∨h2.length≤i
 have c2:∀ {x:AV},(∀ i,aQ x i→¬ G i)→(∀ i,aQ x i→i<h.length)→∀ i,aQ x i→¬ G2 i:=fun hx hlt i hi g=>by
  rcases g with g | g
  ·exact hx i hi g.1
  ·have := hlt i hi
   have:=U.1
   omega
 have c3:∀ {x:AV},(∀ i,aQ x i→h.length≤i∧i<h2.length)→∀ i,aQ x i→¬ G2 i:=fun hx i hi g=>by
  have:=hx i hi
  rcases g with g | g <;> omega
 have w2:∀ i,G2 i→G i:=fun i g=>by
  rcases g with g | g
  ·exact g.1
  ·exact hG i (Nat.le_trans U.1 g)
 refine xP (G:=G2) (h:=h2) ha hb ha2 hb2 ha0 hb0 ha15 hb15 hl hlen (c2 ga fun i hi=>RdI.ltp Ra (by omega) hi) (c2 gb fun i hi=>RdI.ltp Rb (by omega) hi) (c3 lt1) (c3 lt2) (c2 g1 fun i hi=>R1.lt hi) (fun h' U' W'=>.inl (hq h' ((U.mono fun _ _ h=>h.elim).trans (U'.mono fun i _ g=>w2 i g) fun _ _ h=>h) (W'.wide w2)))
  l.length 0 h2 (by omega) (Upd.refl _ _) (fun i hi=>.inr hi) (Ra.ext U) (Rb.ext U) (O1.rd.i.ext U2) O2.rd.i (R1.upd U fun _ _ h=>h) ?_ ?_
 ·have := W.cut U (G' := G2) fun i hi g => .inl ⟨g, hi⟩
  simpa [Infl.encItems] using this
 ·simp [Infl.encItems]
end
end Go.Proofs.YtpaphfeihpgamaaDoor
namespace Go.Proofs.YtpaphfeihpgamaaDoor
open Go.GAM
def b9 (s:List UInt8) (i:Nat):List UInt8:=(s.take (i+3)).drop i
def occ (s:List UInt8):Nat→List UInt8→List Nat
 | 0,_=>[]
 | i+1,g=>occ s i g++(if i+3≤s.length∧b9 s i=g then [i] else [])
theorem vJ (s:List UInt8) (g:List UInt8):∀ i,(occ s i g).length≤i
 | 0=>Nat.le_refl _
 | i + 1 => by
  have:=vJ s g i
  unfold occ
  split <;> simp <;> omega
theorem sD (s : List UInt8) (g : List UInt8) : ∀ i, ∀ x ∈ occ s i g, x < i ∧ x + 3 ≤ s.length ∧ b9 s x = g
 | 0,x,h=>by cases h
 | i + 1, x, h => by
  unfold occ at h
  rcases List.mem_append.1 h with h | h
  ·obtain ⟨h1, h2⟩ := sD s g i x h
   exact ⟨by omega,h2⟩
  ·split at h
   ·rename_i hc
    rw [List.mem_singleton.1 h]
    exact ⟨by omega,hc⟩
   ·cases h
abbrev nilS:AV:=.sl none 0 none
def jP (kv:List (List UInt8 × AV)) (g:List UInt8):AV:=(lkM kv g).getD nilS
theorem sI:tO prog 9 (fun l:List UInt8=>AV.s l):=yI Tryd.underlying9
structure y5 (h:aA) (F:Nat→Prop) (s:List UInt8) (i mb:Nat) (kv:List (List UInt8 × AV)):Prop where
 map:jB (fun l:List UInt8=>AV.s l) h mb kv
 vals:∀ g,Stk h (jP kv g) (bB (occ s i g))
 own:∀ g j,aQ (jP kv g) j→F j∧j≠mb
 dis:∀ g g' j,aQ (jP kv g) j→aQ (jP kv g') j→g=g'
theorem y5.upd {h h':aA} {F N:Nat→Prop} {s:List UInt8} {i mb:Nat} {kv:List (List UInt8 × AV)} (S:y5 h F s i mb kv) (U:Upd N h h') (hN:∀ j,F j∨j=mb→¬ N j):y5 h' F s i mb kv:=
 ⟨S.map.upd U (hN mb (.inr rfl)),fun g=>(S.vals g).upd U fun j hj=>hN j (.inl (S.own g j hj).1),S.own,S.dis⟩
section
variable [XR] {h:aA} {Q:AV→aA→Prop} {F:Nat→Prop} {s:List UInt8} {i sb bm mb:Nat} {kv:List (List UInt8 × AV)}
theorem aEO (hs : s.length < 2 ^ 40) (hi : i < s.length) (Rs : bC h sb [.s s]) (Rm : bC h bm [.mp (some mb)]) (S : y5 h F s i mb kv) (hF : ∀ j, h.length ≤ j → F j) (ns : ¬ F sb) (nm : ¬ F bm) (nsm : sb ≠ mb) (nbm : bm ≠ mb)
  (hq:∀ h' kv',Upd (fun j=>F j∨j=mb) h h'→y5 h' F s (i+1) mb kv'→Q (.tu []) h'):C Y29.id [iN i,.p (some ⟨sb,1,0⟩),.p (some ⟨bm,1,0⟩)] h Q:=by
 refine Y29.call ?_
 unfold Y29.t
 refine aM (n:=((i+3:Nat):Int)) (by rw [aW (by omega) (by omega)]; omega) ?_
 refine aE Rs rfl rfl (cB ?_)
 refine aP (fun e=>?_) fun e=>?_
 ·have e : i + 3 ≤ s.length := by have := of_decide_eq_true e; omega
  refine aE Rm rfl rfl ?_
  refine aE Rs rfl rfl (cB ?_)
  refine aM (n:=((i+3:Nat):Int)) (by rw [aW (by omega) (by omega)]; omega) ?_
  refine k7 (lo:=i) (hi:=i+3) (by omega) e ?_
  refine aE Rm rfl rfl ?_
  refine aE Rs rfl rfl (cB ?_)
  refine aM (n:=((i+3:Nat):Int)) (by rw [aW (by omega) (by omega)]; omega) ?_
  refine k7 (lo:=i) (hi:=i+3) (by omega) e ?_
  refine mM (κ:=fun l:List UInt8=>AV.s l) S.map sI (by kernel_rfl) (z:=nilS) (by kernel_rfl) ?_
  refine eS (cs:=[iN i]) rfl rfl fun y h1 l1 U1 R1 F1=>?_
  have S1:=S.upd U1 fun _ _ h=>h
  have Rs1:=Rs.upd U1 fun h=>h
  have Rm1:=Rm.upd U1 fun h=>h
  refine mM (κ:=fun l:List UInt8=>AV.s l) S1.map sI (by kernel_rfl) (z:=nilS) (by kernel_rfl) ?_
  refine ⟨rfl, ?_⟩
  refine aE Rs1 rfl rfl (cB ⟨rfl, ?_⟩)
  refine aE Rm1 rfl rfl ⟨rfl, ?_⟩
  refine aE Rs1 rfl rfl (cB ⟨rfl, ?_⟩)
  refine aE Rm1 rfl rfl ⟨rfl, ?_⟩
  have ol:=vJ s (b9 s i) i
  refine (S1.vals (b9 s i)).app1 R1 rfl (by rw [aT]; omega) (by rw [aT]; omega) fun v' h2 U2 S2 g2=>?_
  have nF:∀ {x:Nat}, ¬ F x→¬ aQ (jP kv (b9 s i)) x:=fun hx h=>hx (S.own _ _ h).1
  have Rs2:=Rs1.upd U2 (nF ns)
  have Rm2:=Rm1.upd U2 (nF nm)
  refine aE Rs2 rfl rfl (cB ⟨rfl, ?_⟩)
  refine aE Rm2 rfl rfl ⟨rfl, ?_⟩
  have M2:=S1.map.upd U2 fun h=>(S.own _ _ h).2 rfl
  refine z0 (κ:=fun l:List UInt8=>AV.s l) M2 sI (by kernel_rfl) rfl fun h3 l3 U3 M3=>?_
  have lo:∀ j,aQ v' j→F j∧j≠mb:=fun j hj=>by
   rcases g2 j hj with h | h
   ·exact S.own _ _ h
   ·have := S.map.lt
    exact ⟨hF j (by omega),by omega⟩
  have vup:∀ g,jP (upM kv (b9 s i) v') g=if g=b9 s i then v' else jP kv g:=fun g=>by
   unfold jP
   rw [aAN]
   split <;> rfl
  refine .inl (hq h3 (upM kv (b9 s i) v') ?_ ⟨M3,fun g=>?_,fun g j hj=>?_,fun g g' j hj hj'=>?_⟩)
  ·refine ((U1.mono fun _ _ h=>h.elim).trans (U2.mono fun j _ h=>Or.inl (S.own _ _ h).1) fun _ _ h=>h).trans (U3.mono fun j _ h=>Or.inr h) fun _ _ h=>h
  ·rw [vup]
   by_cases hg:g=b9 s i
   ·rw [if_pos hg]
    have:occ s (i+1) g=occ s i (b9 s i)++[i]:=by
     rw [occ,if_pos ⟨e,hg.symm⟩,hg]
    rw [this,eQ]
    exact S2.upd U3 fun j hj h=>(lo j hj).2 h
   ·rw [if_neg hg]
    have:occ s (i+1) g=occ s i g:=by
     rw [occ,if_neg (fun h=>hg h.2.symm),List.append_nil]
    rw [this]
    exact ((S1.vals g).upd U2 fun j hj h=>hg (S.dis _ _ j hj h)).upd U3 fun j hj h=>(S.own g j hj).2 h
  ·rw [vup] at hj
   by_cases hg:g=b9 s i
   ·rw [if_pos hg] at hj; exact lo j hj
   ·rw [if_neg hg] at hj; exact S.own g j hj
  ·rw [vup] at hj hj'
   have far:∀ g j,g≠b9 s i→aQ (jP kv g) j→¬ aQ v' j:=fun g j hg hj hv=>by
    rcases g2 j hv with h | h
    ·exact hg (S.dis _ _ j hj h)
    ·have := Rd.lt (S.vals g).rd hj
     omega
   by_cases hg:g=b9 s i <;> by_cases hg':g'=b9 s i
   ·rw [hg,hg']
   ·rw [if_pos hg] at hj; rw [if_neg hg'] at hj'; exact absurd hj (far g' j hg' hj')
   ·rw [if_neg hg] at hj; rw [if_pos hg'] at hj'; exact absurd hj' (far g j hg hj)
   ·rw [if_neg hg] at hj; rw [if_neg hg'] at hj'; exact S.dis g g' j hj hj'
 ·have e : ¬ i + 3 ≤ s.length := by have := of_decide_eq_false e; omega
  refine .inl (hq h kv (Upd.refl _ _) ⟨S.map,fun g=>?_,S.own,S.dis⟩)
  rw [occ,if_neg (fun h=>e h.1),List.append_nil]
  exact S.vals g
end
end Go.Proofs.YtpaphfeihpgamaaDoor
namespace Go.Infl
open Go.Huff
def matchP (s:List UInt8) (at':Nat):Nat × Nat:=if (dV s at').1<3 then (0,0) else dV s at'
theorem zI {s:List UInt8} {at':Nat} (h:at'≤s.length) (h0:(dV s at').1≠0):(dV s at').1≤258∧at'+(dV s at').1≤s.length∧1≤(dV s at').2∧(dV s at').2≤at'∧(dV s at').2≤32768:=by
 obtain ⟨g1,_,_⟩:=iG s at' (min at' 32768)
 have hm:dV s at'=cG s at' (min at' 32768):=rfl
 rw [hm] at h0 ⊢
 obtain ⟨a,b,e⟩:=g1.resolve_left h0
 obtain ⟨q1,q2,q3⟩:=lcp_ok (cG s at' (min at' 32768)).2 h
 rw [← e] at q1 q2 q3
 exact ⟨q1,q2,a,by omega,by omega⟩
theorem matchP_ok {s:List UInt8} {at':Nat} (h:at'≤s.length):(matchP s at')=(0,0)∨3≤(matchP s at').1∧(matchP s at').1≤258∧at'+(matchP s at').1≤s.length∧1≤(matchP s at').2∧(matchP s at').2≤32768:=by
 unfold matchP
 split
 ·exact .inl rfl
 ·rename_i h3
  obtain ⟨q1,q2,q3,q4,q5⟩:=zI h (by omega)
  exact .inr ⟨by omega,q1,q2,q3,q5⟩
theorem matchP_end {s:List UInt8} {at':Nat} (h:at'≤s.length) (h3:s.length<at'+3):matchP s at'=(0,0):=by
 rcases matchP_ok h with e | e
 ·exact e
 ·omega
theorem itemsR_none {s:List UInt8}:∀ (f at':Nat),s.length≤at'→itemsR s f at'=[]
 | 0,at',h=>rfl
 | f + 1, at', h => by
  unfold itemsR
  rw [List.getElem?_eq_none h]
theorem itemsR_step {s:List UInt8} {f at':Nat} {c:UInt8} (hc:s[at']? = some c):itemsR s (f+1) at'=(if (matchP s at').1=0 then Item.byte c else Item.copy (matchP s at').1 (matchP s at').2) :: itemsR s f (at'+max (matchP s at').1 1):=by
 have hlt:at'<s.length:=(List.getElem?_eq_some_iff.1 hc).1
 rw [itemsR,hc]
 unfold matchP
 simp only []
 by_cases h3:(dV s at').1<3
 ·rw [if_pos h3, if_pos h3]
  first | done | rfl
 ·rw [if_neg h3,if_neg h3,if_neg (by omega),Nat.max_eq_left (by omega)]
end Go.Infl
namespace Go.Proofs.YtpaphfeihpgamaaDoor
open Go.GAM
def pL (s:List UInt8) (i:Nat) (c:UInt8):Row:=⟨c,(Infl.matchP s i).1,(Infl.matchP s i).2⟩
theorem zS {s:List UInt8} {f i:Nat} {c:UInt8} (hc:s[i]? = some c):Infl.itemsR s (f+1) i=(pL s i c).item :: Infl.itemsR s f (i+max (pL s i c).n 1):=Infl.itemsR_step hc
theorem aDA {s:List UInt8} {i:Nat} {c:UInt8} (h:i<s.length):(pL s i c).ok∧i+max (pL s i c).n 1≤s.length:=by
 rcases Infl.matchP_ok (s:=s) (at':=i) (by omega) with e | ⟨e1,e2,e3,e4,e5⟩
 ·unfold pL Row.ok
  rw [e]
  exact ⟨.inl rfl,by simp only; omega⟩
 ·exact ⟨.inr ⟨e1,e2,e4,e5⟩,by show i+max (Infl.matchP s i).1 1≤_; omega⟩
def oA [XR] (s:List UInt8):Prop:=∀ (h:aA) (Q:AV→aA→Prop) (i:Nat) (v:AV),i+3≤s.length→Stk h v (bB (occ s i (b9 s i)))→Q (.tu [iN (Infl.matchP s i).1,iN (Infl.matchP s i).2]) h→C Y31.id [.s s,iN i,v] h Q
section
variable [XR] {Q:AV→aA→Prop} {s:List UInt8} {sb bm mb:Nat} {h0:aA}
def It (h0 : aA) (sb bm mb : Nat) (s : List UInt8) (h : aA) (i : Nat) (kv : List (List UInt8 × AV)) (x3 : AV) (l : List Row) : Prop :=
 Upd (fun _=>False) h0 h∧bC h sb [.s s]∧bC h bm [.mp (some mb)]∧Arr 3 h x3 (jH l) l.length∧(∀ j,aQ x3 j→h0.length≤j∧j≠sb∧j≠bm∧j≠mb) ∧
  y5 h (fun j=>(h0.length≤j∧j≠sb∧j≠bm)∧¬ aQ x3 j) s i mb kv
theorem It.ext {h h':aA} {i:Nat} {kv:List (List UInt8 × AV)} {x3:AV} {l:List Row} (I:It h0 sb bm mb s h i kv x3 l) (U:Upd (fun _=>False) h h'):It h0 sb bm mb s h' i kv x3 l:=by
 obtain ⟨a,b,c,d,e,f⟩:=I
 exact ⟨a.then U,b.upd U fun h=>h,c.upd U fun h=>h,d.upd U fun _ _ h=>h,e,f.upd U fun _ _ h=>h⟩
theorem It.own {h h':aA} {i x:Nat} {kv:List (List UInt8 × AV)} {x3:AV} {l:List Row} (I:It h0 sb bm mb s h i kv x3 l) (U:Upd (· = x) h h') (hx:h0.length≤x) (n1:x≠sb) (n2:x≠bm) (n3:x≠mb) (n4:¬ aQ x3 x) (n5:∀ g, ¬ aQ (jP kv g) x):It h0 sb bm mb s h' i kv x3 l:=by
 obtain ⟨a,b,c,d,e,f⟩:=I
 exact ⟨a.own U hx,b.upd U fun h=>n1 h.symm,c.upd U fun h=>n2 h.symm,d.upd U fun j hj h=>n4 (h ▸ hj),e,
  ⟨f.map.upd U fun h=>n3 h.symm,fun g=>(f.vals g).upd U fun j hj h=>n5 g (h ▸ hj),f.own,f.dis⟩⟩
theorem aB0 (hs : s.length < 2 ^ 40) (ns : sb ≠ bm) (nsm : sb ≠ mb) (nbm : bm ≠ mb) (hsb : h0.length ≤ sb) (hbm : h0.length ≤ bm) (hmb : h0.length ≤ mb) {x3 : AV} {l : List Row} {N : Nat} :
  ∀ (m k i : Nat) (h : aA) (kv : List (List UInt8 × AV)), k + m = N → i + m ≤ s.length → N ≤ 258 → It h0 sb bm mb s h i kv x3 l →
   (∀ h' kv',It h0 sb bm mb s h' (i+m) kv' x3 l→Y8.p0 Q (.p (some ⟨sb,1,0⟩)) x3 (.p (some ⟨bm,1,0⟩)) (Fn Y29.id [.p (some ⟨sb,1,0⟩),.p (some ⟨bm,1,0⟩)]) ((i+m:Nat):Int) h') →
   Y8.p2 Q (.p (some ⟨sb,1,0⟩)) x3 (.p (some ⟨bm,1,0⟩)) (Fn Y29.id [.p (some ⟨sb,1,0⟩),.p (some ⟨bm,1,0⟩)]) i N k h:=by
 intro m
 induction m with
 | zero =>
  intro k i h kv hk hi hN I hq
  refine Y8.i2 ?_
  simp only [Y8.t2, ← Y8.p0.eq_1]
  exact aV (by simp; omega) (hq h kv I)
 | succ m ih =>
  intro k i h kv hk hi hN I hq
  refine Y8.i2 ?_
  simp only [Y8.t2, ← Y8.p2.eq_1]
  refine bA (by simp; omega) ?_
  obtain ⟨a,b,c,d,e,f⟩:=I
  refine cR (by decide) (aEO hs (by omega) b c f (fun j hj=>⟨⟨by have:=a.1; omega, ?_, ?_⟩,fun hj2=>?_⟩) (fun h=>h.1.2.1 rfl) (fun h=>h.1.2.2 rfl) nsm nbm fun h' kv' U' S'=>?_)
  ·have:=b.lt; omega
  ·have:=c.lt; omega
  ·have:=d.rd.lt hj2; omega
  refine aM (n:=((i+1:Nat):Int)) (by rw [aW (by omega) (by omega)]; omega) ?_
  refine aM (n:=((k+1:Nat):Int)) (by rw [aW (by omega) (by omega)]; omega) ?_
  refine ih (k+1) (i+1) h' kv' (by omega) (by omega) hN ⟨?_, ?_, ?_, ?_,e,S'⟩ fun h2 kv2 I2=>?_
  ·exact a.ownP U' fun j hj=>by
    rcases hj with hj | hj
    ·exact hj.1.1
    ·rw [hj]; exact hmb
  ·exact b.upd U' fun h=>by
    rcases h with h | h
    ·exact h.1.2.1 rfl
    ·exact nsm h
  ·exact c.upd U' fun h=>by
    rcases h with h | h
    ·exact h.1.2.2 rfl
    ·exact nbm h
  ·exact d.upd U' fun j hj h=>by
    rcases h with h | h
    ·exact h.2 hj
    ·exact (e j hj).2.2.2 h
  ·have := hq h2 kv2 (by rw [show i + (m + 1) = i + 1 + m by omega]; exact I2)
   rw [show i+(m+1)=i+1+m by omega] at this
   exact this
theorem aBR (hs:s.length<2 ^ 40) (ns:sb≠bm) (nsm:sb≠mb) (nbm:bm≠mb) (hsb:h0.length≤sb) (hbm:h0.length≤bm) (hmb:h0.length≤mb) {x3:AV} {l:List Row} {r:Row} {i x:Nat} {h:aA} {kv:List (List UInt8 × AV)} (hll:l.length≤i)
  (hi:i+max r.n 1≤s.length) (hN:r.n≤258) (I:It h0 sb bm mb s h i kv x3 l) (Rx:bC h x r.cells) (nx:¬ aQ x3 x)
  (hq:∀ h' kv' x',It h0 sb bm mb s h' (i+max r.n 1) kv' x' (l++[r])→Y8.p0 Q (.p (some ⟨sb,1,0⟩)) x' (.p (some ⟨bm,1,0⟩)) (Fn Y29.id [.p (some ⟨sb,1,0⟩),.p (some ⟨bm,1,0⟩)]) ((i+max r.n 1:Nat):Int) h') :
  Y8.p1 Q (.p (some ⟨sb,1,0⟩)) x3 (.p (some ⟨bm,1,0⟩)) (Fn Y29.id [.p (some ⟨sb,1,0⟩),.p (some ⟨bm,1,0⟩)]) i (.p (some ⟨x,3,0⟩)) h:=by
 refine Y8.i1 ?_
 simp only [Y8.t1, ← Y8.p2.eq_1]
 refine dH Rx rfl ?_
 obtain ⟨a,b,c,d,e,f⟩:=I
 refine d.push (x:=.ag r.cells) (by decide) rfl rfl rfl (by omega) (by omega) fun v' h' U' A' g'=>?_
 have Rx':=Rx.upd U' nx
 refine cX (aE Rx' rfl rfl (aD ?_))
 rw [show (1:Int)=((1:Nat):Int) from rfl,aBC]
 have hrow:jH (l++[r])=jH l++r.cells:=by unfold jH; rw [List.flatMap_append]; simp
 refine aB0 hs ns nsm nbm hsb hbm hmb (l:=l++[r]) (x3:=v') (max r.n 1) 0 i h' kv (by omega) hi (by omega) ⟨a.ownP U' fun j hj=>(e j hj).1,b.upd U' fun h=>(e _ h).2.1 rfl,c.upd U' fun h=>(e _ h).2.2.1 rfl, ?_, ?_, ?_⟩ fun h2 kv2 I2=>hq h2 kv2 v' I2
 ·rw [hrow, List.length_append]
  exact A'
 ·intro j hj
  rcases g' j hj with h | h
  ·exact e j h
  ·have := b.lt
   have:=c.lt
   have:=f.map.lt
   have:=a.1
   exact ⟨by omega,by omega,by omega,by omega⟩
 ·refine ⟨f.map.upd U' fun h => (e _ h).2.2.2 rfl, fun g => (f.vals g).upd U' fun j hj h => (f.own g j hj).1.2 h, fun g j hj => ⟨⟨(f.own g j hj).1.1, fun h => ?_⟩, (f.own g j hj).2⟩, f.dis⟩
  rcases g' j h with h | h
  ·exact (f.own g j hj).1.2 h
  ·have := (f.vals g).rd.lt hj
   omega
theorem z4 (hm : oA s) (hs : s.length < 2 ^ 40) (ns : sb ≠ bm) (nsm : sb ≠ mb) (nbm : bm ≠ mb) (hsb : h0.length ≤ sb) (hbm : h0.length ≤ bm) (hmb : h0.length ≤ mb)
  (hq:∀ h' x l,Upd (fun _=>False) h0 h'→Rd 3 h' x (jH l) l.length→(∀ j,aQ x j→h0.length≤j)→(∀ r∈l,r.ok)→l.length≤s.length→l.map Row.item=Infl.itemsR s (s.length+1) 0→Q x h') :
  ∀ (f i : Nat) (h : aA) (kv : List (List UInt8 × AV)) (x3 : AV) (l : List Row), i ≤ s.length → s.length < i + f → l.length ≤ i → (∀ r ∈ l, r.ok) → It h0 sb bm mb s h i kv x3 l → l.map Row.item ++ Infl.itemsR s f i = Infl.itemsR s (s.length + 1) 0 →
   Y8.p0 (aK h0 Q) (.p (some ⟨sb,1,0⟩)) x3 (.p (some ⟨bm,1,0⟩)) (Fn Y29.id [.p (some ⟨sb,1,0⟩),.p (some ⟨bm,1,0⟩)]) i h:=by
 intro f
 induction f with
 | zero=>intro i h kv x3 l h1 h2; omega
 | succ f ih =>
  intro i h kv x3 l h1 h2 hll hok I hfin
  have I':=I
  obtain ⟨a,b,c,d,e,sn⟩:=I'
  refine Y8.i0 ?_
  simp only [Y8.t0, ← Y8.p1.eq_1]
  refine aE b rfl rfl (cB ?_)
  refine aP (fun hc=>?_) fun hc=>?_
  ·have hc : i < s.length := by have := of_decide_eq_true hc; omega
   obtain ⟨ch,hch⟩:∃ ch,s[i]? = some ch:=⟨s[i],List.getElem?_eq_getElem hc⟩
   obtain ⟨rok,rle⟩:=aDA (c:=ch) hc
   have rn:(pL s i ch).n≤258:=by rcases rok with h | h <;> omega
   refine aE b rfl rfl (cB (rU hch ?_))
   refine cF fun h2' l2 U2 R2=>?_
   refine gY R2 rfl rfl rfl fun h3 l3 U3 R3=>?_
   have R3:bC h3 h.length [byteAV ch,iN 0,iN 0]:=R3
   have U23:Upd (fun _=>False) h h3:=U2.own U3 (Nat.le_refl _)
   have I3:=I.ext U23
   have nx:¬ aQ x3 h.length:=fun hj=>by have:=d.rd.lt hj; omega
   have nv:∀ g, ¬ aQ (jP kv g) h.length:=fun g hj=>by have:=(sn.vals g).rd.lt hj; omega
   have bl:=b.lt
   have cl:=c.lt
   have ml:=sn.map.lt
   have al:=a.1
   have fin:∀ h4,It h0 sb bm mb s h4 i kv x3 l→bC h4 h.length (pL s i ch).cells→Y8.p1 (aK h0 Q) (.p (some ⟨sb,1,0⟩)) x3 (.p (some ⟨bm,1,0⟩)) (Fn Y29.id [.p (some ⟨sb,1,0⟩),.p (some ⟨bm,1,0⟩)]) i (.p (some ⟨h.length,3,0⟩)) h4:=fun h4 I4 R4=>by
    refine aBR hs ns nsm nbm hsb hbm hmb hll rle rn I4 R4 nx fun h5 kv5 x5 I5=>?_
    refine ih (i+max (pL s i ch).n 1) h5 kv5 x5 (l++[pL s i ch]) rle (by omega) (by rw [List.length_append,List.length_singleton]; omega) ?_ I5 ?_
    ·intro r hr
     rcases List.mem_append.1 hr with h | h
     ·exact hok r h
     ·rw [List.mem_singleton.1 h]; exact rok
    ·rw [← hfin, zS hch, List.map_append, List.append_assoc]
     first | done | rfl
   refine aM (n:=((i+3:Nat):Int)) (by rw [aW (by omega) (by omega)]; omega) ?_
   refine aE (b.upd U23 fun h=>h) rfl rfl (cB ?_)
   refine aP (fun e3=>?_) fun e3=>?_
   ·have e3 : i + 3 ≤ s.length := by have := of_decide_eq_true e3; omega
    refine aE (b.upd U23 fun h=>h) rfl rfl (cB ?_)
    refine aE (c.upd U23 fun h=>h) rfl rfl ?_
    refine aE (b.upd U23 fun h=>h) rfl rfl (cB ?_)
    refine aM (n:=((i+3:Nat):Int)) (by rw [aW (by omega) (by omega)]; omega) ?_
    refine k7 (lo:=i) (hi:=i+3) (by omega) e3 ?_
    refine mM (κ:=fun l:List UInt8=>AV.s l) I3.2.2.2.2.2.map sI (by kernel_rfl) (z:=nilS) (by kernel_rfl) ?_
    refine hm h3 _ i _ e3 (I3.2.2.2.2.2.vals (b9 s i)) ?_
    simp only [d6,d7]
    refine aD (aD ?_)
    refine cX (aR R3 rfl (by show 1<3; decide) (hk:=fun h4 l4 U4 R4=>?_))
    refine cX (aR R4 rfl (by show 2<3; decide) (hk:=fun h5 l5 U5 R5=>?_))
    have I4:=I3.own U4 al (by omega) (by omega) (by omega) nx nv
    have I5:=I4.own U5 al (by omega) (by omega) (by omega) nx nv
    exact fin h5 I5 R5
   ·have e3 : s.length < i + 3 := by have := of_decide_eq_false e3; omega
    refine fin h3 I3 ?_
    have:pL s i ch=⟨ch,0,0⟩:=by unfold pL; rw [Infl.matchP_end h1 e3]
    rw [this]
    exact R3
  ·have hc : s.length ≤ i := by have := of_decide_eq_false hc; omega
   refine .inl (hq h x3 l a d.rd (fun j hj=>(e j hj).1) hok (by omega) ?_)
   rw [Infl.itemsR_none _ _ hc,List.append_nil] at hfin
   exact hfin
theorem aAD {h:aA} (hm:oA s) (hs:s.length<2 ^ 40)
  (hq:∀ h' x l,Upd (fun _=>False) h h'→Rd 3 h' x (jH l) l.length→(∀ j,aQ x j→h.length≤j)→(∀ r∈l,r.ok)→l.length≤s.length→l.map Row.item=Infl.itemsR s (s.length+1) 0→Q x h'):C Y8.id [.s s] h Q:=by
 refine Y8.call ?_
 simp only [Y8.t, ← Y8.p0.eq_1]
 refine bT (hk:=fun h1 l1 U1 R1=>?_)
 refine vB (fun l:List UInt8=>AV.s l) fun h2 l2 U2 M2=>?_
 refine cF fun h3 l3 U3 R3=>?_
 refine aR R3 rfl (by decide) (hk:=fun h4 l4 U4 R4=>?_)
 have U13:=(U1.then U2).then U3
 refine z4 (h0:=h) (sb:=h.length) (bm:=h2.length) (mb:=h1.length) hm hs (by omega) (by omega) (by omega) (Nat.le_refl _) (by omega) (by omega) hq (s.length+1) 0 h4 [] _ [] (Nat.zero_le _) (by omega) (Nat.le_refl _) (fun r hr=>by cases hr) ⟨?_, ?_, ?_, ?_,fun j hj=>hj.elim, ?_⟩ rfl
 ·exact U13.own U4 (by omega)
 ·exact ((R1.upd U2 fun h=>h).upd U3 fun h=>h).upd U4 fun h=>by omega
 ·exact R4
 ·exact .inl ⟨rfl,rfl,rfl⟩
 ·exact ⟨(M2.upd U3 fun h=>h).upd U4 fun h=>by omega,fun g=>.inl ⟨rfl,rfl⟩,fun g j hj=>hj.elim,fun g g' j hj=>hj.elim⟩
end
end Go.Proofs.YtpaphfeihpgamaaDoor
namespace Go.Proofs.YtpaphfeihpgamaaDoor
open Go.GAM
theorem eN.str {E:TypeId} {h:aA} {v:AV} {l:List UInt8} (B:eN E h v l) {K:List UInt8→Prop} (hk:K l):dA v h K:=by
 refine Byt.str (l:=l) ?_ hk
 rcases B with ⟨rfl,rfl⟩ | ⟨id,b,rfl,h1,h2,h3,h4,h5⟩
 ·exact .inl ⟨rfl,rfl,rfl⟩
 ·have e : b.cells.length = l.length := by rw [h2]; simp
  refine .inr ⟨id,_,0,none,b,rfl,h1,.inl h3,h4,by show l.length≤_; omega,by omega, ?_⟩
  rw [List.drop_zero,Nat.mul_one, ← e,List.take_length,h2]
section
variable [XR] {Q:AV→aA→Prop} {s:List UInt8} {h:aA}
theorem tI (hm:oA s) (hs:s.length<2 ^ 32) (hq:Q (.s (Infl.fixedText s)) h):C Y43.id [.s s] h Q:=by
 refine Y43.call ?_
 unfold Y43.t
 refine bT (hk:=fun h1 l1 U1 R1=>?_)
 have R1:bC h1 h.length [nilS,iN 0]:=R1
 let G:Nat→Prop:=fun i=>h.length≤i
 have W1:Wr h1 G h.length []:=⟨nilS,R1,.inl ⟨rfl,rfl⟩,fun i hi=>hi.elim,Nat.le_refl _,fun x hx=>by cases hx⟩
 refine j2 (x:=3) (n:=3) (by decide) (by decide) (by decide) (fun i hi=>by show h.length≤i; omega) W1 fun h2 U2 W2=>?_
 refine i9 fun h3 va vb U3 Ra Rb na nb=>?_
 simp only [d6,d7]
 refine aAD hm (by omega) fun h4 x l U4 R4 nx hok hll hfin=>?_
 have hl2:=U2.1
 have hl3:=U3.1
 have hl4:=U4.1
 have U24:=U3.then U4
 let G2:Nat→Prop:=fun i=>(G i∧i<h2.length)∨h4.length≤i
 have cut:∀ {x:AV},(∀ i,aQ x i→h2.length≤i∧i<h4.length)→∀ i,aQ x i→¬ G2 i:=fun hx i hi g=>by
  have:=hx i hi
  rcases g with ⟨_,g⟩ | g <;> omega
 have la:∀ i,aQ va i→h2.length≤i∧i<h4.length:=fun i hi=>⟨na i hi,by have:=RdI.ltp Ra (by decide +kernel) hi; omega⟩
 have lb:∀ i,aQ vb i→h2.length≤i∧i<h4.length:=fun i hi=>⟨nb i hi,by have:=RdI.ltp Rb (by decide +kernel) hi; omega⟩
 have lx:∀ i,aQ x i→h2.length≤i∧i<h4.length:=fun i hi=>⟨by have:=nx i hi; omega,R4.lt hi⟩
 have W4:Wr h4 G2 h.length ([]++Huff.loBits 3 3):=W2.cut U24 fun i hi g=>.inl ⟨g,hi⟩
 refine aAK (a:=Infl.fixedL) (b:=Infl.fixedD) (l:=l) (by decide +kernel) (by decide +kernel) (by decide +kernel) (by decide +kernel) (by decide +kernel) (by decide +kernel) qG qV (by decide +kernel) (by decide +kernel) hok
  (by rw [List.nil_append,Infl.lo_length]; omega) (fun i hi=>.inr hi) (cut la) (cut lb) (cut lx) (Ra.ext U4) (Rb.ext U4) R4 W4 fun h5 U5 W5=>?_
 obtain ⟨v,R5,B5,_,_,_⟩:=W5
 refine gG (cX (aE R5 rfl rfl ?_))
 refine eN.str B5 ?_
 have hbits:([]++Huff.loBits 3 3)++(Infl.encItems Infl.fixedL Infl.fixedD (l.map Row.item)++Huff.codeBits Infl.fixedL 256)=Infl.fixedBits (Infl.itemsR s (s.length+1) 0):=by
  rw [hfin] <;> rfl
 rw [hbits]
 refine gW rfl (Upd.ext ?_) hq
 refine (U1.ownP U2 fun j hj=>hj).then U24 |>.ownP U5 fun j hj=>?_
 rcases hj with hj | hj
 ·exact hj.1
 ·have:=U1.1; omega
end
end Go.Proofs.YtpaphfeihpgamaaDoor
namespace Go.Infl
open Go.Huff
def mostAt (s:List UInt8) (at':Nat):Nat:=min 258 (s.length - at')
def srch (s:List UInt8) (at':Nat):List Nat→Nat × Nat→Nat × Nat
 | [],b=>b
 | f :: r,b=>if 32768<at' - f∨b.1=mostAt s at' then b else srch s at' r (better s at' b (at' - f))
theorem srch_is {s : List UInt8} {at' : Nat} (h : at' ≤ s.length) {cand : Nat → Prop} (hc : ∀ d, 1 ≤ d → d ≤ at' → 3 ≤ lcp s at' d → cand (at' - d)) (hc3 : ∀ f, cand f → f < at' → 3 ≤ lcp s at' (at' - f)) :
  ∀ (r : List Nat) (n d cU : Nat), cU ≤ at' → (∀ f ∈ r, f < cU ∧ cand f) → r.Pairwise (· > ·) → (∀ f, cand f → f < cU → f ∈ r) →
   (n=0∧d=0∨3≤n∧1≤d∧d≤min at' 32768∧n=lcp s at' d∧∀ d',1≤d'→d'<d→lcp s at' d'<n)→(∀ d',1≤d'→d'≤at'→cU≤at' - d'→lcp s at' d'≤max n 2) →
   srch s at' r (n,d)=matchP s at':=by
 have done:∀ (n d:Nat),(n=0∧d=0∨3≤n∧1≤d∧d≤min at' 32768∧n=lcp s at' d∧∀ d',1≤d'→d'<d→lcp s at' d'<n)→(∀ d',1≤d'→d'≤min at' 32768→lcp s at' d'≤max n 2)→(n,d)=matchP s at':=by
  intro n d hb hall
  rcases hb with ⟨rfl,rfl⟩ | ⟨b1,b2,b3,b4,b5⟩
  ·obtain ⟨g1, _, _⟩ := iG s at' (min at' 32768)
   unfold matchP
   rw [if_pos]
   show (cG s at' (min at' 32768)).1<3
   rcases g1 with g1 | ⟨g1,g2,g3⟩
   ·omega
   ·have := hall _ g1 g2
    omega
  ·have e : dV s at' = (n, d) := vD b2 b3 b4 (by omega) (fun d' h1 h2 => by have := hall d' h1 h2; omega) b5
   unfold matchP
   rw [e,if_neg (by simp only; omega)]
 intro r
 induction r with
 | nil =>
  intro n d cU hb hr hp hall hbest hseen
  rw [srch]
  refine done n d hbest fun d' h1 h2=>?_
  by_cases hbd:cU≤at' - d'
  ·exact hseen d' h1 (by omega) hbd
  ·rcases Nat.lt_or_ge (lcp s at' d') 3 with h3 | h3
   ·omega
   ·have := hall (at' - d') (hc d' h1 (by omega) h3) (by omega)
    cases this
 | cons f r ih =>
  intro n d cU hb hr hp hall hbest hseen
  obtain ⟨f1,f2⟩:=hr f (by simp)
  obtain ⟨p1,p2⟩:=List.pairwise_cons.1 hp
  have gap:∀ d',1≤d'→d'≤at'→f<at' - d'→lcp s at' d'≤max n 2:=fun d' h1 h2 h3=>by
   by_cases hbd:cU≤at' - d'
   ·exact hseen d' h1 h2 hbd
   ·rcases Nat.lt_or_ge (lcp s at' d') 3 with h4 | h4
    ·omega
    ·have hm := hall (at' - d') (hc d' h1 h2 h4) (by omega)
     rcases List.mem_cons.1 hm with e | hm
     ·omega
     ·have:=p1 _ hm; omega
  rw [srch]
  split
  ·rename_i hstop
   refine done n d hbest fun d' h1 h2=>?_
   rcases hstop with hs | hs
   ·exact gap d' h1 (by omega) (by omega)
   ·obtain ⟨q1, q2, _⟩ := lcp_ok d' h
    have hs:n=min 258 (s.length - at'):=hs
    omega
  ·rename_i hstop
   have hstop:¬ 32768<at' - f:=fun h=>hstop (.inl h)
   have hf3:=hc3 f f2 (by omega)
   unfold better
   simp only []
   split
   ·rename_i hlt
    refine ih _ _ f (by omega) (fun x hx=>⟨p1 x hx,(hr x (by simp [hx])).2⟩) p2 (fun x hx1 hx2=>?_) (.inr ⟨hf3,by omega,by omega,rfl,fun d' h1 h2=>?_⟩) fun d' h1 h2 h3=>?_
    ·rcases List.mem_cons.1 (hall x hx1 (by omega)) with e | hm
     ·omega
     ·exact hm
    ·have := gap d' h1 (by omega) (by omega)
     omega
    ·by_cases e : at' - d' = f
     ·have : d' = at' - f := by omega
      subst this
      exact Nat.le_max_left _ _
     ·have := gap d' h1 h2 (by omega)
      omega
   ·rename_i hlt
    refine ih _ _ f (by omega) (fun x hx=>⟨p1 x hx,(hr x (by simp [hx])).2⟩) p2 (fun x hx1 hx2=>?_) hbest fun d' h1 h2 h3=>?_
    ·rcases List.mem_cons.1 (hall x hx1 (by omega)) with e | hm
     ·omega
     ·exact hm
    ·by_cases e : at' - d' = f
     ·have : d' = at' - f := by omega
      subst this
      omega
     ·exact gap d' h1 h2 (by omega)
end Go.Infl
namespace Go.Proofs.YtpaphfeihpgamaaDoor
open Go.GAM
theorem wS {s:List UInt8} {a d:Nat}:∀ (f n:Nat),n≤Infl.lcpF s a d f n
 | 0,n=>Nat.le_refl _
 | f + 1, n => by
  unfold Infl.lcpF
  split
  ·exact Nat.le_trans (Nat.le_succ n) (wS f (n+1))
  ·exact Nat.le_refl _
theorem yH {s:List UInt8} {a d:Nat} (h:a+3≤s.length) (h0:s[a]? = s[a - d]?) (h1:s[a+1]? = s[a+1 - d]?) (h2:s[a+2]? = s[a+2 - d]?):3≤Infl.lcp s a d:=by
 unfold Infl.lcp
 rw [show 258=255+1+1+1 by rfl,Infl.lcpF,if_pos ⟨by omega,h0⟩,Infl.lcpF,if_pos ⟨by omega,h1⟩,Infl.lcpF,if_pos ⟨by omega,h2⟩]
 exact wS _ _
theorem rI {s:List UInt8} {i k:Nat} (hk:k<3):(b9 s i)[k]? = s[i+k]?:=by
 unfold b9
 rw [List.getElem?_drop,List.getElem?_take_of_lt (by omega)]
theorem aBB {s:List UInt8} {a f:Nat} (ha:a+3≤s.length) (hf:f<a):b9 s f=b9 s a↔3≤Infl.lcp s a (a - f):=by
 constructor
 ·intro e
  have g:∀ k,k<3→s[a+k]? = s[f+k]?:=fun k hk=>by rw [← rI hk, ← rI hk,e]
  refine yH ha ?_ ?_ ?_
  ·have:=g 0 (by decide); rw [show a - (a - f)=f by omega]; exact this
  ·have:=g 1 (by decide); rw [show a+1 - (a - f)=f+1 by omega]; exact this
  ·have:=g 2 (by decide); rw [show a+2 - (a - f)=f+2 by omega]; exact this
 ·intro h
  obtain ⟨_,_,q⟩:=Infl.lcp_ok (s:=s) (a - f) (show a≤s.length by omega)
  refine List.ext_getElem? fun k=>?_
  by_cases hk:k<3
  ·rw [rI hk, rI hk]
   have:=q k (by omega)
   rw [show a+k - (a - f)=f+k by omega] at this
   exact this.symm
  ·have e1 : (b9 s f).length = 3 := by unfold b9; simp; omega
   have e2:(b9 s a).length=3:=by unfold b9; simp; omega
   rw [List.getElem?_eq_none (by omega),List.getElem?_eq_none (by omega)]
theorem wF {s:List UInt8} {g:List UInt8}:∀ (i x:Nat),x<i→x+3≤s.length→b9 s x=g→x∈occ s i g
 | 0,x,h,_,_=>by omega
 | i + 1, x, h, h3, hk => by
  unfold occ
  by_cases e:x=i
  ·subst e
   rw [if_pos ⟨h3,hk⟩]; simp
  ·exact List.mem_append_left _ (wF i x (by omega) h3 hk)
theorem o7 (s:List UInt8) (g:List UInt8):∀ i,(occ s i g).Pairwise (· < ·)
 | 0=>List.Pairwise.nil
 | i + 1 => by
  unfold occ
  refine List.pairwise_append.2 ⟨o7 s g i, ?_,fun a ha b hb=>?_⟩
  ·split
   ·exact List.pairwise_singleton _ _
   ·exact List.Pairwise.nil
  ·have := (sD s g i a ha).1
   split at hb
   ·rw [List.mem_singleton.1 hb]; exact this
   ·cases hb
theorem z5 {s:List UInt8} {a:Nat} (ha:a+3≤s.length):Infl.srch s a (occ s a (b9 s a)).reverse (0,0)=Infl.matchP s a:=by
 refine Infl.srch_is (cand:=fun f=>f<a∧b9 s f=b9 s a) (by omega) (fun d h1 h2 h3=>⟨by omega,(aBB ha (by omega)).2 (by rw [show a - (a - d)=d by omega]; exact h3)⟩) (fun f hf hfa=>(aBB ha hfa).1 hf.2)
  _ 0 0 a (Nat.le_refl _) (fun f hf=>?_) ?_ (fun f hf hfa=>?_) (.inl ⟨rfl,rfl⟩) fun d h1 h2 h3=>?_
 ·have := sD s _ a f (List.mem_reverse.1 hf)
  exact ⟨this.1,this.1,this.2.2⟩
 ·rw [List.pairwise_reverse]
  exact o7 s _ a
 ·exact List.mem_reverse.2 (wF a f hfa (by omega) hf.2)
 ·omega
end Go.Proofs.YtpaphfeihpgamaaDoor
namespace Go.Proofs.YtpaphfeihpgamaaDoor
open Go.GAM
@[reducible] def xr0:XR:=⟨aCN aCO⟩
abbrev p1 (id:Nat):AV:=.p (some ⟨id,1,0⟩)
theorem mmF (n:Nat):mmI false 258 (n:Int)=((min 258 n:Nat):Int):=by
 unfold mmI
 simp only [cond_false]
 split <;> omega
theorem aFA (a b:UInt8):(decide ((a.toNat:Int)=(b.toNat:Int)))=decide (a=b):=by
 by_cases h:a=b
 ·subst h; simp
 ·have : a.toNat ≠ b.toNat := fun e => h (UInt8.toNat.inj e)
  simp [h,this]
  omega
structure MS (Hb:aA) (g nb fb:Nat) (rec:Loop) (st:LoopState) (pe:Option Code) (h:aA) (b:Nat × Nat):Prop where
 upd:Upd (fun i=>i=nb∨i=fb∨i=g) Hb h
 gh:h[g]? = some (dJ rec st pe)
 n:bC h nb [iN b.1]
 far:bC h fb [iN b.2]
section
variable {Hb:aA} {g sb ab nb fb mb:Nat} {rec:Loop} {s:List UInt8} {a:Nat}
theorem MS.set {st st':LoopState} {pe pe':Option Code} {h:aA} {b:Nat × Nat} (M:MS Hb g nb fb rec st pe h b) (h1:nb≠g) (h2:fb≠g):MS Hb g nb fb rec st' pe' (h.set g (dJ rec st' pe')) b:=
 ⟨M.upd.trans (Upd.set _ _ _) fun i _ e=>.inr (.inr e),List.getElem?_set_self (aI M.gh),M.n.upd (Upd.set _ _ _) h1,M.far.upd (Upd.set _ _ _) h2⟩
variable [XR] {X:Exit→aA→Prop}
theorem aE4 (hs : s.length < 2 ^ 40) (ha : a ≤ s.length) (Rs : bC Hb sb [.s s]) (Ra : bC Hb ab [iN a]) (Rm : bC Hb mb [iN (Infl.mostAt s a)]) (ns : sb ≠ nb ∧ sb ≠ fb ∧ sb ≠ g) (na : ab ≠ nb ∧ ab ≠ fb ∧ ab ≠ g) (nm : mb ≠ nb ∧ mb ≠ fb ∧ mb ≠ g)
  (n1:nb≠fb) (n2:nb≠g) (n3:fb≠g) {h:aA} {b:Nat × Nat} {f:Nat} (hf:f<a) (M:MS Hb g nb fb rec .busy none h b) (hb:b.1≤258)
  (hX:∀ h',MS Hb g nb fb rec .busy none h' (Infl.better s a b (a - f))→X .normal h') :
  ∀ (fu k:Nat),k+fu=258→a+k≤s.length→Infl.lcp s a (a - f)=Infl.lcpF s a (a - f) fu k→Y3.p1 X (p1 sb) (p1 ab) (p1 nb) (p1 fb) (p1 mb) f k h:=by
 have Rs:=Rs.upd M.upd fun h=>h.elim ns.1 fun h=>h.elim ns.2.1 ns.2.2
 have Ra:=Ra.upd M.upd fun h=>h.elim na.1 fun h=>h.elim na.2.1 na.2.2
 have Rm:=Rm.upd M.upd fun h=>h.elim nm.1 fun h=>h.elim nm.2.1 nm.2.2
 have fin:∀ k,k≤258→Infl.lcp s a (a - f)=k→Y3.p2 X (p1 sb) (p1 ab) (p1 nb) (p1 fb) (p1 mb) f k false h:=by
  intro k hk e
  refine Y3.i2 ?_
  unfold Y3.t2
  refine aV rfl ?_
  refine aE M.n rfl rfl (aD ?_)
  unfold Infl.better at hX
  rw [e] at hX
  refine aP (fun c=>?_) fun c=>?_
  ·have c : b.1 < k := by simpa using c
   simp only [if_pos c] at hX
   refine aE Ra rfl rfl (aD ?_)
   refine aM (n:=((a - f:Nat):Int)) (by rw [aW (by omega) (by omega)]; omega) ?_
   refine aR M.n rfl Nat.one_pos (hk:=fun h1 l1 U1 R1=>?_)
   refine aE (Ra.upd U1 fun h=>na.1 h) rfl rfl (aD ⟨rfl, ?_⟩)
   refine aR (M.far.upd U1 fun h=>n1 h.symm) rfl Nat.one_pos (hk:=fun h2 l2 U2 R2=>?_)
   refine hX h2 ⟨(M.upd.trans U1 fun i _ e=>.inl e).trans U2 fun i _ e=>.inr (.inl e), ?_,R1.upd U2 fun h=>n1 h,R2⟩
   rw [U2.2 g (by have:=aI M.gh; omega) (fun e=>n3 e.symm),U1.2 g (aI M.gh) (fun e=>n2 e.symm)]
   exact M.gh
  ·have c : ¬ b.1 < k := by simpa using c
   simp only [if_neg c] at hX
   exact hX h M
 intro fu
 induction fu with
 | zero =>
  intro k hk hle e
  refine Y3.i1 ?_
  unfold Y3.t1
  refine aE Rm rfl rfl (aD ?_)
  refine aV (decide_eq_false ?_) (fin k (by omega) e)
  unfold Infl.mostAt; omega
 | succ fu ih =>
  intro k hk hle e
  refine Y3.i1 ?_
  unfold Y3.t1
  refine aE Rm rfl rfl (aD ?_)
  unfold Infl.lcpF at e
  refine aP (fun c=>?_) fun c=>?_
  ·have c : a + k < s.length := by
    have c:=of_decide_eq_true c
    unfold Infl.mostAt at c; omega
   obtain ⟨x,hx⟩:∃ x,s[f+k]? = some x:=⟨_,List.getElem?_eq_getElem (by omega)⟩
   obtain ⟨y,hy⟩:∃ y,s[a+k]? = some y:=⟨_,List.getElem?_eq_getElem c⟩
   refine aE Rs rfl rfl (cB ?_)
   refine aM (n:=((f+k:Nat):Int)) (by rw [aW (by omega) (by omega)]; omega) ?_
   refine rU hx (aE Rs rfl rfl (cB (aE Ra rfl rfl (aD ?_))))
   refine aM (n:=((a+k:Nat):Int)) (by rw [aW (by omega) (by omega)]; omega) ?_
   refine rU hy ?_
   have hfk:a+k - (a - f)=f+k:=by omega
   rw [hfk,hx,hy] at e
   rw [aFA]
   by_cases hxy:x=y
   ·rw [if_pos ⟨c, by rw [hxy]⟩] at e
    rw [decide_eq_true hxy]
    refine Y3.i2 ?_
    unfold Y3.t2
    refine bA rfl ?_
    refine aM (n:=((k+1:Nat):Int)) (by rw [aW (by omega) (by omega)]; omega) ?_
    exact ih (k+1) (by omega) (by omega) e
   ·rw [if_neg fun hh => hxy (Option.some.inj hh.2).symm] at e
    rw [decide_eq_false hxy]
    exact fin k (by omega) e
  ·have c : ¬ (k : Int) < ((Infl.mostAt s a : Nat) : Int) := of_decide_eq_false c
   have c:¬ a+k<s.length:=by unfold Infl.mostAt at c; omega
   rw [if_neg fun hh=>c hh.1] at e
   exact fin k (by omega) e
theorem aEU {X0 : aS} {l : Nat} {Y : List AV → aA → (AV → aA → Prop) → Prop} {S : aA → Nat × Nat → Prop} {E : aA → Nat × Nat → Prop} {bx : AV} {sv : AV} {xs : List Nat} {Q : AV → aA → Prop}
  (hlen:xs.length<1073741824) (hbx:∀ h b,S h b→∀ K:AV→Prop,K sv→aB bx h K) (hsv:∀ h b,S h b→Rd 1 h sv (bB xs) xs.length) (hx:∀ f∈xs,f<a) (hSE:∀ h b,S h b→E h b) (hb0:∀ h b,S h b→b.1≤258)
  (hY:∀ h b i f K,S h b→f<a→(32768<a - f∨b.1=Infl.mostAt s a→∀ h',E h' b→K (.b false) h')→(¬ (32768<a - f∨b.1=Infl.mostAt s a)→∀ h',S h' (Infl.better s a b (a - f))→K (.b true) h')→Y [iN i,iN f] h K) :
  ∀ (j:Nat) (h:aA) (b:Nat × Nat),j≤xs.length→S h b→(∀ h',E h' (Infl.srch s a (xs.take j).reverse b)→Q (.tu []) h') →
  @Y25.p0 ⟨orY (dR prog X0) l Y⟩ Q (.fn (.yield l) [] []) bx ((j:Int) - 1) h:=by
 letI:XR:=⟨orY (dR prog X0) l Y⟩
 intro j
 induction j with
 | zero =>
  intro h b hj hS hq
  refine Y25.i0 ?_
  unfold Y25.t0
  exact aV (by decide) (hq h (hSE h b hS))
 | succ j ih =>
  intro h b hj hS hq
  have ej:((j+1:Nat):Int) - 1=(j:Int):=by omega
  obtain ⟨f,hf⟩:∃ f,xs[j]? = some f:=⟨_,List.getElem?_eq_getElem (by omega)⟩
  have htk:(xs.take (j+1)).reverse=f :: (xs.take j).reverse:=by
   rw [List.take_add_one,hf]; simp
  rw [htk,Infl.srch] at hq
  refine Y25.i0 ?_
  unfold Y25.t0
  rw [ej]
  refine bA (decide_eq_true (by omega)) ?_
  refine hbx h b hS _ ?_
  refine (hsv h b hS).idx (by omega) (by omega) fun id ver off ⟨bk,g1,g2,g3,g4,g5⟩=>⟨bk,g1,⟨g2,g3,g4⟩, ?_⟩
  have hc:(bk.cells)[off]? = some (iN f):=by
   have e1:((bk.cells.drop off).take 1)[0]? = some (iN f):=by
    rw [g5,List.getElem?_take_of_lt (by decide),List.getElem?_drop,Int.toNat_natCast,Nat.mul_one,Nat.add_zero]
    unfold bB
    rw [List.getElem?_map,hf] <;> rfl
   rw [List.getElem?_take_of_lt (by decide),List.getElem?_drop,Nat.add_zero] at e1
   exact e1
  show asI .i64 (bk.cells.getD off .u) _
  rw [getD_some hc]
  refine aD ?_
  refine xL (.inr ⟨rfl,hY h b j f _ hS (hx f (List.mem_of_getElem? hf)) (fun hstop h' hE=>?_) fun hgo h' hS'=>?_⟩)
  ·rw [if_pos hstop] at hq
   refine bE (bA rfl (hq h' hE))
  ·rw [if_neg hgo] at hq
   refine bE (aV rfl ?_)
   refine aM (n:=(j:Int) - 1) (by rw [aW (by omega) (by omega)]) ?_
   exact ih h' _ (by omega) hS' hq
end
end Go.Proofs.YtpaphfeihpgamaaDoor
namespace Go.Proofs.YtpaphfeihpgamaaDoor
open Go.GAM
theorem yM {P:Program} {R:aS} {A:aS→aS} {gf:FuncId} {first cap:List AV} {Y:Nat→Loop→List AV→aA→(AV→aA→Prop)→Prop} {h:aA} {K:Loop→aA→Prop} (hc:(Nat.blt gf yid0&&mR P gf)=true)
  (hk:∀ l rec,A (orY R l (Y h.length rec)) gf (first++[.fn (.yield l) [] []]++cap) (h++[dJ rec .ready none]) (fun _ h'=>K rec h')):aCG P R A (.fn (.func gf) first cap) Y h K:=bA hc hk
section
attribute [local instance] xr0
theorem aCJ {s : List UInt8} {a : Nat} {h : aA} {v : AV} {Q : AV → aA → Prop} (hs : s.length < 1073741824) (ha : a + 3 ≤ s.length) (S : Stk h v (bB (occ s a (b9 s a))))
  (hq:Q (.tu [iN (Infl.matchP s a).1,iN (Infl.matchP s a).2]) h):aFX prog (@C xr0) (dR prog) Y31.id [.s s,iN a,v] h Q:=by
 refine Y31.callX ?_
 unfold Y31.tX
 refine bT (hk:=fun h1 l1 U1 R1=>?_)
 refine bT (hk:=fun h2 l2 U2 R2=>?_)
 refine cF fun h3 l3 U3 R3=>?_
 refine cF fun h4 l4 U4 R4=>?_
 have R1:=((R1.upd U2 fun h=>h).upd U3 fun h=>h).upd U4 fun h=>h
 have R2:=(R2.upd U3 fun h=>h).upd U4 fun h=>h
 have R3:=R3.upd U4 fun h=>h
 refine aE R1 rfl rfl (cB (aE R2 rfl rfl (aD ?_)))
 refine aM (n:=((s.length - a:Nat):Int)) (by rw [aW (by omega) (by omega)]; omega) ?_
 rw [mmF]
 refine cF fun h5 l5 U5 R5=>?_
 refine aR R5 rfl Nat.one_pos (hk:=fun h6 l6 U6 R6=>?_)
 have R6:bC h6 h4.length [iN (Infl.mostAt s a)]:=R6
 have U56:Upd (fun _=>False) h4 h6:=U5.own U6 (Nat.le_refl _)
 have R1:bC h6 h.length [.s s]:=R1.upd U56 fun h=>h
 have R2:bC h6 h1.length [iN a]:=R2.upd U56 fun h=>h
 have R3:bC h6 h2.length [iN 0]:=R3.upd U56 fun h=>h
 have R4:bC h6 h3.length [iN 0]:=R4.upd U56 fun h=>h
 have Uh6:Upd (fun _=>False) h h6:=(((U1.then U2).then U3).then U4).then U56
 refine Y65.call ?_
 unfold Y65.t
 refine bT (hs:=by rcases S with ⟨rfl,_⟩ | ⟨_,_,rfl,_⟩ <;> rfl) (hk:=fun h7 l7 U7 R7=>.inl ?_)
 have hvp:v.parts=[v]:=by rcases S with ⟨rfl,_⟩ | ⟨_,_,rfl,_⟩ <;> rfl
 rw [hvp] at R7 ⊢
 have S7:Rd 1 h7 v (bB (occ s a (b9 s a))) (occ s a (b9 s a)).length:=by
  have:=(S.upd (Uh6.then U7) fun i hi h=>h).rd
  rwa [show (bB (occ s a (b9 s a))).length=(occ s a (b9 s a)).length by unfold bB; simp] at this
 have R1:=R1.upd U7 fun h=>h
 have R2:=R2.upd U7 fun h=>h
 have R3:=R3.upd U7 fun h=>h
 have R4:=R4.upd U7 fun h=>h
 have R6:=R6.upd U7 fun h=>h
 have hl1:=R1.lt
 have hlt:h.length<h1.length∧h1.length<h2.length∧h2.length<h3.length∧h3.length<h4.length∧h4.length<h6.length∧h6.length<h7.length:=by
  have:=U6.1
  omega
 obtain ⟨q1,q2,q3,q4,q5,q6⟩:=hlt
 refine yM (by kernel_rfl) fun l rec=>?_
 obtain ⟨Hb,hHb⟩:∃ Hb,h7++[dJ rec .ready none]=Hb:=⟨_,rfl⟩
 have Ub:Upd (fun _=>False) h7 Hb:=by rw [← hHb]; exact Upd.app _ _
 have hgb:Hb[h7.length]? = some (dJ rec .ready none):=by rw [← hHb]; simp
 rw [hHb]
 have R1:=R1.upd Ub fun h=>h
 have R2:=R2.upd Ub fun h=>h
 have R3:=R3.upd Ub fun h=>h
 have R4:=R4.upd Ub fun h=>h
 have R6:=R6.upd Ub fun h=>h
 have R7:=R7.upd Ub fun h=>h
 have Sb:=S7.upd Ub fun i hi h=>h
 have hsvlt:∀ i,aQ v i→i<h.length:=fun i hi=>S.rd.lt hi
 have hbase:Upd (fun _=>False) h Hb:=(Uh6.then U7).then Ub
 have M0:MS Hb h7.length h2.length h3.length rec .ready none Hb (0,0):=⟨Upd.refl _ _,hgb,R3,R4⟩
 have hocc:(occ s a (b9 s a)).length<1073741824:=Nat.lt_of_le_of_lt (vJ s _ a) (by omega)
 refine @Y25.call ⟨orY (@C xr0) l _⟩ _ _ _ _ ?_
 unfold Y25.t
 refine aE R7 rfl rfl (S7.len ?_)
 refine aM (n:=(((occ s a (b9 s a)).length:Nat):Int) - 1) (aW (by omega) (by omega)) ?_
 refine aEU (s:=s) (a:=a) (xs:=occ s a (b9 s a)) (sv:=v) (S:=fun h b=>MS Hb h7.length h2.length h3.length rec .ready none h b∧b.1≤258)
  (E:=fun h b=>(MS Hb h7.length h2.length h3.length rec .ready none h b∨MS Hb h7.length h2.length h3.length rec .done (some (.exit 0)) h b)∧b.1≤258) hocc ?_ ?_ (fun f hf=>(sD s _ a f hf).1) (fun h b hS=>⟨.inl hS.1,hS.2⟩) (fun h b hS=>hS.2) ?_
  _ Hb (0,0) (Nat.le_refl _) ⟨M0,by decide⟩ ?_
 ·intro h' b hS K hK
  exact aE (R7.upd hS.1.upd fun h=>h.elim (by omega) fun h=>h.elim (by omega) (by omega)) rfl rfl hK
 ·intro h' b hS
  exact Sb.upd hS.1.upd fun i hi h=>by
   have:=hsvlt i hi
   exact h.elim (by omega) fun h=>h.elim (by omega) (by omega)
 ·intro h' b i f K ⟨hM, hb⟩ hf hstop hgo
  refine ⟨hM.gh, ?_⟩
  refine aCB (aD ⟨hM.gh, ?_⟩)
  unfold aAM aBY
  have MB:MS Hb h7.length h2.length h3.length rec .busy none (h'.set h7.length (dJ rec .busy none)) b:=hM.set (by omega) (by omega)
  have Ra:=R2.upd MB.upd fun h=>h.elim (by omega) fun h=>h.elim (by omega) (by omega)
  have Rm:=R6.upd MB.upd fun h=>h.elim (by omega) fun h=>h.elim (by omega) (by omega)
  refine aE Ra rfl rfl (aD ?_)
  refine aM (n:=((a - f:Nat):Int)) (by rw [aW (by omega) (by omega)]; omega) ?_
  simp only [← Y3.p0.eq_1]
  have out:∀ c:Bool,(c=true↔32768<a - f∨b.1=Infl.mostAt s a)→Y3.p0 (aD3 h7.length rec K) (p1 h.length) (p1 h1.length) (p1 h2.length) (p1 h3.length) (p1 h4.length) f c (h'.set h7.length (dJ rec .busy none)):=by
   intro c hc
   refine Y3.i0 ?_
   unfold Y3.t0
   simp only [← Y3.p1.eq_1]
   refine aP (fun e=>?_) fun e=>?_
   ·refine ⟨MB.gh,hstop (hc.1 e) _ ⟨.inr (MB.set (by omega) (by omega)),hb⟩⟩
   ·have hn : ¬ (32768 < a - f ∨ b.1 = Infl.mostAt s a) := fun hh => by rw [hc.2 hh] at e; cases e
    refine aE4 (s:=s) (a:=a) (Hb:=Hb) (b:=b) (by omega) (by omega) R1 R2 R6 ⟨by omega,by omega,by omega⟩ ⟨by omega,by omega,by omega⟩ ⟨by omega,by omega,by omega⟩ (by omega) (by omega) (by omega) hf MB hb (fun h2' M2=>?_) 258 0 (by omega) (by omega) rfl
    refine ⟨M2.gh,hgo hn _ ⟨M2.set (by omega) (by omega), ?_⟩⟩
    unfold Infl.better
    split
    ·exact (Infl.lcp_ok _ (by omega)).1
    ·exact hb
  refine aP (fun e=>out true ⟨fun _=>.inl (by have:=of_decide_eq_true e; omega),fun _=>rfl⟩) fun e=>?_
  have e:¬ 32768<a - f:=by have:=of_decide_eq_false e; omega
  refine aE MB.n rfl rfl (aD (aE Rm rfl rfl (aD (out _ ?_))))
  rw [decide_eq_true_iff]
  exact ⟨fun h=>.inr (by omega),fun h=>h.elim (fun h=>absurd h e) fun h=>by rw [h]⟩
 ·intro h' ⟨hE, hle⟩
  rw [List.take_length,z5 ha] at hE
  refine .inl ?_
  obtain ⟨st,pe,hM⟩:∃ st pe,MS Hb h7.length h2.length h3.length rec st pe h' (Infl.matchP s a):=hE.elim (fun M=>⟨_,_,M⟩) fun M=>⟨_,_,M⟩
  have Ud:Upd (fun i=>i=h2.length∨i=h3.length∨i=h7.length) Hb (h'.set h7.length cI):=hM.upd.trans (Upd.set _ _ _) fun i _ e=>.inr (.inr e)
  have Rn:=hM.n.upd (Upd.set h' h7.length cI) (by omega)
  have Rf:=hM.far.upd (Upd.set h' h7.length cI) (by omega)
  have ret:∀ h'',Upd (fun i=>i=h2.length∨i=h3.length) (h'.set h7.length cI) h''→aK h Q (.tu [iN (Infl.matchP s a).1,iN (Infl.matchP s a).2]) h'':=by
   intro h'' U''
   have Uall:Upd (fun _=>False) h h'':=(hbase.trans Ud fun i hi e=>by omega).trans U'' fun i hi e=>by omega
   exact gW rfl ⟨Uall.1,fun i hi=>Uall.2 i hi fun h=>h⟩ hq
  have tail:aB (p1 h2.length) (h'.set h7.length cI) (fun v73=>asI .i64 v73 fun n74=>aB (p1 h3.length) (h'.set h7.length cI) fun v75=>asI .i64 v75 fun n76=>
    aU 1 (p1 h2.length) (AV.i .i64 n74) (h'.set h7.length cI) fun h77=>aB (p1 h3.length) h77 fun v78=>asI .i64 v78 fun n79=>((AV.i .i64 n76)=(AV.i .i64 n79) ∧
    (aU 1 (p1 h3.length) (AV.i .i64 n76) h77 fun h80=>aB (p1 h2.length) h80 fun v82=>aB (p1 h3.length) h80 fun v83=>aK h Q (AV.tu [v82,v83]) h80))):=by
   refine aE Rn rfl rfl (aD (aE Rf rfl rfl (aD ?_)))
   refine aR Rn rfl Nat.one_pos (hk:=fun h8 l8 U8 R8=>?_)
   have Rf8:=Rf.upd U8 (by omega)
   refine aE Rf8 rfl rfl (aD ⟨rfl, ?_⟩)
   refine aR Rf8 rfl Nat.one_pos (hk:=fun h9 l9 U9 R9=>?_)
   refine aE (R8.upd U9 (by omega)) rfl rfl (aE R9 rfl rfl (ret h9 ?_))
   exact (U8.mono fun i _ e=>.inl e).trans U9 fun i _ e=>.inr e
  rcases hE with M | M
  ·exact .inl ⟨M.gh,tail⟩
  ·exact .inr (.inl ⟨M.gh,tail⟩)
end
end Go.Proofs.YtpaphfeihpgamaaDoor
namespace Go.Proofs.YtpaphfeihpgamaaDoor
open Go.GAM
def eR (h:aA) (id N:Nat) (ex:Bool) (bs:List UInt8):Prop:=∃ b:ABlk,h[id]? = some b∧b.sz=1∧b.cells.length=N∧b.floor≤N∧b.ro=false∧(ex=true→b.ex=true)∧bs.length≤N∧b.cells.take bs.length=bs.map byteAV
theorem eR.lt {h:aA} {id N:Nat} {ex:Bool} {bs:List UInt8} (B:eR h id N ex bs):id<h.length:=by obtain ⟨b,h1,_⟩:=B; exact aI h1
theorem eR.upd {M:Nat→Prop} {h h':aA} {id N:Nat} {ex:Bool} {bs:List UInt8} (B:eR h id N ex bs) (U:Upd M h h') (hM:¬ M id):eR h' id N ex bs:=by
 have hl:=B.lt
 obtain ⟨b,h1,h2⟩:=B
 exact ⟨b,(U.2 id hl hM).trans h1,h2⟩
theorem eR.copy {h:aA} {id N:Nat} {ex:Bool} {bs ns:List UInt8} {x:AV} (B:eR h id N ex bs) (hN:bs.length+ns.length≤N) {c:Option Nat} (hx:∀ K:List AV→Nat→Prop,K (ns.map byteAV) ns.length→eF 1 x h K) {K:AV→aA→Prop}
  (hk:∀ h',h'.length=h.length→Upd (· = id) h h'→eR h' id N ex (bs++ns)→K (iN ns.length) h'):j8 1 (.sl (some ⟨id,N,bs.length⟩) ns.length c) x h K:=by
 have hl:=B.lt
 obtain ⟨b,h1,h2,h3,h4,h5,h6,h7,h8⟩:=B
 refine ⟨Nat.one_pos,hx _ ⟨b,h1,h2,⟨h4,by show N≤b.cells.length; omega,by show bs.length+ns.length * 1≤N; omega⟩,h5,h3.symm, ?_, ?_⟩⟩
 ·rw [List.all_eq_true]
  intro v hv
  obtain ⟨c,_,rfl⟩:=List.mem_map.1 (List.mem_of_mem_take hv)
  rfl
 ·have e1 : (ns.map byteAV).take (min ns.length ns.length * 1) = ns.map byteAV := List.take_of_length_le (by simp)
  rw [e1,Nat.min_self]
  refine hk _ (by simp) (Upd.set _ _ _) ⟨_,List.getElem?_set_self hl,h2, ?_, ?_,h5,h6,by rw [List.length_append]; exact hN, ?_⟩
  ·rw [eJ]; exact h3
  ·show b.cells.length≤N; omega
  ·show (wr b.cells bs.length (ns.map byteAV)).take _ = _
   have e2:b.cells=bs.map byteAV++b.cells.drop bs.length:=by rw [← h8,List.take_append_drop]
   have e3:bs.length=(bs.map byteAV).length:=by simp
   rw [e2]
   conv=>lhs; arg 2; arg 2; rw [e3]
   rw [sG _ _ _ (by simp; omega),List.length_append, ← List.append_assoc,List.take_append_of_le_length (by simp),List.take_of_length_le (by simp),List.map_append]
def iK (h:aA) (d:Nat) (v:AV):Prop:=bC h d [v,iN 0,.i .i8 0]
abbrev bp (d:Nat):AV:=.p (some ⟨d,3,0⟩)
section
variable [XR] {h:aA} {Q:AV→aA→Prop} {d id N:Nat} {bs ns:List UInt8}
def vX [XR]:Prop:=∀ (h:aA) (Q:AV→aA→Prop) (id N n:Nat) (bs:List UInt8),eR h id N true bs→N≤1000→1≤n→n≤1099511627776 →
 (∀ h' N',Upd (fun _=>False) h h'→h.length<h'.length→bs.length+n≤N'→eR h' h.length N' false bs→Q (.sl (some ⟨h.length,N',0⟩) bs.length none) h')→C Y67.id [.sl (some ⟨id,N,0⟩) bs.length none,iN n] h Q
theorem aCW {K:AV→aA→Prop} (hk:K (.i .i64 0) h):vG 1 (.sl none 0 none) h K:=hk
theorem aA3 {K:AV→Prop} {t:TypeId} (ht:xS prog t=true) (hk:K (.b true)):dN prog .eql t (.sl none 0 none) (.sl none 0 none) K:=by
 simp only [dN,ht,cond_true]; exact hk
theorem yQ {K:AV→Prop} {t:TypeId} {a:AA} {n:Nat} {c:Option Nat} (ht:xS prog t=true) (hk:K (.b false)):dN prog .eql t (.sl (some a) n c) (.sl none 0 none) K:=by
 simp only [dN,ht,cond_true]; exact hk
theorem z7 {l:List UInt8} {K:List AV→Nat→Prop} (hk:K (l.map byteAV) l.length):eF 1 (.s l) h K:=⟨rfl,hk⟩
theorem wL (R:iK h d (.sl none 0 none)) {n:Nat} (hn:0<n) (hq:Q (.tu [iN 0,.b false]) h):C Y28.id [bp d,iN n] h Q:=by
 refine Y28.call ?_
 simp only [Y28.t,bI,bH]
 refine aE R rfl rfl (pH (aE R rfl rfl (aCW ?_)))
 refine aD (aM (n:=0) rfl ?_)
 exact aV (decide_eq_false (by omega)) (.inl hq)
theorem sC {id N l:Nat} (B:eR h id N true bs) {K:AV→aA→Prop} (hk:K (iN N) h):vG 1 (.sl (some ⟨id,N,0⟩) l none) h K:=by
 obtain ⟨b,h1,h2,h3,h4,h5,h6,h7,h8⟩:=B
 exact .inl ⟨b,N,h1,by omega,h6 rfl,h3.symm,h2,Nat.one_pos,by show 0+N * 1=b.cells.length; omega,hk⟩
theorem aDT {ex:Bool} {id N l j:Nat} (B:eR h id N ex bs) (hj:j≤N) {K:AV→Prop} (hk:K (.sl (some ⟨id,N,0⟩) j none)):bJ 1 (.sl (some ⟨id,N,0⟩) l none) none (some (iN j)) none h K:=by
 obtain ⟨b,h1,h2,h3,h4,h5,h6,h7,h8⟩:=B
 refine ⟨Nat.one_pos,fun h=>by simp at h,by omega,by simp,b,h1,by omega,by show b.floor≤N; omega,.inl h2, ?_⟩
 refine ⟨.inr (.inl ⟨rfl,by simp; omega⟩), ?_⟩
 simpa using hk
theorem nW {ex:Bool} {id N l i:Nat} (B:eR h id N ex bs) (hi:i≤l) {K:AV→Prop} (hk:K (.sl (some ⟨id,N,i⟩) (l - i) none)):bJ 1 (.sl (some ⟨id,N,0⟩) l none) (some (iN i)) none none h K:=by
 obtain ⟨b,h1,h2,h3,h4,h5,h6,h7,h8⟩:=B
 refine ⟨Nat.one_pos,fun h=>by simp at h,by omega,by simp; omega,b,h1,by omega,by show b.floor≤N; omega,.inl h2, ?_⟩
 refine ⟨.inl (Nat.le_refl _), ?_⟩
 simpa using hk
theorem aDC (R:iK h d (.sl (some ⟨id,N,0⟩) bs.length none)) (B:eR h id N true bs) (hne:d≠id) {n:Nat} (hN:N≤1000) (hn:bs.length+n≤N)
  (hq:∀ h',Upd (· = d) h h'→iK h' d (.sl (some ⟨id,N,0⟩) (bs.length+n) none)→Q (.tu [iN bs.length,.b true]) h'):C Y28.id [bp d,iN n] h Q:=by
 refine Y28.call ?_
 simp only [Y28.t,bI,bH]
 refine aE R rfl rfl (pH (aE R rfl rfl (sC B (aD ?_))))
 refine aM (n:=((N - bs.length:Nat):Int)) (by rw [aW (by omega) (by omega)]; omega) ?_
 refine bA (decide_eq_true (by omega)) (aE R rfl rfl ?_)
 refine aM (n:=((bs.length+n:Nat):Int)) (by rw [aW (by omega) (by omega)]; omega) ?_
 refine aDT B hn ?_
 exact aR R rfl (by show 0<3; decide) (hk:=fun h1 l1 U1 R1=>.inl (hq h1 U1 R1))
theorem aBU (R:iK h d (.sl (some ⟨id,N,0⟩) bs.length none)) (B:eR h id N true bs) {n:Nat} (hN:N≤1000) (hn2:n≤1099511627776) (hn:N<bs.length+n)
  (hq:Q (.tu [iN 0,.b false]) h):C Y28.id [bp d,iN n] h Q:=by
 have hbN:bs.length≤N:=by obtain ⟨b,_,_,_,_,_,_,h7,_⟩:=B; exact h7
 refine Y28.call ?_
 simp only [Y28.t,bI,bH]
 refine aE R rfl rfl (pH (aE R rfl rfl (sC B (aD ?_))))
 refine aM (n:=((N - bs.length:Nat):Int)) (by rw [aW (by omega) (by omega)]; omega) ?_
 exact aV (decide_eq_false (by omega)) (.inl hq)
theorem aCF (R:iK h d (.sl none 0 none)) (hq:Q (iN 0) h):C Y32.id [bp d] h Q:=by
 refine Y32.call ?_
 simp only [Y32.t,bI,bH]
 exact aE R rfl rfl (pH (aE R rfl rfl (aD (aM (n:=0) rfl (.inl hq)))))
theorem aEP {a:AA} {l:Nat} (R:iK h d (.sl (some a) l none)) (hl:l<1099511627776) (hq:Q (iN l) h):C Y32.id [bp d] h Q:=by
 refine Y32.call ?_
 simp only [Y32.t,bI,bH]
 exact aE R rfl rfl (pH (aE R rfl rfl (aD (aM (n:=(l:Int)) (by rw [aW (by omega) (by omega)]; omega) (.inl hq)))))
theorem aBG (R:iK h d (.sl none 0 none)) {n:Nat} (h0:0<n) (hn:n≤64)
  (hq:∀ h' id,Upd (· = d) h h'→h.length≤id→iK h' d (.sl (some ⟨id,64,0⟩) n none)→eR h' id 64 true []→Q (iN 0) h'):C Y4.id [bp d,iN n] h Q:=by
 refine Y4.call ?_
 simp only [Y4.t, ← Y4.p0.eq_1,bI,bH]
 refine aCF R (aD (bA rfl ?_))
 refine aE R rfl rfl (aD ?_)
 refine Y4.i0 ?_
 simp only [Y4.t0, ← Y4.p1.eq_1]
 refine aV rfl ?_
 refine Y4.i1 ?_
 simp only [Y4.t1, ← Y4.p2.eq_1,bI,bH]
 refine wL R h0 ?_
 simp only [d6,d7]
 refine aD (bE (aV rfl (aE R rfl rfl (aA3 (by kernel_rfl) ?_))))
 refine bE (bA rfl ?_)
 refine Y4.i2 ?_
 simp only [Y4.t2,bI,bH]
 refine bA (decide_eq_true (by omega)) ?_
 refine ⟨by omega,by omega,by decide,by decide,rfl,Nat.one_pos, ?_⟩
 rw [Int.toNat_natCast]
 have U1:Upd (fun _=>False) h (h++[aZ (List.replicate (64:Int).toNat [AV.i .u8 0]).flatten 1 true]):=Upd.app _ _
 refine aR (R.upd U1 fun h=>h) rfl (by show 0<3; decide) (hk:=fun h2 l2 U2 R2=>?_)
 refine .inl (hq h2 h.length ((U1.mono fun _ _ h=>h.elim).trans U2 fun _ _ h=>h) (Nat.le_refl _) R2 ?_)
 have hd:=R.lt
 refine eR.upd (h:=h++[aZ (List.replicate (64:Int).toNat [AV.i .u8 0]).flatten 1 true]) ⟨_,by simp; rfl,rfl,rfl,Nat.le_refl _,rfl,fun _=>rfl,Nat.zero_le _,rfl⟩ U2 (by omega)
theorem zN (hG:vX) (R:iK h d (.sl (some ⟨id,64,0⟩) bs.length none)) (B:eR h id 64 true bs) (hne:d≠id) {n:Nat} (h0:0<bs.length) (hn2:n≤1099511627776) (hn:64<bs.length+n)
  (hq:∀ h' N',Upd (· = d) h h'→h.length<h'.length→bs.length+n≤N'→iK h' d (.sl (some ⟨h.length,N',0⟩) (bs.length+n) none)→eR h' h.length N' false bs→Q (iN bs.length) h'):C Y4.id [bp d,iN n] h Q:=by
 have hbN:bs.length≤64:=by obtain ⟨b,_,_,_,_,_,_,h7,_⟩:=B; exact h7
 have hd:=R.lt
 refine Y4.call ?_
 simp only [Y4.t, ← Y4.p0.eq_1,bI,bH]
 refine aEP R (by omega) (aD (aV (decide_eq_false (by omega)) ?_))
 refine Y4.i0 ?_
 simp only [Y4.t0, ← Y4.p1.eq_1]
 refine aV rfl ?_
 refine Y4.i1 ?_
 simp only [Y4.t1, ← Y4.p2.eq_1,bI,bH]
 refine aBU R B (by decide) hn2 (by omega) ?_
 simp only [d6,d7]
 refine aD (bE (aV rfl (aE R rfl rfl (yQ (by kernel_rfl) ?_))))
 refine bE (aV rfl ?_)
 refine Y4.i2 ?_
 simp only [Y4.t2, ← Y4.p3.eq_1,bI,bH]
 refine aV rfl (aE R rfl rfl (sC B (aD ?_)))
 refine uU (n:=32) (by decide) (by decide) ?_
 refine aM (n:=32 - (bs.length:Int)) (aW (by omega) (by omega)) ?_
 refine aV (decide_eq_false (by omega)) ?_
 refine aM (n:=9223372036854775743) (by decide) ?_
 refine aM (n:=9223372036854775743 - (n:Int)) (aW (by omega) (by omega)) ?_
 refine aV (decide_eq_false (by omega)) ?_
 refine aE R rfl rfl (aE R rfl rfl (aD ?_))
 refine nW B (Nat.zero_le _) (aE R rfl rfl (aD ?_))
 refine aM (n:=(n:Int)) (by rw [aW (by omega) (by omega)]; simp) ?_
 refine hG h _ id 64 n bs B (by decide) (by omega) hn2 fun h1 N' U1 l1 hN' B1=>?_
 refine aR (R.upd U1 fun h=>h) rfl (by show 0<3; decide) (hk:=fun h2 l2 U2 R2=>?_)
 refine Y4.i3 ?_
 simp only [Y4.t3,bI,bH]
 refine aR R2 rfl (by show 1<3; decide) (hk:=fun h3 l3 U3 R3=>?_)
 refine aE R3 rfl rfl ?_
 refine aM (n:=((bs.length+n:Nat):Int)) (by rw [aW (by omega) (by omega)]; omega) ?_
 have B3:eR h3 h.length N' false bs:=(B1.upd U2 (by omega)).upd U3 (by omega)
 refine aDT B3 hN' ?_
 refine aR R3 rfl (by show 0<3; decide) (hk:=fun h4 l4 U4 R4=>?_)
 refine .inl (hq h4 N' ((((U1.mono fun _ _ h=>h.elim).trans U2 fun _ _ h=>h).trans U3 fun _ _ h=>h).trans U4 fun _ _ h=>h) (by omega) hN' R4 (B3.upd U4 (by omega)))
theorem sZ (R:iK h d (.sl none 0 none)) {x:AV} {n0:0<ns.length} (hn:ns.length≤64) (B:Rd 1 h x (ns.map byteAV) ns.length) (hx:¬ aQ x d)
  (hq:∀ h' id,Upd (· = d) h h'→h.length≤id→iK h' d (.sl (some ⟨id,64,0⟩) ns.length none)→eR h' id 64 true ns→Q (.tu [iN ns.length,.ni]) h'):C Y26.id [bp d,x] h Q:=by
 refine Y26.call ?_
 simp only [Y26.t, ← Y26.p0.eq_1,bI,bH]
 refine aR R rfl (by show 2<3; decide) (hk:=fun h1 l1 U1 R1=>?_)
 have R1:iK h1 d (.sl none 0 none):=R1
 have B1:=B.upd U1 fun i hi e=>hx (e ▸ hi)
 refine B1.len (wL R1 n0 ?_)
 simp only [d6,d7]
 refine aD (bE (bA rfl (B1.len ?_)))
 refine aBG R1 n0 hn fun h2 id U2 hid R2 B2=>aD ?_
 refine Y26.i0 ?_
 simp only [Y26.t0,bI,bH]
 refine aE R2 rfl rfl (nW B2 (Nat.zero_le _) ?_)
 have Bx2:=B1.upd U2 fun i hi e=>hx (e ▸ hi)
 refine eR.copy (bs:=[]) (ns:=ns) B2 (by simpa using hn) (fun K hk=>Bx2.news hk) fun h3 l3 U3 B3=>aD (.inl ?_)
 have hd:=R.lt
 refine hq h3 id ((U1.trans U2 fun _ _ h=>h).trans U3 fun i hi e=>by omega) (by omega) (R2.upd U3 (by omega)) B3
theorem vS (hG:bs.length+ns.length≤64∨vX) (R:iK h d (.sl (some ⟨id,64,0⟩) bs.length none)) (B:eR h id 64 true bs) (hne:d≠id) (h0:0<bs.length) (hn2:ns.length≤1099511627776)
  (hq:∀ h' id' N ex,Upd (fun i=>i=d∨i=id) h h'→(id'=id∨h.length≤id')→iK h' d (.sl (some ⟨id',N,0⟩) (bs.length+ns.length) none)→eR h' id' N ex (bs++ns)→Q (.tu [iN ns.length,.ni]) h'):C Y23.id [bp d,.s ns] h Q:=by
 have hbN:bs.length≤64:=by obtain ⟨b,_,_,_,_,_,_,h7,_⟩:=B; exact h7
 refine Y23.call ?_
 simp only [Y23.t, ← Y23.p0.eq_1,bI,bH]
 refine aR R rfl (by show 2<3; decide) (hk:=fun h1 l1 U1 R1=>?_)
 have R1:iK h1 d (.sl (some ⟨id,64,0⟩) bs.length none):=R1
 have B1:=B.upd U1 fun e=>hne e.symm
 have hd:=R.lt
 have hidl:=B.lt
 have fin:∀ h2 id' N ex,Upd (fun i=>i=d∨i=id) h h2→(id'=id∨h.length≤id')→iK h2 d (.sl (some ⟨id',N,0⟩) (bs.length+ns.length) none)→eR h2 id' N ex bs→bs.length+ns.length≤N→Y23.p0 (aK h Q) (bp d) ns bs.length h2:=by
  intro h2 id' N ex U2 hid' R2 B2 hN
  refine Y23.i0 ?_
  simp only [Y23.t0,bI,bH]
  refine aE R2 rfl rfl (nW B2 (Nat.le_add_right _ _) ?_)
  rw [Nat.add_sub_cancel_left]
  have hdi:d≠id':=by omega
  refine B2.copy hN (fun K hk=>z7 hk) fun h3 l3 U3 B3=>aD (.inl ?_)
  exact hq h3 id' N ex (U2.trans U3 fun i hi e=>by omega) hid' (R2.upd U3 hdi) B3
 by_cases hc:bs.length+ns.length≤64
 ·refine aDC R1 B1 hne (by decide) hc fun h2 U2 R2 => ?_
  simp only [d6,d7]
  refine aD (bE (aV rfl ?_))
  exact fin h2 id 64 true ((U1.mono fun _ _ e=>.inl e).trans U2 fun i _ e=>.inl e) (.inl rfl) R2 (B1.upd U2 fun e=>hne e.symm) hc
 ·refine aBU R1 B1 (by decide) hn2 (by omega) ?_
  simp only [d6,d7]
  refine aD (bE (bA rfl ?_))
  refine zN (hG.resolve_left hc) R1 B1 hne h0 hn2 (by omega) fun h2 N' U2 l2 hN' R2 B2=>aD ?_
  exact fin h2 _ N' false ((U1.mono fun _ _ e=>.inl e).trans U2 fun i _ e=>.inl e) (.inr (by omega)) R2 B2 hN'
theorem aET {ex:Bool} (R:iK h d (.sl (some ⟨id,N,0⟩) bs.length none)) (B:eR h id N ex bs) (hq:Q (.s bs) h):C Y53.id [bp d] h Q:=by
 refine Y53.call ?_
 simp only [Y53.t,bI,bH]
 refine eM (by kernel_rfl) (bE (aV rfl (aE R rfl rfl (aE R rfl rfl (aD ?_)))))
 refine nW B (Nat.zero_le _) ?_
 rw [Nat.sub_zero]
 obtain ⟨b,h1,h2,h3,h4,h5,h6,h7,h8⟩:=B
 have Rb:Byt h (.sl (some ⟨id,N,0⟩) bs.length none) bs:=.inr ⟨id,N,0,none,b,rfl,h1,.inl h2,h4,by omega,by omega,by rw [List.drop_zero,Nat.mul_one]; exact h8⟩
 exact Rb.str (.inl hq)
end
end Go.Proofs.YtpaphfeihpgamaaDoor
namespace Go.Proofs.YtpaphfeihpgamaaDoor
open Go.GAM
open Go.Infl (bS cZ b8 Out Lim)
structure RS where
 at':Nat
 outv:AV
 short:Bool
 e:Int
section
variable [XR] {h:aA} {Q:AV→aA→Prop} {L:Lim} {s:List UInt8} {d:Nat} {r:RS} {out:List UInt8} {F:Infl.Fin}
end
end Go.Proofs.YtpaphfeihpgamaaDoor
namespace Go.Proofs.YtpaphfeihpgamaaDoor
open Go.GAM
open Go.Infl (bS cZ b8 Out Lim)
section
variable [XR] {h:aA} {Q:AV→aA→Prop} {v:AV} {l:List Nat}
end
section
variable [XR] {h:aA} {Q:AV→aA→Prop} {v:AV} {l:List Nat}
end
end Go.Proofs.YtpaphfeihpgamaaDoor
namespace Go.Proofs.YtpaphfeihpgamaaDoor
open Go.GAM
open Go.Infl (bS cZ b8 Out Lim)
section
variable [XR] {h:aA} {Q:AV→aA→Prop} {L:Lim} {s:List UInt8} {d:Nat} {r:RS} {out:List UInt8} {F:Infl.Fin}
end
end Go.Proofs.YtpaphfeihpgamaaDoor
namespace Go.Proofs.YtpaphfeihpgamaaDoor
open Go.GAM
open Go.Infl (bS cZ b8 Out Lim)
theorem aAO {P:Program} {t:TypeId} {K:AV→Prop} (ht:kG P t=true) (hk:K (.b false)):dN P .neq t (.p none) (.p none) K:=by
 show (bif kG P t then _ else _); rw [ht]; exact hk
theorem qJ {P:Program} {t:TypeId} {a:AA} {K:AV→Prop} (ht:kG P t=true) (hk:K (.b true)):dN P .neq t (.p (some a)) (.p none) K:=by
 show (bif kG P t then _ else _); rw [ht]; exact hk
section
variable [XR] {h:aA} {Q:AV→aA→Prop} {L:Lim} {F:Nat→Prop} {d:Nat} {r:DR} {out:List UInt8} {told:Nat}
theorem tH {x:Nat} {c:b8} {v:AV} (O:cE h) (D:Dec L h F d r out told) (hF:∀ i,h.length≤i→F i) (hd:r.done=false) (hk:jA c=none) (hc:Clo h (Gd F d r) d 0 (.p none) c v) (hf:fit c x)
  (hq:∀ e h' r',cN F L h F d r told (Infl.apply L r.input ⟨out,r.last,r.skip⟩ x c) e h' r'→Q (.i .i64 e) h'):bV C v [iN x] h Q:=by
 cases c with
 | block=>exact aCR D hF hd hc hf hq
 | stored1=>exact y7 D hF hd hc hf hq
 | stored2 n=>exact xU D hF hd hc hf hq
 | raw n=>exact aE7 D hF hd hc hf hq
 | lit a b=>cases hk
 | more a b n=>exact aEC D hF hd hc hf hq
 | far a b n=>cases hk
 | farMore a b n f=>exact zD D hF hd hc hf hq
 | dyn1=>exact aD8 D hF hd hc hf hq
 | dyn2 lits=>exact aEQ D hF hd hc hf hq
 | dyn3 lits dists=>exact aEF D hF hd hc hf hq
 | third l i n lits dists=>exact aDK O D hF hd hc hf hq
 | lens c l lits dists=>cases hk
 | rep c l lits dists m y=>exact aFF D hF hd hc hf hq
theorem aBZ {x ic:Nat} {sym:AV} {l:List Nat} {c:b8} {v:AV} (D:Dec L h F d r out told) (hF:∀ i,h.length≤i→F i) (hd:r.done=false) (hk:jA c=some l) (A:bZ h (Gd F d r) ic l sym 0 0) (hc:Clo h (fun i=>Gd F d r i∧i≠ic) d ic sym c v) (hf:fit c x)
  (hq:∀ e h' r',cN F L h F d r told (Infl.apply L r.input ⟨out,r.last,r.skip⟩ x c) e h' r'→Q (.i .i64 e) h'):bV C v [iN x] h Q:=by
 cases c <;> first | (cases hk; done) | skip
 case lit a b=>cases hk; exact aE9 D hF hd A hc hf hq
 case far a b n=>cases hk; exact aE2 D hF hd A hc hf hq
 case lens c l lits dists=>cases hk; exact aD5 D hF hd A hc hf hq
theorem mL {x:Nat} {c:b8} {i:Nat} {k:bS} (hs:short c):(Infl.apply L i k x c).set:=by
 cases c <;> first | exact hs.elim | skip
 ·trivial
 ·simp only [Infl.apply]
  split
  ·trivial
  ·split <;> trivial
theorem rB {c:b8} {i a b:Nat} {k:bS} (hs:short c):Infl.settle L i 3 (.wait k (.num 0 a b) c)=Infl.apply L i k 0 c:=by
 show Infl.settle L i 2 (Infl.apply L i k 0 c)=_
 exact Infl.settle_set (mL hs)
theorem behind {h0':aA} {b:Bool} {x:Int} (hx:b=true) (hq:Q (.i .i64 x) h):Y2.p2 (aK h0' Q) (dp d) x b h:=by
 refine Y2.i2 ?_
 simp only [Y2.t2]
 exact bA hx (.inl hq)
theorem o4 {h0' h0 : aA} {r0 : DR} {o : Out} {e : Int} (O : cE h) (hF : ∀ i, h.length ≤ i → F i) (P : cN F L h0 F d r0 told o e h r) (hns : o.set)
  (hq:Q (.i .i64 e) h) (K:Int→Prop) :
  (bif (!decide ((e:Int)=0)) then Y2.p2 (aK h0' Q) (dp d) e true h else
   (aY (dp d) fun v75=>aC 7 v75 fun v76=>aB v76 h fun v77=>asB v77 fun c78=>Y2.p2 (aK h0' Q) (dp d) e c78 h)):=by
 refine aP ?_ ?_ <;> intro he
 ·exact behind rfl hq
 ·have he : e = 0 := by simpa using he
  simp only [bI,bH]
  refine aE P.dec.recd rfl rfl (bE ?_)
  cases hd:r.done with
  | true=>exact behind rfl hq
  | false =>
   refine Y2.i2 ?_
   simp only [Y2.t2,bI,bH, ← Y2.p3.eq_1]
   refine aV rfl ?_
   have P3:∀ t,t=false→Y2.p3 (aK h0' Q) (dp d) t h:=fun t ht=>by
    refine Y2.i3 ?_
    simp only [Y2.t3]
    rw [← he]
    exact aV ht (.inl hq)
   have hst:=P.st
   cases o with
   | done k=>rw [hst.2] at hd; cases hd
   | err x k =>
    obtain ⟨hx,hx2,_⟩:=hst
    rw [he] at hx
    rcases hx2 with rfl | rfl <;> exact absurd hx (by decide)
   | wait k w c =>
    obtain ⟨_,_,_,_,hw,hf⟩:=hst
    cases w with
    | num need hv acc =>
     obtain ⟨_,hcode,hneed,_⟩:=hw
     refine aE P.dec.recd rfl rfl ?_
     rw [hcode]
     refine sS (by kernel_rfl) (bE (bA rfl ?_))
     refine aE P.dec.recd rfl rfl (aD (P3 _ ?_))
     rw [hneed]
     have hns:0<need:=hns
     simp; omega
    | sym l n x =>
     obtain ⟨_,ic,sym,hcode,_⟩:=hw
     refine aE P.dec.recd rfl rfl ?_
     rw [hcode]
     exact eM (by kernel_rfl) (bE (aV rfl (P3 _ rfl)))
theorem xF {h0' h0 : aA} {r0 : DR} {o : Out} {e : Int} (hF0 : ¬ F 0) (O : cE h) (hF : ∀ i, h.length ≤ i → F i) (P : cN F L h0 F d r0 told o e h r)
    (hq:∀ e h' r',cE h'→(Infl.settle L r0.input 3 o).set→cN F L h0 F d r0 told (Infl.settle L r0.input 3 o) e h' r'→Q (.i .i64 e) h') :
    (bif (!decide ((e:Int)=0)) then Y2.p2 (aK h0' Q) (dp d) e true h else
      (aY (dp d) fun v75=>aC 7 v75 fun v76=>aB v76 h fun v77=>asB v77 fun c78=>Y2.p2 (aK h0' Q) (dp d) e c78 h)):=by
  by_cases hns:o.set
  · rw [Infl.settle_set hns] at hq
    exact o4 O hF P hns (hq e h r O hns P) fun _=>True
  · obtain ⟨k, hv, acc, c, rfl⟩ : ∃ k hv acc c, o = .wait k (.num 0 hv acc) c := by
      cases o with
      | done k=>exact absurd trivial hns
      | err x k=>exact absurd trivial hns
      | wait k w c =>
        cases w with
        | sym l n x=>exact absurd trivial hns
        | num need hv acc =>
          have:need=0:=by
            have:¬ 0<need:=hns
            omega
          subst this
          exact ⟨k,hv,acc,c,rfl⟩
    have hst:=P.st
    obtain ⟨he,h1,h2,h3,hw,hf⟩:=hst
    obtain ⟨hco,hcode,hneed,hhv,hac,hclo⟩:=hw
    obtain ⟨_,_,f3,f4⟩:=hf
    have hsh:short c:=f3.elim (fun h=>by omega) fun h=>h.2.2
    rw [rB hsh] at hq
    subst he
    refine aV rfl ?_
    simp only [bI,bH]
    refine aE P.dec.recd rfl rfl (bE ?_)
    rw [h3]
    refine Y2.i2 ?_
    simp only [Y2.t2,bI,bH, ← Y2.p3.eq_1]
    refine aV rfl ?_
    refine aE P.dec.recd rfl rfl ?_
    rw [hcode]
    refine sS (by kernel_rfl) (bE (bA rfl ?_))
    refine aE P.dec.recd rfl rfl (aD ?_)
    rw [hneed]
    refine Y2.i3 ?_
    simp only [Y2.t3, ← Y2.p0.eq_1]
    refine bA rfl ?_
    refine Y2.i0 ?_
    simp only [Y2.t0,bI,bH, ← Y2.p2.eq_1]
    refine aE P.dec.recd rfl rfl ?_
    have hk:k=⟨k.out,r.last,r.skip⟩:=by rw [h1,h2]
    have hD:Dec L h F d r k.out told:=P.dec
    refine tH (x:=0) O hD hF h3 hco hclo (f4 0 (by decide)) fun e2 h2 r2 P2=>aD ?_
    rw [P.inp, ← hk] at P2
    have P3:cN F L h0 F d r0 told (Infl.apply L r0.input k 0 c) e2 h2 r2:=P2.from P.upd (fun _ _ h=>h) P.keep P.inp P.bad P.rest
    have O2:cE h2:=O.upd P2.upd hF0
    exact o4 O2 (fun i hi=>hF i (Nat.le_trans P2.upd.1 hi)) P3 (mL hsh) (hq e2 h2 r2 O2 (mL hsh) P3) fun _=>True
theorem yO {h0' h0:aA} {r0:DR} {x:Nat} {c:b8} (hF0:¬ F 0) (O:cE h) (D:Dec L h F d r out told) (hF:∀ i,h.length≤i→F i) (hd:r.done=false) (hk:jA c=none) (hc:Clo h (Gd F d r) d 0 (.p none) c r.next) (hf:fit c x)
  (U0:Upd F h0 h) (K0:∀ i,i<h0.length→Mut d r i→Mut d r0 i) (e1:r.input=r0.input) (e2:r.bad=r0.bad) (e3:r.rest=r0.rest)
  (hq:∀ e h' r',cE h'→(Infl.settle L r0.input 3 (Infl.apply L r0.input ⟨out,r.last,r.skip⟩ x c)).set→cN F L h0 F d r0 told (Infl.settle L r0.input 3 (Infl.apply L r0.input ⟨out,r.last,r.skip⟩ x c)) e h' r'→Q (.i .i64 e) h'):Y2.p1 (aK h0' Q) (dp d) x h:=by
 refine Y2.i1 ?_
 simp only [Y2.t1, ← Y2.p0.eq_1]
 refine Y2.i0 ?_
 simp only [Y2.t0,bI,bH, ← Y2.p2.eq_1]
 refine aE D.recd rfl rfl ?_
 refine tH O D hF hd hk hc hf fun e h1 r1 P=>aD ?_
 rw [e1] at P
 exact xF hF0 (O.upd P.upd hF0) (fun i hi=>hF i (Nat.le_trans P.upd.1 hi)) (P.from U0 (fun _ _ h=>h) K0 e1 e2 e3) hq
theorem yC {h0' h0:aA} {r0:DR} {x ic:Nat} {sym:AV} {l:List Nat} {c:b8} (hF0:¬ F 0) (O:cE h) (D:Dec L h F d r out told) (hF:∀ i,h.length≤i→F i) (hd:r.done=false) (hk:jA c=some l) (A:bZ h (Gd F d r) ic l sym 0 0) (hc:Clo h (fun i=>Gd F d r i∧i≠ic) d ic sym c r.next) (hf:fit c x)
  (U0:Upd F h0 h) (K0:∀ i,i<h0.length→Mut d r i→Mut d r0 i) (e1:r.input=r0.input) (e2:r.bad=r0.bad) (e3:r.rest=r0.rest)
  (hq:∀ e h' r',cE h'→(Infl.settle L r0.input 3 (Infl.apply L r0.input ⟨out,r.last,r.skip⟩ x c)).set→cN F L h0 F d r0 told (Infl.settle L r0.input 3 (Infl.apply L r0.input ⟨out,r.last,r.skip⟩ x c)) e h' r'→Q (.i .i64 e) h'):Y2.p1 (aK h0' Q) (dp d) x h:=by
 refine Y2.i1 ?_
 simp only [Y2.t1, ← Y2.p0.eq_1]
 refine Y2.i0 ?_
 simp only [Y2.t0,bI,bH, ← Y2.p2.eq_1]
 refine aE D.recd rfl rfl ?_
 refine aBZ D hF hd hk A hc hf fun e h1 r1 P=>aD ?_
 rw [e1] at P
 exact xF hF0 (O.upd P.upd hF0) (fun i hi=>hF i (Nat.le_trans P.upd.1 hi)) (P.from U0 (fun _ _ h=>h) K0 e1 e2 e3) hq
theorem aE5 {a b k:Nat} (h:a<2 ^ k):a ||| b * 2 ^ k=a+b * 2 ^ k:=by
 rw [Nat.or_comm,Nat.mul_comm]
 have:=Nat.two_pow_add_eq_or_of_lt h b
 omega
theorem aFC {w : cZ} {c : b8} {b : Nat} (hb : b < 2) (hF0 : ¬ F 0) (O : cE h) (D : Dec L h F d r out told) (hF : ∀ i, h.length ≤ i → F i) (hd : r.done = false) (hw : m6 h F d r w c) (hf : uS w c) (hset : (Out.wait ⟨out, r.last, r.skip⟩ w c).set)
  (hq:∀ e h' r',cE h'→(Infl.bitP L r.input ⟨out,r.last,r.skip⟩ w c b).set→cN F L h F d r told (Infl.bitP L r.input ⟨out,r.last,r.skip⟩ w c b) e h' r'→Q (.i .i64 e) h'):C Y2.id [dp d,iN b] h Q:=by
 refine Y2.call ?_
 simp only [Y2.t,bI,bH, ← Y2.p1.eq_1]
 refine aE D.recd rfl rfl ?_
 cases w with
 | num need hv acc =>
  obtain ⟨hco,hcode,hneed,hhv,hacc,hclo⟩:=hw
  obtain ⟨f1,f2,f3,f4⟩:=hf
  have hset:0<need:=hset
  have hlt:hv<need:=f3.elim (fun h=>h) fun h=>by omega
  rw [hcode]
  refine aAO (by kernel_rfl) (bE (aV rfl ?_))
  refine aE D.recd rfl rfl (aD (aE D.recd rfl rfl (aD ?_)))
  rw [hacc,hhv]
  have p1:2 ^ hv≤2 ^ 16:=Nat.pow_le_pow_right (by decide) (by omega)
  have p2:b * 2 ^ hv≤1 * 2 ^ 16:=Nat.mul_le_mul (by omega) p1
  have p3:acc+b * 2 ^ hv<2 ^ (hv+1):=by
   have:b * 2 ^ hv≤1 * 2 ^ hv:=Nat.mul_le_mul_right _ (by omega)
   rw [Nat.pow_succ]; omega
  have p4:2 ^ (hv+1)≤2 ^ need:=Nat.pow_le_pow_right (by decide) (by omega)
  refine mN (by omega) (by omega) ?_
  have hor:bP .or .i64 ((acc:Nat):Int) ((b * 2 ^ hv:Nat):Int)=((acc+b * 2 ^ hv:Nat):Int):=by
   rw [xA (by omega) (by omega),aE5 f2]
  refine aM hor ?_
  generalize hA:acc+b * 2 ^ hv=A at *
  refine aR D.recd rfl (ltr rfl) (hk:=fun h1 l1 U1 R1=>?_)
  refine aE R1 rfl rfl (aD ?_)
  rw [hhv]
  refine inc (by omega) ?_
  refine aR R1 rfl (ltr rfl) (hk:=fun h2 l2 U2 R2=>?_)
  have U:=U1.trans U2 fun _ _ h=>h
  have D2:Dec L h2 F d { r with acc:=A,have':=hv+1 } out told:=D.with U R2 rfl rfl rfl rfl
  have O2:cE h2:=O.upd U fun e=>hF0 (e ▸ D.f d (.inl rfl))
  have clo2:=hclo.upd (G':=Gd F d { r with acc:=A,have':=hv+1 }) U (fun i hi e=>hi.2 (.inl e)) fun _ _ h=>h
  refine aE R2 rfl rfl (aD (aE R2 rfl rfl (aD ?_)))
  rw [hneed]
  rw [Infl.bit_num] at hq
  refine aP ?_ ?_ <;> intro e
  ·have e : hv + 1 < need := by simp at e; omega
   rw [if_pos e,hA] at hq
   refine .inl (hq 0 h2 { r with acc:=A,have':=hv+1 } O2 hset ⟨U.mono fun i _ e=>D.f i (.inl e),fun _ _ h=>h,D2,rfl,rfl,rfl,rfl,rfl,rfl,hd,⟨hco,hcode,hneed,rfl,rfl,clo2⟩,f1,p3,.inl e,f4⟩)
  ·have e : ¬ hv + 1 < need := by simp at e; omega
   rw [if_neg e,hA] at hq
   refine aE R2 rfl rfl (aD ?_)
   exact yO (r0:=r) hF0 O2 D2 (fun i hi=>hF i (by omega)) hd hco clo2 (f4 A (by omega)) (U.mono fun i _ e=>D.f i (.inl e)) (fun _ _ h=>h) rfl rfl rfl hq
 | sym l n x =>
  obtain ⟨hco,ic,sym,hcode,A,hclo⟩:=hw
  obtain ⟨f1,f2,f3⟩:=hf
  rw [hcode]
  refine qJ (by kernel_rfl) (bE (bA rfl ?_))
  refine aE D.recd rfl rfl ?_
  rw [hcode]
  rw [Infl.bit_sym] at hq
  refine aEM A f1 f2 hb fun h1 U1=>?_
  have hne:∀ i,Mut d r i→¬ i=ic:=fun i hm e=>A.g.2 (e ▸ hm)
  have D1:Dec L h1 F d r out told:=D.upd U1 hne
  have O1:cE h1:=O.upd U1 fun e=>hF0 (e ▸ A.g.1)
  have UF:Upd F h h1:=U1.mono fun i _ e=>e ▸ A.g.1
  have clo1:=hclo.upd (G':=fun i=>Gd F d r i∧i≠ic) U1 (fun i hi e=>hi.2 e) fun _ _ h=>h
  have A1:∀ {n' x'},bC h1 ic (cS l sym n' x')→bZ h1 (Gd F d r) ic l sym n' x':=fun R=>{ A with recd:=R,syms:=A.syms.upd U1 fun i hi e=>(A.gs i hi).2.1 e,gs:=fun i hi=>⟨(A.gs i hi).1,(A.gs i hi).2.1,Nat.lt_of_lt_of_le (A.gs i hi).2.2 U1.1⟩ }
  have hF1:∀ i,h1.length≤i→F i:=fun i hi=>hF i (Nat.le_trans U1.1 hi)
  cases hs:Huff.stepP l (n+1) (2 * x+b) with
  | sym i =>
   simp only [hs] at hq ⊢
   intro R1 hi
   simp only [d6,d7,aD4]
   refine aD (bE (aD (aV rfl (aV rfl ?_))))
   exact yC hF0 O1 D1 hF1 hd hco (A1 R1) clo1 (f3 i hi) UF (fun _ _ h=>h) rfl rfl rfl hq
  | more =>
   simp only [hs] at hq ⊢
   intro R1
   simp only [d6,d7,aD4]
   refine aD (bE (aD (aV rfl (bA rfl (.inl ?_)))))
   have hn1:n+1≤15:=by
    unfold Huff.stepP at hs
    split at hs
    ·cases hs
    ·split at hs
     ·have : Huff.longest l ≤ 15 := by
       rw [← iP A.le]
       have:∀ n,lg l n≤n:=by
        intro n
        induction n with
        | zero=>exact Nat.le_refl _
        | succ n ih=>unfold lg; split <;> omega
       exact this 15
      omega
     ·cases hs
   exact hq 0 h1 r O1 trivial ⟨UF,fun _ _ h=>h,D1,rfl,rfl,rfl,rfl,rfl,rfl,hd,⟨hco,ic,sym,hcode,A1 R1,clo1⟩,hn1,by rw [Nat.pow_succ]; omega,f3⟩
  | bad =>
   simp only [hs] at hq ⊢
   intro R1
   simp only [d6,d7,aD4]
   refine aD (bE (aD (bA rfl (.inl ?_))))
   exact hq 2 h1 r O1 trivial ⟨UF,fun _ _ h=>h,D1,rfl,rfl,rfl,rfl,.inl rfl,hd⟩
end
end Go.Proofs.YtpaphfeihpgamaaDoor
namespace Go.Proofs.YtpaphfeihpgamaaDoor
open Go.GAM
open Go.Infl (bS cZ b8 Out Lim)
section
variable [XR] {h:aA} {Q:AV→aA→Prop} {L:Lim} {s:List UInt8} {d:Nat} {r:RS} {out:List UInt8} {F:Infl.Fin}
def lits (a b:List Nat) (kl:Bool) (out:List UInt8):Out:=Infl.litW ⟨out,kl,false⟩ a b
end
end Go.Proofs.YtpaphfeihpgamaaDoor
namespace Go.Proofs.YtpaphfeihpgamaaDoor
open Go.GAM
open Go.Infl (bS cZ b8 Out Lim)
section
variable [XR] {h:aA} {Q:AV→aA→Prop} {L:Lim} {s:List UInt8} {d:Nat} {r:RS} {out:List UInt8} {F:Infl.Fin}
end
end Go.Proofs.YtpaphfeihpgamaaDoor
namespace Go.Proofs.YtpaphfeihpgamaaDoor
open Go.GAM
open Go.Infl (bS cZ b8 Out Lim)
section
variable [XR] {h:aA} {Q:AV→aA→Prop} {L:Lim} {s:List UInt8} {d:Nat} {r:RS} {out:List UInt8} {F:Infl.Fin}
end
end Go.Proofs.YtpaphfeihpgamaaDoor
namespace Go.Proofs.YtpaphfeihpgamaaDoor
open Go.GAM
open Go.Infl (bS cZ b8 Out Lim)
structure DSt (L:Lim) (h:aA) (F:Nat→Prop) (d:Nat) (r:DR) (told:Nat) (o:Out) (inp:Nat) (rest:List UInt8):Prop where
 dec:Dec L h F d r o.core.out told
 ord:cE h
 rest:r.rest=rest
 st:match o with
  | .wait k w c=>r.input=inp∧r.last=k.last∧r.skip=k.skip∧r.done=false∧r.bad=false∧m6 h F d r w c∧uS w c∧(Out.wait k w c).set
  | .done _=>r.done=true∧r.bad=false
  | .err e _=>r.done=false∧r.bad=true∧(e=1∨e=2)
def dY:Out→Int
 | .err e _=>eno e
 | _=>0
section
variable [XR] {h:aA} {Q:AV→aA→Prop} {L:Lim} {F:Nat→Prop} {d:Nat} {r:DR} {out:List UInt8} {told:Nat}
theorem Dec.text {l:List UInt8} (D:Dec L h F d r out told) {K:List UInt8→Prop} (hk:K (out.drop told)):dA r.fresh h K:=by
 refine Byt.str (l:=out.drop told) ?_ hk
 have:=D.fresh.rd
 rw [List.length_map] at this
 exact this
theorem qM {w:cZ} {c:b8} {k:bS} (hs:k.skip=true):∀ (bs:List Nat) (i:Nat),i % 8≠0→i % 8+bs.length=8→Infl.run L bs i (.wait k w c)=(i+bs.length,.wait k w c)
 | [],i,h1,h2=>by rw [Infl.run_nil] <;> rfl
 | b :: bs, i, h1, h2 => by
  rw [Infl.run_bit,if_pos ⟨hs,h1⟩]
  rw [List.length_cons] at h2 ⊢
  by_cases hb:bs=[]
  ·subst hb; rw [Infl.run_nil] <;> rfl
  ·have := List.length_pos_iff.2 hb
   rw [qM hs bs (i+1) (by omega) (by omega)]
   congr 1; omega
theorem rR:∀ (n x:Nat),(Huff.loBits x n).length=n
 | 0,_=>rfl
 | n+1,x=>by unfold Huff.loBits; rw [List.length_cons,rR n]
theorem z8 (c:UInt8) {k:Nat} (hk:k<8):bP .and .i64 ((c.toNat / 2 ^ k:Nat):Int) 1=((c.toNat / 2 ^ k % 2:Nat):Int):=by
 have hc:=c.toNat_lt
 have:c.toNat / 2 ^ k≤c.toNat:=Nat.div_le_self _ _
 have:=jC (x:=c.toNat / 2 ^ k) (y:=1) (by omega) (by decide)
 rw [Nat.and_one_is_mod] at this
 exact this
def Nxt (Q:AV→aA→Prop) (d:Nat) (s:List UInt8) (i:Nat) (told:Nat) (h':aA):Out→Prop
 | .wait ..=>Y0.p1 Q (dp d) s s.length ((i+1:Nat):Int) h'
 | .done _=>Y0.p4 Q (dp d) h'
 | .err e k=>Q (.tu [.s (k.out.drop told),.i .i64 (eno e)]) h'
theorem yT {hb : aA} {s : List UInt8} {i : Nat} {ch : UInt8} (hc : s[i]? = some ch) (hslen : s.length < 1099511627776) (hF0 : ¬ F 0) {inp : Nat} (hinp : 0 < inp) :
    ∀ (m k:Nat) (h:aA) (r:DR) (kc:bS) (w:cZ) (c:b8),k+m=8→(k=0→kc.skip=false)→DSt L h F d r told (.wait kc w c) inp []→(∀ i,h.length≤i→F i) →
    (∀ h' r',Upd F h h'→DSt L h' F d r' told (Infl.run L (Huff.loBits (ch.toNat / 2 ^ k) m) (8 * (inp - 1)+k) (.wait kc w c)).2 inp (match (Infl.run L (Huff.loBits (ch.toNat / 2 ^ k) m) (8 * (inp - 1)+k) (.wait kc w c)).2 with | .done _=>s.drop (i+1) | _=>[]) →
      Nxt (aK hb Q) d s i told h' (Infl.run L (Huff.loBits (ch.toNat / 2 ^ k) m) (8 * (inp - 1)+k) (.wait kc w c)).2) →
    Y0.p2 (aK hb Q) (dp d) s i k s.length i h:=by
  intro m
  induction m with
  | zero =>
    intro k h r kc w c hkm hk0 S hF hq
    obtain rfl:k=8:=by omega
    have hsi:=aI hc
    obtain ⟨s1,s2,s3,s4,s5,s6,s7,s8⟩:=S.st
    have P3:Y0.p3 (aK hb Q) (dp d) s i (8:Nat) s.length i false h:=by
      refine Y0.i3 ?_
      simp only [Y0.t3,bI,bH, ← Y0.p1.eq_1]
      refine aV rfl ?_
      refine aE S.dec.recd rfl rfl (bE ?_)
      rw [s4]
      refine aV rfl (inc (by omega) ?_)
      exact hq h r (Upd.refl _ _) S
    refine Y0.i2 ?_
    simp only [Y0.t2, ← Y0.p3.eq_1]
    exact aV (by decide) P3
  | succ m ih =>
    intro k h r kc w c hkm hk0 S hF hq
    have hsi:=aI hc
    obtain ⟨s1,s2,s3,s4,s5,s6,s7,s8⟩:=S.st
    have hch:=ch.toNat_lt
    refine Y0.i2 ?_
    simp only [Y0.t2,bI,bH, ← Y0.p3.eq_1]
    refine bA (by simp; omega) ?_
    refine aE S.dec.recd rfl rfl (bE ?_)
    cases hsk:kc.skip with
    | true =>
      rw [s3,hsk]
      refine aV rfl ?_
      have hk:k≠0:=fun e=>by rw [hk0 e] at hsk; cases hsk
      rw [qM hsk _ _ (by omega) (by rw [rR]; omega)] at hq
      refine Y0.i3 ?_
      simp only [Y0.t3,bI,bH, ← Y0.p1.eq_1]
      refine aV rfl ?_
      refine aE S.dec.recd rfl rfl (bE ?_)
      rw [s4]
      refine aV rfl (inc (by omega) ?_)
      exact hq h r (Upd.refl _ _) S
    | false =>
      rw [s3,hsk]
      refine bA rfl ?_
      refine aE S.dec.recd rfl rfl (bE ?_)
      rw [s4]
      refine Y0.i3 ?_
      simp only [Y0.t3,bI,bH, ← Y0.p2.eq_1]
      refine bA rfl ?_
      refine rU hc ?_
      rw [aW (by omega) (by omega)]
      refine sA (a:=ch.toNat) (b:=k) (by show k≤64; omega) ?_
      rw [z8 ch (by omega)]
      have hb2:ch.toNat / 2 ^ k % 2<2:=Nat.mod_lt _ (by decide)
      have hcore:(⟨kc.out,r.last,r.skip⟩:bS)={ kc with skip:=false }:=by rw [s2,s3,hsk]
      have hpos:(8 * (inp - 1)+k) / 8+1=inp:=by omega
      have hlo:Huff.loBits (ch.toNat / 2 ^ k) (m+1)=ch.toNat / 2 ^ k % 2 :: Huff.loBits (ch.toNat / 2 ^ (k+1)) m:=by
        rw [Nat.pow_succ, ← Nat.div_div_eq_div_mul] <;> rfl
      rw [hlo,Infl.run_bit,if_neg (by rw [hsk]; simp),hpos] at hq
      refine aFC hb2 hF0 S.ord S.dec hF s4 s6 s7 (by cases w <;> exact s8) fun e h1 r1 O1 hset P=>aD ?_
      rw [s1] at P hset
      have hcore':(⟨(Out.wait kc w c).core.out,r.last,r.skip⟩:bS)={ kc with skip:=false }:=hcore
      rw [hcore'] at P hset
      generalize Infl.bitP L inp { kc with skip:=false } w c (ch.toNat / 2 ^ k % 2)=o at P hq hset
      have hF1:∀ i,h1.length≤i→F i:=fun i hi=>hF i (Nat.le_trans P.upd.1 hi)
      have hrest:=P.rest.trans S.rest
      have hbad:=P.bad.trans s5
      have hst:=P.st
      cases o with
      | err x kx =>
        obtain ⟨hx,hx2,hdn⟩:=hst
        rw [Infl.run_err] at hq
        refine bA (by rw [hx]; rcases hx2 with rfl | rfl <;> decide) ?_
        refine aR P.dec.recd rfl (ltr rfl) (hk:=fun h2 l2 U2 R2=>?_)
        have D2:Dec L h2 F d { r1 with bad:=true } kx.out told:=P.dec.with U2 R2 rfl rfl rfl rfl
        refine aE R2 rfl rfl ?_
        refine D2.text (l:=kx.out) ?_
        have O2:cE h2:=O1.upd U2 fun e=>hF0 (e ▸ D2.f d (.inl rfl))
        have:=hq h2 { r1 with bad:=true } (P.upd.trans (U2.mono fun i _ e=>D2.f i (.inl e)) fun _ _ h=>h) ⟨D2,O2,hrest,hdn,rfl,hx2⟩
        rw [hx]
        exact this
      | done kx =>
        obtain ⟨hx,hdn⟩:=hst
        rw [Infl.run_done] at hq
        subst hx
        refine aV rfl (inc (by omega) ?_)
        refine Y0.i2 ?_
        simp only [Y0.t2,bI,bH, ← Y0.p3.eq_1]
        have P3:Y0.p3 (aK hb Q) (dp d) s i ((k+1:Nat):Int) s.length i false h1:=by
          refine Y0.i3 ?_
          simp only [Y0.t3,bI,bH, ← Y0.p4.eq_1]
          refine aV rfl ?_
          refine aE P.dec.recd rfl rfl (bE ?_)
          rw [hdn]
          refine bA rfl (inc (by omega) (rM (by omega) ?_))
          refine aR P.dec.recd rfl (ltr rfl) (hk:=fun h2 l2 U2 R2=>?_)
          have D2:Dec L h2 F d { r1 with rest:=s.drop (i+1) } kx.out told:=P.dec.with U2 R2 rfl rfl rfl rfl
          have O2:cE h2:=O1.upd U2 fun e=>hF0 (e ▸ D2.f d (.inl rfl))
          exact hq h2 { r1 with rest:=s.drop (i+1) } (P.upd.trans (U2.mono fun i _ e=>D2.f i (.inl e)) fun _ _ h=>h) ⟨D2,O2,rfl,hdn,hbad⟩
        refine aP ?_ ?_ <;> intro e8
        · refine aE P.dec.recd rfl rfl (bE ?_)
          cases r1.skip with
          | true=>exact aV rfl P3
          | false =>
            refine bA rfl (aE P.dec.recd rfl rfl (bE ?_))
            rw [hdn]
            exact P3
        · exact P3
      | wait kx wx cx =>
        obtain ⟨hx,w1,w2,w3,w4,w5⟩:=hst
        subst hx
        refine aV rfl (inc (by omega) ?_)
        refine ih (k+1) h1 r1 kx wx cx (by omega) (fun e=>by omega) ⟨P.dec,O1,hrest,P.inp.trans s1,w1,w2,w3,hbad,w4,w5,by cases wx <;> exact hset⟩ hF1 fun h2 r2 U2 S2=>?_
        exact hq h2 r2 (P.upd.trans U2 fun _ _ h=>h) S2
theorem pI {o:Out} (c:UInt8) (t:List UInt8) (i:Nat):Infl.run L (Infl.bitsOf (c :: t)) i o=Infl.run L (Infl.bitsOf t) (Infl.run L (Huff.loBits c.toNat 8) i o).1 (Infl.run L (Huff.loBits c.toNat 8) i o).2:=by
 show Infl.run L (Huff.loBits c.toNat 8++Infl.bitsOf t) i o=_
 exact Infl.run_append _ _ _ _
omit [XR] in
theorem oX:∀ (bs:List Nat) (i:Nat) (o:Out),i≤(Infl.run L bs i o).1∧(Infl.run L bs i o).1≤i+bs.length
 | bs,i,.done k=>by rw [Infl.run_done]; exact ⟨Nat.le_refl _,Nat.le_add_right _ _⟩
 | bs,i,.err e k=>by rw [Infl.run_err]; exact ⟨Nat.le_refl _,Nat.le_add_right _ _⟩
 | [],i,.wait k w c=>by rw [Infl.run_nil]; exact ⟨Nat.le_refl _,Nat.le_refl _⟩
 | b :: bs, i, .wait k w c => by
  rw [Infl.run_bit,List.length_cons]
  split
  ·have:=oX bs (i+1) (.wait k w c); omega
  ·have:=oX bs (i+1) (Infl.bitP L (i / 8+1) { k with skip:=false } w c b); omega
theorem xN {b:Nat} {bs:List Nat} {i:Nat} {k:bS} {w:cZ} {c:b8}:i+1≤(Infl.run L (b :: bs) i (.wait k w c)).1:=by
 rw [Infl.run_bit]
 split
 ·exact (oX bs (i+1) _).1
 ·exact (oX bs (i+1) _).1
def mA (s:List UInt8) (inp:Nat) (x:Nat × Out):List UInt8:=match x.2 with
 | .done _=>s.drop ((x.1+7) / 8 - inp)
 | _=>[]
theorem xV {hb : aA} {s : List UInt8} (hslen : s.length < 1099511627776) (hF0 : ¬ F 0) {inp0 : Nat} (hin : inp0 + s.length ≤ 1099511627776) :
  ∀ (t:List UInt8) (i:Nat) (h:aA) (r:DR) (kc:bS) (w:cZ) (c:b8),s.drop i=t→i≤s.length→DSt L h F d r told (.wait kc w c) (inp0+i) []→(∀ i,h.length≤i→F i) →
  (∀ h' r',Upd F h h'→DSt L h' F d r' told (Infl.run L (Infl.bitsOf t) (8 * (inp0+i)) (.wait kc w c)).2 (inp0+s.length) (mA s inp0 (Infl.run L (Infl.bitsOf t) (8 * (inp0+i)) (.wait kc w c))) →
   Q (.tu [.s ((Infl.run L (Infl.bitsOf t) (8 * (inp0+i)) (.wait kc w c)).2.core.out.drop told),.i .i64 (dY (Infl.run L (Infl.bitsOf t) (8 * (inp0+i)) (.wait kc w c)).2)]) h') →
  Y0.p1 (aK hb Q) (dp d) s s.length i h:=by
 have tail:∀ (h:aA) (r:DR) (o:Out) (inp:Nat) (rest:List UInt8),DSt L h F d r told o inp rest→dY o=0→Q (.tu [.s (o.core.out.drop told),.i .i64 0]) h→Y0.p4 (aK hb Q) (dp d) h:=fun h r o inp rest S ho hq=>by
  refine Y0.i4 ?_
  simp only [Y0.t4,bI,bH]
  refine aE S.dec.recd rfl rfl (S.dec.text (l:=o.core.out) (.inl hq))
 intro t
 induction t with
 | nil =>
  intro i h r kc w c ht hi S hF hq
  have:i=s.length:=by have:=aBT ht; omega
  subst this
  rw [show Infl.bitsOf []=[] from rfl,Infl.run_nil] at hq
  refine Y0.i1 ?_
  simp only [Y0.t1, ← Y0.p4.eq_1]
  refine aV (by simp) (tail h r _ _ _ S rfl (hq h r (Upd.refl _ _) S))
 | cons ch t ih =>
  intro i h r kc w c ht hi S hF hq
  have hsi:=aC0 ht
  have hat:=vW ht
  have htn:=yZ ht
  obtain ⟨s1,s2,s3,s4,s5,s6,s7,s8⟩:=S.st
  refine Y0.i1 ?_
  simp only [Y0.t1,bI,bH, ← Y0.p2.eq_1]
  refine bA (by simp; omega) ?_
  refine aE S.dec.recd rfl rfl (aD ?_)
  rw [s1]
  refine inc (by omega) ?_
  refine aR S.dec.recd rfl (ltr rfl) (hk:=fun h1 l1 U1 R1=>?_)
  refine aR R1 rfl (ltr rfl) (hk:=fun h2 l2 U2 R2=>?_)
  have U:=U1.trans U2 fun _ _ h=>h
  have UF:Upd F h h2:=U.mono fun i _ e=>S.dec.f i (.inl e)
  have D2:Dec L h2 F d { r with input:=inp0+i+1,skip:=false } kc.out told:=by
   have D:=S.dec
   exact { recd:=R2,past:=D.past.upd U fun i hi e=>D.d1 (e ▸ hi),fresh:=D.fresh.upd U fun i hi e=>D.d2 (e ▸ hi),total:=D.total,told:=D.told,d1:=D.d1,d2:=D.d2,d3:=D.d3,lim:=D.lim,inp:=by show inp0+i+1≤_; omega,len:=D.len,f:=D.f }
  have O2:cE h2:=S.ord.upd U fun e=>hF0 (e ▸ D2.f d (.inl rfl))
  have W2:m6 h2 F d { r with input:=inp0+i+1,skip:=false } w c:=by
   cases w with
   | num need hv acc =>
    obtain ⟨w1,w2,w3,w4,w5,w6⟩:=s6
    exact ⟨w1,w2,w3,w4,w5,w6.upd U (fun i hi e=>hi.2 (.inl e)) fun _ _ h=>h⟩
   | sym l n x =>
    obtain ⟨w1,ic,sym,w2,w3,w4⟩:=s6
    exact ⟨w1,ic,sym,w2,w3.upd U (fun i hi e=>hi.2 (.inl e)) fun _ _ h=>h,w4.upd U (fun i hi e=>hi.1.2 (.inl e)) fun _ _ h=>h⟩
  have S2:DSt L h2 F d { r with input:=inp0+i+1,skip:=false } told (.wait { kc with skip:=false } w c) (inp0+i+1) []:=⟨D2,O2,S.rest,rfl,s2,rfl,s4,s5,W2,s7,by cases w <;> exact s8⟩
  have hbits:Huff.loBits ch.toNat 8=ch.toNat % 2 :: Huff.loBits (ch.toNat / 2) 7:=rfl
  have hal:Infl.run L (Huff.loBits ch.toNat 8) (8 * (inp0+i)) (.wait kc w c)=Infl.run L (Huff.loBits ch.toNat 8) (8 * (inp0+i)) (.wait { kc with skip:=false } w c):=by
   rw [hbits]; exact Infl.run_aligned (by omega)
  have hrl:=oX (L:=L) (Huff.loBits ch.toNat 8) (8 * (inp0+i)) (.wait { kc with skip:=false } w c)
  have hrf:8 * (inp0+i)+1≤(Infl.run L (Huff.loBits ch.toNat 8) (8 * (inp0+i)) (.wait { kc with skip:=false } w c)).1:=by rw [hbits]; exact xN
  rw [rR] at hrl
  rw [pI,hal] at hq
  refine yT (inp:=inp0+i+1) hat hslen hF0 (by omega) 8 0 h2 _ { kc with skip:=false } w c rfl (fun _=>rfl) S2 (fun i hi=>hF i (by omega)) fun h3 r3 U3 S3=>?_
  rw [Nat.pow_zero,Nat.div_one,show 8 * (inp0+i+1 - 1)+0=8 * (inp0+i) by omega] at S3 ⊢
  have hpos:=fun {k':bS} {w':cZ} {c':b8} hh=>Infl.run_pos (L:=L) (Huff.loBits ch.toNat 8) (8 * (inp0+i)) (.wait { kc with skip:=false } w c) (k:=k') (w:=w') (c:=c') hh
  rw [rR] at hpos
  generalize hX:Infl.run L (Huff.loBits ch.toNat 8) (8 * (inp0+i)) (.wait { kc with skip:=false } w c)=X at S3 hq hrl hrf hpos ⊢
  obtain ⟨p,o⟩:=X
  simp only at S3 hq hrl hrf hpos ⊢
  have UF3:Upd F h h3:=UF.trans U3 fun _ _ h=>h
  cases o with
  | wait k' w' c' =>
   have hp:p=8 * (inp0+(i+1)):=by rw [hpos rfl]; omega
   subst hp
   refine ih (i+1) h3 r3 k' w' c' htn (by omega) S3 (fun i hi=>hF i (Nat.le_trans UF3.1 hi)) fun h4 r4 U4 S4=>?_
   exact hq h4 r4 (UF3.trans U4 fun _ _ h=>h) S4
  | done k' =>
   rw [Infl.run_done] at hq
   have hr:mA s inp0 (p,.done k')=s.drop (i+1):=by
    unfold mA
    simp only
    congr 1; omega
   rw [hr] at hq
   exact tail h3 r3 _ _ _ S3 rfl (hq h3 r3 UF3 ⟨S3.dec,S3.ord,S3.rest,S3.st⟩)
  | err e' k' =>
   rw [Infl.run_err] at hq
   exact .inl (hq h3 r3 UF3 ⟨S3.dec,S3.ord,S3.rest,S3.st⟩)
theorem aBN {s:List UInt8} {kc:bS} {w:cZ} {c:b8} {inp:Nat} (hF0:¬ F 0) (hs:inp+s.length<1099511627776) (S:DSt L h F d r told (.wait kc w c) inp []) (hF:∀ i,h.length≤i→F i)
  (hq:∀ h' r',Upd F h h'→DSt L h' F d r' kc.out.length (Infl.run L (Infl.bitsOf s) (8 * inp) (.wait kc w c)).2 (inp+s.length) (mA s inp (Infl.run L (Infl.bitsOf s) (8 * inp) (.wait kc w c))) →
   Q (.tu [.s ((Infl.run L (Infl.bitsOf s) (8 * inp) (.wait kc w c)).2.core.out.drop kc.out.length),.i .i64 (dY (Infl.run L (Infl.bitsOf s) (8 * inp) (.wait kc w c)).2)]) h') :
  C Y0.id [dp d,.s s] h Q:=by
 obtain ⟨s1,s2,s3,s4,s5,s6,s7,s8⟩:=S.st
 refine Y0.call ?_
 simp only [Y0.t, ← Y0.p0.eq_1]
 refine eM (by kernel_rfl) (bE (aV rfl ?_))
 simp only [bI,bH]
 refine aE S.dec.recd rfl rfl (bE ?_)
 rw [s5]
 refine aV rfl (aE S.dec.recd rfl rfl (bE ?_))
 rw [s4]
 refine Y0.i0 ?_
 simp only [Y0.t0,bI,bH, ← Y0.p1.eq_1]
 refine aV rfl ?_
 refine aR S.dec.recd rfl (ltr rfl) (hk:=fun h1 l1 U1 R1=>?_)
 have UF:Upd F h h1:=U1.mono fun i _ e=>S.dec.f i (.inl e)
 have D1:Dec L h1 F d { r with fresh:=.sl none 0 none } kc.out kc.out.length:=by
  have D:=S.dec
  exact { recd:=R1,past:=D.past.upd U1 fun i hi e=>D.d1 (e ▸ hi),fresh:=.inl ⟨rfl,by simp⟩,total:=D.total,told:=Nat.le_refl _,d1:=D.d1,d2:=fun h=>h,d3:=fun _ _ h=>h,lim:=D.lim,inp:=D.inp,len:=D.len,f:=fun i hi=>hi.elim (fun e=>D.f i (.inl e)) fun hi=>hi.elim (fun e=>D.f i (.inr (.inl e))) fun e=>e.elim }
 have O1:cE h1:=S.ord.upd U1 fun e=>hF0 (e ▸ D1.f d (.inl rfl))
 have hg:∀ i,Gd F d r i→Gd F d { r with fresh:=.sl none 0 none } i:=fun i hi=>⟨hi.1,fun m=>hi.2 (m.elim .inl fun m=>m.elim (fun e=>.inr (.inl e)) fun e=>e.elim)⟩
 have W1:m6 h1 F d { r with fresh:=.sl none 0 none } w c:=by
  cases w with
  | num need hv acc =>
   obtain ⟨w1,w2,w3,w4,w5,w6⟩:=s6
   exact ⟨w1,w2,w3,w4,w5,w6.upd U1 (fun i hi e=>hi.2 (.inl e)) fun i _ h=>hg i h⟩
  | sym l n x =>
   obtain ⟨w1,ic,sym,w2,w3,w4⟩:=s6
   exact ⟨w1,ic,sym,w2,w3.upd U1 (fun i hi e=>hi.2 (.inl e)) fun i _ h=>hg i h,w4.upd U1 (fun i hi e=>hi.1.2 (.inl e)) fun i _ h=>⟨hg i h.1,h.2⟩⟩
 refine xV (inp0:=inp) (by omega) hF0 (by omega) s 0 h1 { r with fresh:=.sl none 0 none } kc w c (List.drop_zero) (Nat.zero_le _) ⟨D1,O1,S.rest,s1,s2,s3,s4,s5,W1,s7,s8⟩ (fun i hi=>hF i (by omega)) fun h2 r2 U2 S2=>?_
 exact hq h2 r2 (UF.trans U2 fun _ _ h=>h) S2
theorem uL {o:Out} {inp:Nat} {rest:List UInt8} (S:DSt L h F d r told o inp rest) (hq:Q (.b (match o with | .done _=>true | _=>false)) h):C Y19.id [dp d] h Q:=by
 refine Y19.call ?_
 simp only [Y19.t, ← Y19.p0.eq_1]
 refine qJ (by kernel_rfl) (bE (bA rfl ?_))
 simp only [bI,bH]
 refine aE S.dec.recd rfl rfl (bE ?_)
 refine Y19.i0 ?_
 simp only [Y19.t0]
 have hst:=S.st
 cases o with
 | wait k w c=>rw [hst.2.2.2.1]; exact .inl hq
 | err e k=>rw [hst.1]; exact .inl hq
 | done k=>rw [hst.1]; exact .inl hq
def bnd (n:Int) (lo hi:Nat):Nat:=(min (max n lo) hi).toNat
theorem aEB (n:Int) {lo hi:Nat} (h:lo≤hi):mmI false (mmI true n (lo:Int)) (hi:Int)=(bnd n lo hi:Int):=by
 unfold mmI bnd
 simp only [cond_true,cond_false]
 split <;> split <;> omega
def iV (o ra:Int):Lim:=⟨bnd o 0 65536,bnd ra 1 1100⟩
theorem wY {o ra : Int} (O : cE h) (hq : ∀ h' d r, Upd (fun _ => False) h h' → h.length ≤ d → DSt (iV o ra) h' (fun i => h.length ≤ i) d r 0 Infl.start 0 [] → Q (dp d) h') : C Y30.id [.ag [.i .i64 o, .i .i64 ra]] h Q := by
  have bb:∀ {n:Int} {lo hi:Nat} {h:aA} {Q:AV→aA→Prop},lo≤hi→Q (iN (bnd n lo hi)) h→C Y44.id [.i .i64 n,iN lo,iN hi] h Q:=fun {n lo hi h Q} hl hq=>by
    refine Y44.call ?_
    simp only [Y44.t]
    exact aM (aEB n hl) (.inl hq)
  refine Y30.call ?_
  simp only [Y30.t]
  refine bT (hk:=fun h1 l1 U1 R1=>?_)
  have R1:bC h1 h.length [.i .i64 o,.i .i64 ra]:=R1
  have e2:(AV.ag [.i .i64 o,.i .i64 ra]).parts.length=2:=rfl
  simp only [e2,bH]
  refine aE R1 rfl rfl (aD (aE R1 rfl rfl (aD ?_)))
  refine bb (lo:=0) (hi:=65536) (by decide) (aD ?_)
  refine aE R1 rfl rfl (aD ⟨rfl, ?_⟩)
  refine bb (lo:=1) (hi:=1100) (by decide) (aD ?_)
  refine aDW (cs:=DR.cells (iV o ra) ⟨.sl none 0 none,0,.sl none 0 none,0,false,false,false,false,[],0,0,0,.p none,.nf⟩) rfl ?_
  refine bT (hk:=fun h2 l2 U2 R2=>?_)
  have U:=U1.then U2
  have D2:Dec (iV o ra) h2 (fun i=>h.length≤i) h1.length ⟨.sl none 0 none,0,.sl none 0 none,0,false,false,false,false,[],0,0,0,.p none,.nf⟩ [] 0:=
    { recd:=R2,past:=.inl ⟨rfl,rfl⟩,fresh:=.inl ⟨rfl,rfl⟩,total:=rfl,told:=Nat.le_refl _,d1:=fun h=>h,d2:=fun h=>h,d3:=fun _ h=>h.elim,lim:=⟨by show bnd o 0 65536≤_; unfold bnd; omega,by show bnd ra 1 1100≤_; unfold bnd; omega⟩,inp:=by decide,len:=by decide,f:=fun i hi=>by
        rcases hi with e | e | e
        · subst e; exact U1.1
        · exact e.elim
        · exact e.elim }
  refine rX D2 (fun i hi=>Nat.le_trans U.1 hi) rfl fun e h3 r3 P=>aD (.inl ?_)
  have hU3:Upd (fun _=>False) h h3:=U.own P.upd U1.1
  obtain ⟨w0,w1,w2,w3,w4,w5⟩:=P.st
  exact hq h3 h1.length r3 hU3 U1.1 ⟨P.dec,O.upd hU3 fun h=>h,P.rest,P.inp,w1,w2,w3,P.bad,w4,w5,by show 0<3; decide⟩
end
end Go.Proofs.YtpaphfeihpgamaaDoor
namespace Go.Proofs.YtpaphfeihpgamaaDoor
open Go.GAM
open Go.Infl (bS cZ b8 Out Lim)
def aFH (e:Nat):Int:=if e=3 then 1 else if e=0 then 0 else eno e
section
variable [XR] {h:aA} {Q:AV→aA→Prop} {L:Lim} {s:List UInt8} {d:Nat} {r:RS} {out:List UInt8} {F:Infl.Fin}
end
end Go.Proofs.YtpaphfeihpgamaaDoor
namespace Go.Proofs.YtpaphfeihpgamaaDoor
open Go.GAM
open Go.Infl (bS cZ b8 Out Lim)
def aAJ (L:Lim) (s:List UInt8):List UInt8 × Int:=match Infl.run L (Infl.bitsOf s) 0 Infl.start with
 | (p,.done k)=>if s.drop ((p+7) / 8)=[] then (k.out,0) else ([],2)
 | (_,.err e _)=>([],eno e)
 | (_,.wait ..)=>([],1)
theorem wG {e:Nat} (h:e=1∨e=2):aFH e=eno e∧eno e≠0:=by rcases h with rfl | rfl <;> exact ⟨rfl,by decide⟩
section
variable [XR] {h:aA} {Q:AV→aA→Prop} {L:Lim} {s:List UInt8} {o ra:Int}
theorem cE.lt (O:cE h):0<h.length:=by obtain ⟨b,hb,_⟩:=O; exact aI hb
def wW:Out→Prop
 | .err e _=>e=1∨e=2
 | _=>True
theorem aDQ (O:cE h) (hs:s.length<1073741824) (hq:∀ h',Upd (fun _=>False) h h'→wW (Infl.run (iV o ra) (Infl.bitsOf s) 0 Infl.start).2→Q (.tu [.s (aAJ (iV o ra) s).1,.i .i64 (aAJ (iV o ra) s).2]) h'):C Y40.id [.s s,.ag [.i .i64 o,.i .i64 ra]] h Q:=by
 refine Y40.call ?_
 simp only [Y40.t]
 refine bT (hk:=fun h1 l1 U1 R1=>?_)
 have R1:bC h1 h.length [.i .i64 o,.i .i64 ra]:=R1
 have e2:(AV.ag [.i .i64 o,.i .i64 ra]).parts.length=2:=rfl
 rw [e2]
 refine dH R1 rfl ?_
 have O1:cE h1:=O.upd U1 fun h=>h
 refine wY O1 fun h2 d r U2 hd S2=>?_
 have hlt:=O1.lt
 refine aBN (F:=fun i=>h1.length≤i) (by omega) (by omega) S2 (fun i hi=>Nat.le_trans U2.1 hi) fun h3 r3 U3 S3=>?_
 have U:Upd (fun _=>False) h h3:=(U1.then U2).ownP U3 fun i hi=>Nat.le_trans U1.1 hi
 simp only [d6,d7]
 unfold aAJ at hq
 have e0:Infl.run (iV o ra) (Infl.bitsOf s) (8 * 0) (.wait ⟨[],false,false⟩ (.num 3 0 0) .block)=Infl.run (iV o ra) (Infl.bitsOf s) 0 Infl.start:=rfl
 rw [e0] at S3 ⊢
 generalize Infl.run (iV o ra) (Infl.bitsOf s) 0 Infl.start=X at S3 hq ⊢
 obtain ⟨p,x⟩:=X
 have D3:=S3.dec
 have hst:=S3.st
 have hrs:=S3.rest
 refine cB (aD ?_)
 cases x with
 | err e k =>
  obtain ⟨h1',h2',h3'⟩:=hst
  have hne:=(wG h3').2
  refine bA (by show (!decide (eno e=0))=true; simp [hne]) (.inl (hq h3 U h3'))
 | wait k w c =>
  obtain ⟨_,_,_,hdn,_⟩:=hst
  refine aV rfl ?_
  simp only [bI,bH]
  refine aE D3.recd rfl rfl (bE ?_)
  rw [hdn]
  exact bA rfl (.inl (hq h3 U trivial))
 | done k =>
  obtain ⟨hdn,_⟩:=hst
  refine aV rfl ?_
  simp only [bI,bH]
  refine aE D3.recd rfl rfl (bE ?_)
  rw [hdn]
  refine aV rfl (aE D3.recd rfl rfl (cB ?_))
  have hr:r3.rest=s.drop ((p+7) / 8):=by rw [hrs]; unfold mA; simp
  rw [hr]
  refine aP ?_ ?_ <;> intro e
  ·have e : ¬ s.drop ((p + 7) / 8) = [] := by simpa using e
   have:=hq h3 U trivial
   simp only [if_neg e] at this
   exact .inl this
  ·have e : s.drop ((p + 7) / 8) = [] := by simpa using e
   have:=hq h3 U trivial
   simp only [if_pos e] at this
   exact .inl this
def wE [XR]:Prop:=∀ {h:aA} {Q:AV→aA→Prop},cE h→(∀ h',Upd (fun _=>False) h h'→Q (.b true) h')→C Y22.id [] h Q
end
end Go.Proofs.YtpaphfeihpgamaaDoor
namespace Go.Proofs.YtpaphfeihpgamaaDoor
open Go.GAM
open Go.Infl (bS cZ b8 Out Lim)
theorem m6.upd {h h':aA} {F F' N:Nat→Prop} {d:Nat} {r:DR} {w:cZ} {c:b8} (W:m6 h F d r w c) (U:Upd N h h') (hN:∀ i,F i→¬ N i) (hG:∀ i,i<h.length→F i→F' i):m6 h' F' d r w c:=by
 cases w with
 | num need hv acc =>
  obtain ⟨w1,w2,w3,w4,w5,w6⟩:=W
  exact ⟨w1,w2,w3,w4,w5,w6.upd U (fun i hi=>hN i hi.1) fun i hl hi=>⟨hG i hl hi.1,hi.2⟩⟩
 | sym l n x =>
  obtain ⟨w1,ic,sym,w2,w3,w4⟩:=W
  exact ⟨w1,ic,sym,w2,w3.upd U (fun i hi=>hN i hi.1) fun i hl hi=>⟨hG i hl hi.1,hi.2⟩,w4.upd U (fun i hi=>hN i hi.1.1) fun i hl hi=>⟨⟨hG i hl hi.1.1,hi.1.2⟩,hi.2⟩⟩
theorem DSt.upd {L:Lim} {h h':aA} {F F' N:Nat→Prop} {d:Nat} {r:DR} {told inp:Nat} {o:Out} {rest:List UInt8} (S:DSt L h F d r told o inp rest) (U:Upd N h h') (hN:∀ i,F i→¬ N i) (hO:¬ N 0) (hG:∀ i,i<h.length→F i→F' i):DSt L h' F' d r told o inp rest where
 dec:={ S.dec.upd U fun i hm=>hN i (S.dec.f i hm) with f:=fun i hm=>hG i (S.dec.lt hm) (S.dec.f i hm) }
 ord:=S.ord.upd U hO
 rest:=S.rest
 st:=by
  have hst:=S.st
  cases o with
  | wait k w c=>exact ⟨hst.1,hst.2.1,hst.2.2.1,hst.2.2.2.1,hst.2.2.2.2.1,hst.2.2.2.2.2.1.upd U hN hG,hst.2.2.2.2.2.2⟩
  | done k=>exact hst
  | err e k=>exact hst
theorem tJ (a b:List UInt8):Infl.bitsOf (a++b)=Infl.bitsOf a++Infl.bitsOf b:=List.flatMap_append
def bF (L:Lim) (S:List UInt8):Nat × Out:=Infl.run L (Infl.bitsOf S) 0 Infl.start
theorem aAA (L:Lim):bF L []=(0,Infl.start):=Infl.run_nil
theorem aB3 {L:Lim} {S:List UInt8} {k:bS} {w:cZ} {c:b8} (h:(bF L S).2 = .wait k w c):bF L S=(8 * S.length,.wait k w c):=by
 have:=Infl.run_pos _ _ _ h
 rw [Infl.bits_len,Nat.zero_add] at this
 exact Prod.ext this h
theorem s9 {L:Lim} {S s:List UInt8} {k:bS} {w:cZ} {c:b8} (h:(bF L S).2 = .wait k w c):bF L (S++s)=Infl.run L (Infl.bitsOf s) (8 * S.length) (.wait k w c):=by
 have:=aB3 h
 unfold bF at this ⊢
 rw [tJ,Infl.run_append,this]
theorem xR {L:Lim} {S s:List UInt8} (h:∀ k w c,(bF L S).2 ≠ .wait k w c):bF L (S++s)=bF L S:=by
 unfold bF at *
 rw [tJ,Infl.run_append]
 generalize Infl.run L (Infl.bitsOf S) 0 Infl.start=X at *
 obtain ⟨p,x⟩:=X
 cases x with
 | wait k w c=>exact absurd rfl (h k w c)
 | done k=>exact Infl.run_done
 | err e k=>exact Infl.run_err
theorem aBQ {L:Lim} {S s:List UInt8} {k:bS} {w:cZ} {c:b8} (h:(bF L S).2 = .wait k w c):∃ t,(bF L (S++s)).2.core.out=k.out++t:=by
 rw [s9 h]; exact Infl.ext_run L _ _ (.wait k w c)
def eU:Out→Bool
 | .done _=>true
 | _=>false
def fM:Out→Bool
 | .err _ _=>true
 | _=>false
theorem uG {o:Out} (h:wW o):dY o=0↔fM o=false:=by
 cases o with
 | err e k=>exact ⟨fun h0=>absurd h0 (wG h).2,fun h0=>by cases h0⟩
 | wait k w c=>exact ⟨fun _=>rfl,fun _=>rfl⟩
 | done k=>exact ⟨fun _=>rfl,fun _=>rfl⟩
theorem tB {o:Out} (h1:fM o=false) (h2:eU o=false):∃ k w c,o = .wait k w c:=by
 cases o with
 | err e k=>cases h1
 | wait k w c=>exact ⟨k,w,c,rfl⟩
 | done k=>cases h2
theorem aDD {o:Out} (h:fM o=true∨eU o=true):∀ k w c,o ≠ .wait k w c:=by
 rintro k w c rfl
 rcases h with h | h <;> cases h
theorem DSt.errs {L:Lim} {h:aA} {F:Nat→Prop} {d:Nat} {r:DR} {told inp:Nat} {o:Out} {rest:List UInt8} (S:DSt L h F d r told o inp rest):wW o:=by
 have hst:=S.st
 cases o with
 | wait k w c=>trivial
 | done k=>trivial
 | err e k=>exact hst.2.2
theorem aDH [XR] {h:aA} {Q:AV→aA→Prop} {L:Lim} {F:Nat→Prop} {d:Nat} {r:DR} {told:Nat} {o:Out} {inp:Nat} {rest:List UInt8} (S:DSt L h F d r told o inp rest) (hq:Q (.b (eU o)) h):C Y19.id [dp d] h Q:=by
 cases o with
 | wait k w c=>exact uL S hq
 | done k=>exact uL S hq
 | err e k=>exact uL S hq
theorem aC6 [XR] {h:aA} {Q:AV→aA→Prop} {L:Lim} {F:Nat→Prop} {d:Nat} {r:DR} {told:Nat} {S s:List UInt8} {k:bS} {w:cZ} {c:b8} (hst:(bF L S).2 = .wait k w c) (D:DSt L h F d r told (.wait k w c) S.length []) (hlen:S.length+s.length<1099511627776) (hF0:¬ F 0) (hF:∀ i,h.length≤i→F i)
  (hq:∀ h' r' told' inp' rest',Upd F h h'→DSt L h' F d r' told' (bF L (S++s)).2 inp' rest'→(∀ k' w' c',(bF L (S++s)).2 = .wait k' w' c'→inp'=(S++s).length∧rest'=[])→Q (.tu [.s ((bF L (S++s)).2.core.out.drop k.out.length),.i .i64 (dY (bF L (S++s)).2)]) h'):C Y0.id [dp d,.s s] h Q:=by
 refine aBN hF0 hlen D hF fun h1 r1 U1 D1=>?_
 rw [← s9 hst] at D1 ⊢
 refine hq h1 r1 _ _ _ U1 D1 fun k' w' c' e=>⟨by rw [List.length_append], ?_⟩
 unfold mA
 rw [e]
end Go.Proofs.YtpaphfeihpgamaaDoor
namespace Go.Proofs.YtpaphfeihpgamaaDoor
open Go.GAM
theorem aE0:∀ c:Fin 256,bP .xor .u8 (IntKind.max .u8) ((c.1:Nat):Int)=((255 - c.1:Nat):Int):=by decide +kernel
theorem ofN {k:Nat} (hk:k<256):byteAV (UInt8.ofNat k) = .i .u8 (k:Int):=by
 unfold byteAV
 rw [UInt8.toNat_ofNat',Nat.mod_eq_of_lt hk]
theorem vK {n:Nat}:IntKind.wrap .u8 (n:Int)=((n % 256:Nat):Int):=by
 simp only [IntKind.wrap,IntKind.bits,IntKind.signed,Bool.false_and]
 have:(2:Int) ^ 8=256:=by decide
 rw [this]
 simp
def hdr (n:Nat):List UInt8:=[1,UInt8.ofNat (n % 256),UInt8.ofNat (n / 256),UInt8.ofNat (255 - n % 256),UInt8.ofNat (255 - n / 256)]
theorem yE {n:Nat} (h:n<65536):(hdr n).map byteAV=[.i .u8 1,.i .u8 ((n % 256:Nat):Int),.i .u8 ((n / 256:Nat):Int),.i .u8 ((255 - n % 256:Nat):Int),.i .u8 ((255 - n / 256:Nat):Int)]:=by
 unfold hdr
 rw [List.map_cons,List.map_cons,List.map_cons,List.map_cons,List.map_cons,List.map_nil,ofN (by omega),ofN (by omega),ofN (by omega),ofN (by omega)]
 first | done | rfl
theorem aE6 {n:Nat} {K:Int→Prop} (hk:K ((n / 256:Nat):Int)):lU .i64 (n:Int) 8 K:=by
 refine ⟨by decide, ?_⟩
 have e:(n:Int).fdiv (2 ^ (min (8:Int).toNat IntKind.i64.bits))=((n / 256:Nat):Int):=by
  show (n:Int).fdiv (2 ^ 8)=_
  rw [show (2:Int) ^ 8=((256:Nat):Int) by decide,Int.ofNat_fdiv]
 rw [e]; exact hk
section
variable [XR] {h:aA} {Q:AV→aA→Prop} {s:List UInt8}
theorem y0 (hG:s.length≤59∨vX) (hs:s.length≤65535) (hq:Q (.s (Infl.storedBytes s)) h):C Y18.id [.s s] h Q:=by
 refine Y18.call ?_
 simp only [Y18.t, ← Y18.p0.eq_1]
 refine cF fun h1 l1 U1 R1=>?_
 have R1:iK h1 h.length nilS:=R1
 refine Y18.i0 ?_
 simp only [Y18.t0, ← Y18.p1.eq_1]
 have e0:mmI false (s.length:Int) 65535=((s.length:Nat):Int):=by unfold mmI; simp only [cond_false]; split <;> omega
 refine aM e0 (bA (decide_eq_true rfl) ?_)
 refine Y18.i1 ?_
 simp only [Y18.t1, ← Y18.p0.eq_1]
 have n8:s.length / 256<256:=by omega
 refine aE6 ?_
 rw [vK,vK,Nat.mod_eq_of_lt n8]
 refine aM (aE0 ⟨s.length % 256,Nat.mod_lt _ (by decide)⟩) (aE6 ?_)
 rw [vK,Nat.mod_eq_of_lt n8]
 refine aM (aE0 ⟨s.length / 256,n8⟩) ?_
 refine eS (cs:=(hdr s.length).map byteAV) (by rw [yE (by omega)] <;> rfl) rfl fun x h2 l2 U2 R2 F2=>?_
 have hx:¬ aQ x h.length:=fun e=>by have:=F2 _ e; have:=U1.1; omega
 refine sZ (ns:=hdr s.length) (n0:=by show 0<5; decide) (R1.upd U2 fun h=>h) (by show 5≤64; decide) R2 hx fun h3 id U3 hid R3 B3=>?_
 have hl1:=R1.lt
 have hl2:=U2.1
 refine sV (Nat.le_refl _) ?_
 rw [List.take_length]
 refine vS (bs:=hdr s.length) (ns:=s) (hG.imp (fun h=>by show 5+s.length≤64; omega) fun h=>h) R3 B3 (by omega) (by show 0<5; decide) (by omega) fun h4 id' N ex U4 hid' R4 B4=>?_
 refine rM (Nat.le_refl _) (bA rfl ?_)
 have e1:(hdr s.length).length+s.length=(hdr s.length++s).length:=by simp
 rw [e1] at R4
 refine aET R4 B4 (cB ?_)
 have hl3:=U3.1
 refine gW rfl (Upd.ext ?_) hq
 exact (((U1.then U2).own U3 (Nat.le_refl _)).trans U4 fun i hi e=>by omega)
end
def X1:aS:=orR (aCN aCO) (aFX prog (@C xr0) (dR prog))
theorem aAE:jI prog X1:=fun w0 Fz μ f args h K hk=>
 hk.elim (oM w0 Fz μ f args h K) (zP mixedOK sizeOK (tW mixedOK sizeOK oM) (gX _) (fun w0 Fz μb Y hY=>gL mixedOK sizeOK hY) w0 Fz μ f args h K)
noncomputable instance xr1:XR:=⟨X1⟩
theorem aD9 {W:World}:b6 prog W (fun B=>B<W.heap.size) (fun _ _=>none) (@X xr1):=aAE _ _ _
theorem wU {s:List UInt8} (hs:s.length<1073741824) : @oA xr1 s:=fun h Q i v hi S hq=>xL (.inr (aCJ hs hi S hq))
theorem sJ {h:aA} {Q:AV→aA→Prop} (hq:Q (.ag [.i .i64 65536,.i .i64 1100]) h):C Y41.id [] h Q:=by
 refine Y41.call ?_
 unfold Y41.t
 refine cF fun h1 l1 U1 R1=>gY R1 rfl rfl rfl fun h2 l2 U2 R2=>dH R2 rfl ?_
 exact gW rfl (Upd.ext (U1.own U2 (Nat.le_refl _))) hq
theorem aCH : @wE xr1:=by
 intro h Q O hq
 refine Y22.call ?_
 simp only [Y22.t, ← Y22.p0.eq_1]
 refine sJ (aDQ O (by decide) fun h1 U1 _=>?_)
 have e1:aAJ (iV 65536 1100) [75,4,0]=([97],0):=by decide +kernel
 rw [e1]
 simp only [d6,d7]
 refine cB (aD (sJ (aDQ (O.upd U1 fun h=>h) (by decide) fun h2 U2 _=>?_)))
 have e2:(aAJ (iV 65536 1100) [75,4]).2=1:=by decide +kernel
 simp only [d6,d7]
 rw [e2]
 refine cB (aD (bA (by decide) (bA (by decide) (bA (by decide) ?_))))
 refine y0 (.inl (by decide)) (by decide) (cB (bA (by decide +kernel) ?_))
 refine tI (wU (by decide)) (by decide) (cB (bA (by decide +kernel) ?_))
 refine tI (wU (by decide)) (by decide) (cB ?_)
 refine Y22.i0 ?_
 simp only [Y22.t0]
 have e3:decide (Infl.fixedText [97,97,97,97,97,97]=[75,4,3,0])=true:=by decide +kernel
 rw [e3]
 exact gW rfl (Upd.ext (U1.then U2)) (hq _ (Upd.refl _ _))
end Go.Proofs.YtpaphfeihpgamaaDoor
namespace Go.Proofs.YtpaphfeihpgamaaDoor
open Go.GAM Go.RowKit Go.ChangeShapes
section
variable {H:Type} {enc:TypeId × Value→H} {w:World}
theorem aC3 {g:Nat} {cs:Array Value} {n:String} (hg:prog.globalNamed n=some g) (hv:w.var? prog n=some cs):rO (gS w fun _=>1) g (cs.toList.map (rW w fun _=>1)):=by
 obtain ⟨t,fr,h⟩:=yB hg hv
 have hlt:g<w.heap.size:=(Array.getElem?_eq_some_iff.1 h).1
 refine ⟨pX w (fun _=>1) g, ?_, ?_, ?_, ?_⟩
 ·unfold gS
  rw [List.getElem?_append_left (by simpa using hlt),List.getElem?_map,List.getElem?_range hlt] <;> rfl
 ·simp only [pX,h]
 ·simp only [pX,h]; simp
 ·simp only [pX,h]
theorem aD7 {l : List (String × DataW Unit)} (h1 : ("intrusion/inflate.order", Rows.laid_intrusion_inflate_order) ∈ l) (hL : laidMet prog l w) : cE (gS w fun _ => 1) := by
 obtain ⟨g,t,cs,fuel,p,hg,ht,hv,hd⟩:=vE h1 hL
 obtain rfl:=Option.some.inj ((show prog.globalNamed "intrusion/inflate.order" = some 0 by kernel_rfl).symm.trans hg)
 obtain rfl:=Option.some.inj ((show (prog.globals[0]?).map (·.type)=some 90 by kernel_rfl).symm.trans ht)
 have hG:=aC3 hg hv
 obtain ⟨xs,m,rfl,hx,hlen,hl,hf⟩:=DataW.trod_array Tryd.underlying90 hd
 have c1:prog.cellsOf 3=1:=by kernel_rfl
 have c19:prog.cellsOf 90=19:=by kernel_rfl
 rw [c19] at hlen
 rw [c1] at hf
 have hxs:xs.map (·.1)=Infl.order.map fun n:Nat=>(.lit (.int .i64 (n:Int)):DataW Unit):=by
  have:=(congrArg Prod.fst hx).symm
  unfold Rows.laid_intrusion_inflate_order at this
  exact DataW.agg.inj this
 have e:cs.toList.map (rW w fun _=>1)=bB Infl.order:=by
  refine List.ext_getElem? fun i=>?_
  by_cases hi:i<19
  ·have h1 := hf i hi
   have h2:(xs.map (·.1))[i]? = (Infl.order.map fun n:Nat=>(.lit (.int .i64 (n:Int)):DataW Unit))[i]?:=by rw [hxs]
   obtain ⟨c,hc⟩:∃ c,cs.toList[i]? = some c:=⟨_,List.getElem?_eq_getElem (by omega)⟩
   have h3:(cs.toList.drop (i * 1)).take 1=[c]:=by
    rw [Nat.mul_one,List.drop_eq_getElem_cons (by omega)]
    simp only [List.take_succ_cons,List.take_zero]
    rw [List.getElem?_eq_getElem (by omega)] at hc
    rw [Option.some.inj hc]
   rw [h3] at h1
   obtain ⟨o,ho⟩:∃ o,Infl.order[i]? = some o:=⟨_,List.getElem?_eq_getElem (by show i<19; exact hi)⟩
   rw [List.getElem?_map,List.getElem?_map, ← h1,ho] at h2
   cases hy:DataW.trod (fun _=>()) prog w 0 (fun _=>true) false m 3 [c] with
   | none=>rw [hy] at h2; cases h2
   | some y =>
    rw [hy] at h2
    obtain ⟨n,e1,e2,_⟩:=DataW.trod_int (show prog.underlying 3=some (.int .i64) by kernel_rfl) hy
    have e1:=List.singleton_inj.1 e1
    subst e1 e2
    have e3:n=(o:Int):=by simpa using h2
    unfold bB
    rw [List.getElem?_map,List.getElem?_map,hc,ho]
    simp [rW,nB,e3]
  ·have h0 : Infl.order.length = 19 := rfl
   rw [List.getElem?_eq_none (by simp at hlen ⊢; omega),List.getElem?_eq_none (by unfold bB; rw [List.length_map,h0]; omega)]
 rw [e] at hG
 exact hG
theorem aEI {n:Int} (h:(Lit.int .u16 n).wf=true):0≤n∧n<65536:=by
 simp [Lit.wf,IntKind.min,IntKind.max,IntKind.signed,IntKind.bits] at h
 omega
theorem yW {v a b:Value} (h:v.cells.toList=[a,b]):v = .agg #[a,b]:=by
 cases v <;> first | (simp [Value.cells] at h; done) | skip
 rename_i cs
 show Value.agg cs=_
 congr
 apply Array.ext'
 simpa [Value.cells] using h
theorem aCI {v:Value} (k:InW enc prog w 23 v.cells.toList):∃ o ra:Int,aL (muC w fun _=>1) (.ag [.i .i64 o,.i .i64 ra]) v:=by
 obtain ⟨h1,h2⟩:=k.struct Tryd.underlying23
 have c2:prog.cellsOf 23=2:=by kernel_rfl
 have c1:prog.cellsOf 3=1:=by kernel_rfl
 rw [c2] at h1
 generalize hc:v.cells.toList=cs at h1 h2
 match cs,h1 with
 | [a, b], _ =>
  have k0:InW enc prog w 3 (([a,b].drop 0).take (prog.cellsOf 3)):=h2 0 _ rfl
  have k1:InW enc prog w 3 (([a,b].drop 1).take (prog.cellsOf 3)):=h2 1 _ rfl
  rw [c1] at k0 k1
  obtain ⟨o,f0,_⟩:=k0.int (show prog.underlying 3=some (.int .i64) by kernel_rfl)
  obtain ⟨ra,f1,_⟩:=k1.int (show prog.underlying 3=some (.int .i64) by kernel_rfl)
  have e0:a = .int .i64 o:=List.singleton_inj.1 (show [a]=[.int .i64 o] from f0)
  have e1:b = .int .i64 ra:=List.singleton_inj.1 (show [b]=[.int .i64 ra] from f1)
  subst e0
  subst e1
  rw [yW hc]
  exact ⟨o,ra,.ag _ _ (.cons _ _ _ _ (.i _ _) (.cons _ _ _ _ (.i _ _) .nil))⟩
end
end Go.Proofs.YtpaphfeihpgamaaDoor
set_option maxRecDepth 100000
namespace Go.Proofs.YtpaphfeihpgamaaDoor
open Go.GAM
variable [XR]
noncomputable def Y1.body:Code:=(Tryd.f5.body).getD .skip
def Y1.ann:Ann:=(sl [0,2,4] (sq [0,2,4] (sl [0,2,4,23] (.br (sl [6] lf) lf)) (sq [0,2,7,8,9] (.ord (.neu 0 (.neu 2 (.neu 4 (.eff 1 (.eff 3 (.eff 5 (nn 6 3 .done) .stop) .stop) .stop))))) (sq [0,2,7,8,9] (.seq 1 [0,2,7,8,9,40] lf (.br (sl [6] lf) lf)) (sl [0,2,7,8,9,10,11] (sl [0,7,8,9,10,11,12] (sl [0,7,8,9,10,11,12,13,14] (.seq 3 [0,7,8,9,10,11,13,14] (.seq 2 [0,7,8,9,10,11,12,13,14,67] lf (.br (sl [0,7,8,9,10,11,12,13] (sl [0,7,8,9,10,11,13,14,15] lf)) lf)) (sl [0,7,8,9,10,11,13,14,16] (sl [0,7,8,9,10,11,13,14,16,17] (sq [7,8,9,10,11,13,14,16,17] (sl [0,7,8,9,10,11,13,14,16,17,18] (.one (.loop 4 [0,7,8,9,10,11,13,14,16,17,18] (sq [0,7,8,9,10,11,13,14,16,18] (.seq 5 [0,7,8,9,10,11,13,14,16,17,18,91] lf bl) (sq [0,7,8,9,10,11,13,14,16,17,18] (.one (sl [0,7,8,9,10,11,13,14,16,18,19,20] (sl [0,7,8,9,10,11,13,14,16,18,20] lf))) lf))))) (.seq 6 [6] lf lf))))))))))))
theorem Y1.dist:aH (places Y1.ann Y1.body)=true:=by kernel_rfl
noncomputable def Y1.J (Q:AV→aA→Prop):JT:=bL prog C Tryd.f5 Y1.ann Y1.body Q
def Y1.p0 (Q:AV→aA→Prop) (x0:List UInt8) (x2:Int) (x7 x8 x9:AV) (x40:Bool) (h:aA):Prop:=Y1.J Q 1 [(0,(AV.s x0)),(2,(AV.i .u16 x2)),(7,x7),(8,x8),(9,x9),(40,(AV.b x40))] h
def Y1.p1 (Q:AV→aA→Prop) (x0:List UInt8) (x7 x8 x9:AV) (x10:List UInt8) (x11 x12:Int) (x13:List UInt8) (x14:Int) (x67:Bool) (h:aA):Prop:=Y1.J Q 2 [(0,(AV.s x0)),(7,x7),(8,x8),(9,x9),(10,(AV.s x10)),(11,(AV.i .i64 x11)),(12,(AV.i .i64 x12)),(13,(AV.s x13)),(14,(AV.i .i64 x14)),(67,(AV.b x67))] h
def Y1.p4 (Q:AV→aA→Prop) (x0:List UInt8) (x7 x8 x9:AV) (x10:List UInt8) (x11:Int) (x13:List UInt8) (x14:Int) (x16:List UInt8) (x17 x18:Int) (x91:Bool) (h:aA):Prop:=Y1.J Q 5 [(0,(AV.s x0)),(7,x7),(8,x8),(9,x9),(10,(AV.s x10)),(11,(AV.i .i64 x11)),(13,(AV.s x13)),(14,(AV.i .i64 x14)),(16,(AV.s x16)),(17,(AV.i .i64 x17)),(18,(AV.i .i64 x18)),(91,(AV.b x91))] h
def Y1.p3 (Q:AV→aA→Prop) (x0:List UInt8) (x7 x8 x9:AV) (x10:List UInt8) (x11:Int) (x13:List UInt8) (x14:Int) (x16:List UInt8) (x17 x18:Int) (h:aA):Prop:=Y1.J Q 4 [(0,(AV.s x0)),(7,x7),(8,x8),(9,x9),(10,(AV.s x10)),(11,(AV.i .i64 x11)),(13,(AV.s x13)),(14,(AV.i .i64 x14)),(16,(AV.s x16)),(17,(AV.i .i64 x17)),(18,(AV.i .i64 x18))] h
def Y1.p5 (Q:AV→aA→Prop) (x6:Bool) (h:aA):Prop:=Y1.J Q 6 [(6,(AV.b x6))] h
def Y1.p2 (Q:AV→aA→Prop) (x0:List UInt8) (x7 x8 x9:AV) (x10:List UInt8) (x11:Int) (x13:List UInt8) (x14:Int) (h:aA):Prop:=Y1.J Q 3 [(0,(AV.s x0)),(7,x7),(8,x8),(9,x9),(10,(AV.s x10)),(11,(AV.i .i64 x11)),(13,(AV.s x13)),(14,(AV.i .i64 x14))] h
def Y1.t0 (Q:AV→aA→Prop) (x0:List UInt8) (x2:Int) (x7 x8 x9:AV) (x40:Bool) (h:aA) (J:JT):Prop:=
(bif x40 then
(Q (AV.b false) h)
else
(C Y0.id [x7,(AV.s x0)] h fun v33 h34=>
aN 0 v33 fun v35=>
asS v35 fun l36=>
aN 1 v33 fun v37=>
asI .i64 v37 fun n38=>
aO (IntKind.wrap .i64 ((x0.length:Int)+1)) fun n40=>
aAC (IntKind.wrap .i64 x2) n40 fun n41=>
bW (AV.s x0) none (some (AV.i .i64 n41)) fun l43=>
C Y0.id [x8,(AV.s l43)] h34 fun v44 h45=>
aN 0 v44 fun v46=>
asS v46 fun l47=>
aN 1 v44 fun v48=>
asI .i64 v48 fun n49=>
(bif (decide ((n49:Int)=0)) then
(C Y19.id [x8] h45 fun v51 h52=>
asB v51 fun c53=>
J 2 [(0,(AV.s x0)),(7,x7),(8,x8),(9,x9),(10,(AV.s l36)),(11,(AV.i .i64 n38)),(12,(AV.i .i64 n41)),(13,(AV.s l47)),(14,(AV.i .i64 n49)),(67,(AV.b (!c53)))] h52)
else
(J 2 [(0,(AV.s x0)),(7,x7),(8,x8),(9,x9),(10,(AV.s l36)),(11,(AV.i .i64 n38)),(12,(AV.i .i64 n41)),(13,(AV.s l47)),(14,(AV.i .i64 n49)),(67,(AV.b false))] h45))))
theorem Y1.i0 {Q x0 x2 x7 x8 x9 x40 h} (H:Y1.t0 Q x0 x2 x7 x8 x9 x40 h (Y1.J Q)):Y1.p0 Q x0 x2 x7 x8 x9 x40 h:=gR Y1.J Tryd.f5 Y1.dist [1,1,1,0,1] H
def Y1.t1 (Q:AV→aA→Prop) (x0:List UInt8) (x7 x8 x9:AV) (x10:List UInt8) (x11 x12:Int) (x13:List UInt8) (x14:Int) (x67:Bool) (h:aA) (J:JT):Prop:=
(bif x67 then
(bW (AV.s x0) (some (AV.i .i64 x12)) none fun l57=>
C Y0.id [x8,(AV.s l57)] h fun v58 h59=>
aN 0 v58 fun v60=>
asS v60 fun l61=>
aN 1 v58 fun v62=>
asI .i64 v62 fun n63=>
aEJ x13 l61 fun l65=>
J 3 [(0,(AV.s x0)),(7,x7),(8,x8),(9,x9),(10,(AV.s x10)),(11,(AV.i .i64 x11)),(13,(AV.s l65)),(14,(AV.i .i64 n63))] h59)
else
(J 3 [(0,(AV.s x0)),(7,x7),(8,x8),(9,x9),(10,(AV.s x10)),(11,(AV.i .i64 x11)),(13,(AV.s x13)),(14,(AV.i .i64 x14))] h))
theorem Y1.i1 {Q x0 x7 x8 x9 x10 x11 x12 x13 x14 x67 h} (H:Y1.t1 Q x0 x7 x8 x9 x10 x11 x12 x13 x14 x67 h (Y1.J Q)):Y1.p1 Q x0 x7 x8 x9 x10 x11 x12 x13 x14 x67 h:=gR Y1.J Tryd.f5 Y1.dist [1,1,1,1,1,1,1,0,1] H
def Y1.t4 (Q:AV→aA→Prop) (x0:List UInt8) (x7 x8 x9:AV) (x10:List UInt8) (x11:Int) (x13:List UInt8) (x14:Int) (x16:List UInt8) (x17 x18:Int) (x91:Bool) (h:aA) (J:JT):Prop:=
(bif x91 then
(aO (IntKind.wrap .i64 (x18+1)) fun n79=>
bW (AV.s x0) (some (AV.i .i64 x18)) (some (AV.i .i64 n79)) fun l80=>
C Y0.id [x9,(AV.s l80)] h fun v81 h82=>
aN 0 v81 fun v83=>
asS v83 fun l84=>
aN 1 v81 fun v85=>
asI .i64 v85 fun n86=>
aEJ x16 l84 fun l88=>
aO (IntKind.wrap .i64 (x18+1)) fun n91=>
J 4 [(0,(AV.s x0)),(7,x7),(8,x8),(9,x9),(10,(AV.s x10)),(11,(AV.i .i64 x11)),(13,(AV.s x13)),(14,(AV.i .i64 x14)),(16,(AV.s l88)),(17,(AV.i .i64 n86)),(18,(AV.i .i64 n91))] h82)
else
((bif (decide ((x10:List UInt8)=x13)) then
((bif (decide ((x10:List UInt8)=x16)) then
((bif (decide ((x11:Int)=x14)) then
((bif (decide ((x11:Int)=x17)) then
(C Y19.id [x7] h fun v93 h94=>
asB v93 fun c95=>
C Y19.id [x8] h94 fun v96 h97=>
asB v96 fun c98=>
(bif (c95 == c98) then
(C Y19.id [x7] h97 fun v99 h100=>
asB v99 fun c101=>
C Y19.id [x9] h100 fun v102 h103=>
asB v102 fun c104=>
(bif (c101 == c104) then
(C Y22.id [] h103 fun v105 h106=>
asB v105 fun c107=>
J 6 [(6,(AV.b c107))] h106)
else
(J 6 [(6,(AV.b false))] h103)))
else
(J 6 [(6,(AV.b false))] h97)))
else
(J 6 [(6,(AV.b false))] h)))
else
(J 6 [(6,(AV.b false))] h)))
else
(J 6 [(6,(AV.b false))] h)))
else
(J 6 [(6,(AV.b false))] h))))
theorem Y1.i4 {Q x0 x7 x8 x9 x10 x11 x13 x14 x16 x17 x18 x91 h} (H:Y1.t4 Q x0 x7 x8 x9 x10 x11 x13 x14 x16 x17 x18 x91 h (Y1.J Q)):Y1.p4 Q x0 x7 x8 x9 x10 x11 x13 x14 x16 x17 x18 x91 h:=gR Y1.J Tryd.f5 Y1.dist [1,1,1,1,1,1,1,1,1,1,0,1,0,0,0,1] H
def Y1.t3 (Q:AV→aA→Prop) (x0:List UInt8) (x7 x8 x9:AV) (x10:List UInt8) (x11:Int) (x13:List UInt8) (x14:Int) (x16:List UInt8) (x17 x18:Int) (h:aA) (J:JT):Prop:=
(bif (decide ((x18:Int)<(x0.length:Int))) then
((bif (decide ((x17:Int)=0)) then
(C Y19.id [x9] h fun v71 h72=>
asB v71 fun c73=>
J 5 [(0,(AV.s x0)),(7,x7),(8,x8),(9,x9),(10,(AV.s x10)),(11,(AV.i .i64 x11)),(13,(AV.s x13)),(14,(AV.i .i64 x14)),(16,(AV.s x16)),(17,(AV.i .i64 x17)),(18,(AV.i .i64 x18)),(91,(AV.b (!c73)))] h72)
else
(J 5 [(0,(AV.s x0)),(7,x7),(8,x8),(9,x9),(10,(AV.s x10)),(11,(AV.i .i64 x11)),(13,(AV.s x13)),(14,(AV.i .i64 x14)),(16,(AV.s x16)),(17,(AV.i .i64 x17)),(18,(AV.i .i64 x18)),(91,(AV.b false))] h)))
else
(J 5 [(0,(AV.s x0)),(7,x7),(8,x8),(9,x9),(10,(AV.s x10)),(11,(AV.i .i64 x11)),(13,(AV.s x13)),(14,(AV.i .i64 x14)),(16,(AV.s x16)),(17,(AV.i .i64 x17)),(18,(AV.i .i64 x18)),(91,(AV.b false))] h))
theorem Y1.i3 {Q x0 x7 x8 x9 x10 x11 x13 x14 x16 x17 x18 h} (H:Y1.t3 Q x0 x7 x8 x9 x10 x11 x13 x14 x16 x17 x18 h (Y1.J Q)):Y1.p3 Q x0 x7 x8 x9 x10 x11 x13 x14 x16 x17 x18 h:=gH Y1.J Tryd.f5 Y1.dist [1,1,1,1,1,1,1,1,1,1,0,1,0] H
def Y1.t5 (Q:AV→aA→Prop) (x6:Bool) (h:aA) (J:JT):Prop:=
Q (AV.b x6) h
theorem Y1.i5 {Q x6 h} (H:Y1.t5 Q x6 h (Y1.J Q)):Y1.p5 Q x6 h:=gR Y1.J Tryd.f5 Y1.dist [1,1,1,1,1,1,1,1,1,1,1,1] H
def Y1.t2 (Q:AV→aA→Prop) (x0:List UInt8) (x7 x8 x9:AV) (x10:List UInt8) (x11:Int) (x13:List UInt8) (x14:Int) (h:aA) (J:JT):Prop:=
J 4 [(0,(AV.s x0)),(7,x7),(8,x8),(9,x9),(10,(AV.s x10)),(11,(AV.i .i64 x11)),(13,(AV.s x13)),(14,(AV.i .i64 x14)),(16,(AV.s [])),(17,(AV.i .i64 0)),(18,(AV.i .i64 0))] h
theorem Y1.i2 {Q x0 x7 x8 x9 x10 x11 x13 x14 h} (H:Y1.t2 Q x0 x7 x8 x9 x10 x11 x13 x14 h (Y1.J Q)):Y1.p2 Q x0 x7 x8 x9 x10 x11 x13 x14 h:=gR Y1.J Tryd.f5 Y1.dist [1,1,1,1,1,1,1,1] H
def Y1.t (Q:AV→aA→Prop) (x0:List UInt8) (x1:AV) (x2:Int) (h:aA) (J:JT):Prop:=
dD (some 23) x1 h fun v0 h1=>
(bif (decide ((400:Int)<(x0.length:Int))) then
(C Y22.id [] h1 fun v4 h5=>
asB v4 fun c6=>
Q (AV.b c6) h5)
else
(cP 2 v0 h1 fun v9=>
cP 2 v0 h1 fun v10=>
cP 2 v0 h1 fun v11=>
C Y30.id [v9] h1 fun v12 h13=>
cP 2 v0 h13 fun v14=>
(v11=v14 ∧
(cP 2 v0 h13 fun v15=>
(v10=v15 ∧
(C Y30.id [v10] h13 fun v16 h17=>
cP 2 v0 h17 fun v18=>
(v11=v18 ∧
(C Y30.id [v11] h17 fun v19 h20=>
dN prog .eql 32 v12 (AV.p none) fun v22=>
asB v22 fun c23=>
(bif c23 then
(J 1 [(0,(AV.s x0)),(2,(AV.i .u16 x2)),(7,v12),(8,v16),(9,v19),(40,(AV.b true))] h20)
else
(dN prog .eql 32 v16 (AV.p none) fun v25=>
asB v25 fun c26=>
(bif c26 then
(J 1 [(0,(AV.s x0)),(2,(AV.i .u16 x2)),(7,v12),(8,v16),(9,v19),(40,(AV.b true))] h20)
else
(dN prog .eql 32 v19 (AV.p none) fun v28=>
asB v28 fun c29=>
J 1 [(0,(AV.s x0)),(2,(AV.i .u16 x2)),(7,v12),(8,v16),(9,v19),(40,(AV.b c29))] h20))))))))))))
theorem Y1.call {K x0 x1 x2 h} (H:Y1.t (aK h K) x0 x1 x2 h (Y1.J (aK h K))):C Y1.id [(AV.s x0),x1,(AV.i .u16 x2)] h K:=
 gC Y1.J Tryd.func5 Y1.dist H
end Go.Proofs.YtpaphfeihpgamaaDoor
