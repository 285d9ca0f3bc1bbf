/- Lemmas (several texts in one). -/
import Derived.Lib.Bytealg
import Derived.Test.YtcdkpkkdolmfdaaGreatDoorMg5
set_option linter.unusedVariables false
set_option linter.unusedSimpArgs false
namespace Go.GAM
variable {ty:Option TypeId}
open Go.RowKit
theorem inc {i:Nat} {K:Int→Prop} (h:i<9223372036854775807) (hk:K ((i+1:Nat):Int)):aR (IntKind.wrap .i64 ((i:Int)+1)) K:=
 aI (n:=((i+1:Nat):Int)) (by rw [aJ (by omega) (by omega)]; omega) hk
theorem aPH {i:Nat} {K:Int→Prop} (h:i≤1000000000) (hk:K ((i+2:Nat):Int)):aR (IntKind.wrap .i64 ((i:Int)+2)) K:=
 aI (n:=((i+2:Nat):Int)) (by rw [aJ (by omega) (by omega)]; omega) hk
theorem iZ (c d:UInt8):decide ((c.toNat:Int)=(d.toNat:Int))=decide (c=d):=by
 rw [decide_eq_decide]
 constructor
 ·intro h; exact UInt8.toNat_inj.1 (by omega)
 ·rintro rfl; rfl
theorem dH {α:Type} {l:List α} {i:Nat} {c:α} (hc:l[i]? = some c):l.take (i+1)=l.take i++[c]:=by
 rw [List.take_add_one,hc] <;> rfl
theorem b4 {α:Type} {l r:List α} {i:Nat} {c:α} (h:l.drop i=c :: r):l[i]? = some c:=by
 have:(l.drop i)[0]? = some c:=by rw [h] <;> rfl
 simpa using this
theorem eR {α:Type} {l:List α} {i:Nat} {c:α} (h:l[i]? = some c):l.drop i=c :: l.drop (i+1):=by
 have hi:=bH h
 rw [List.drop_eq_getElem_cons hi]
 rw [List.getElem?_eq_getElem hi] at h
 simp only [Option.some.injEq] at h
 rw [h]
theorem f6 {R:bT} {f:Nat} {first cap vs:List AV} {h:aA} {K:AV→aA→Prop} (hf:Nat.blt f yid0=true) (hk:R f (first++vs++cap) h K):eK R (.fn (.func f) first cap) vs h K:=by
 unfold eK
 simp only
 unfold mY
 exact aO hf hk
structure gB (h0 h:aA) (v:AV) (l:List AV):Prop where
 upd:Upd (fun _=>False) h0 h
 stk:Stk h v l
 new:∀ i,bU v i→h0.length≤i
theorem gB.start (h:aA):gB h h (.sl none 0 none) []:=⟨Upd.refl _ _,.inl ⟨rfl,rfl⟩,fun _ h=>h.elim⟩
theorem gB.push {bytes:Nat} {h0 h:aA} {v x:AV} {l zeros:List AV} (S:gB h0 h v l) (hf:fJ zeros [(0,1,x)]=some [x]) (hx:x.cellOK=true) (hlen:(l.length+1) * bytes≤140737488355328) (hl2:l.length+1≤9223372036854775807) {K:AV→aA→Prop}
  (hk:∀ v' h',gB h0 h' v' (l++[x])→Upd (bU v) h h'→(∀ i,bU v' i→bU v i∨h.length≤i)→K v' h'):bD 1 1 zeros [(0,1,x)] h fun y h'=>bQ ty 1 bytes v y h' K:=
 S.stk.push hf hx hlen hl2 fun v' h' U S' F=>hk v' h' ⟨S.upd.trans U fun i hi hs=>absurd (S.new i hs) (by omega),S',fun i hi=>by
  rcases F i hi with h | h
  ·exact S.new i h
  ·exact Nat.le_trans S.upd.1 h⟩ U F
theorem gB.cut {h0 h:aA} {v:AV} {l:List AV} (S:gB h0 h v l) {n:Nat} (hn:n≤l.length) {K:AV→Prop} (hk:∀ v',gB h0 h v' (l.take n)→(∀ i,bU v' i→bU v i)→K v'):cV 1 v none (some (.i .i64 n)) none h K:=
 S.stk.cut hn fun v' S' F=>hk v' ⟨S.upd,S',fun i hi=>S.new i (F i hi)⟩ F
theorem Arr.stk {h:aA} {v:AV} {l:List AV} {n:Nat} (A:Arr 1 h v l n):n=l.length∧Stk h v l:=by
 rcases A with ⟨rfl,rfl,rfl⟩ | ⟨id,b,rfl,h2,rfl,h4,h5,h6,h7,h8⟩
 ·exact ⟨rfl,.inl ⟨rfl,rfl⟩⟩
 ·have : n = b.cells.length := by omega
  subst this
  exact ⟨rfl,.inr ⟨id,b,rfl,h2,h5,Nat.le_refl _,by simp,h6,h7,h8⟩⟩
theorem aCF (z:AV):∀ n,(List.replicate n [z]).flatten=List.replicate n z
 | 0=>rfl
 | n+1=>by rw [List.replicate_succ,List.flatten_cons,aCF z n,List.replicate_succ] <;> rfl
theorem aE1 {bytes n:Nat} {z:AV} {h:aA} {k:IntKind} (hb:bytes * n≤281474976710656) (hn:n≤9223372036854775807) {K:AV→aA→Prop}
  (hk:∀ v h',eX 1 h h' v (List.replicate n z) n→K v h'):uU 1 bytes [z] (.i k (n:Int)) (.i k (n:Int)) h K:=by
 refine ⟨by omega,by omega,Int.natCast_mul bytes n ▸ (by omega:((bytes * n:Nat):Int)≤(281474976710656:Int)),by omega,rfl,Nat.one_pos, ?_⟩
 refine hk _ _ ⟨Upd.app _ _,.inr ⟨h.length,bP (List.replicate n z) 1 true, ?_, ?_,rfl,by simp,rfl,Nat.le_refl _,rfl,rfl⟩,fun i hi=>by cases hi; exact Nat.le_refl _⟩
 ·rw [Int.toNat_natCast,Nat.mul_one,List.length_replicate]
 ·rw [Int.toNat_natCast,aCF,List.getElem?_append_right (Nat.le_refl _),Nat.sub_self] <;> rfl
theorem Tx.one {h0 h:aA} (U:Upd (fun _=>False) h0 h) {c:UInt8} {K:AV→aA→Prop} (hk:∀ v h',Tx h0 h' v [c]→Upd (fun _=>False) h h'→K v h'):bD 1 1 [.i .u8 0] [(0,1,.i .u8 (c.toNat:Int))] h K:=by
 refine ⟨rfl,hk _ _ ⟨U.trans (Upd.app _ _) fun _ _ h=>h,.inr ⟨h.length,bP [byteAV c] 1 true,rfl,by simp [byteAV]; rfl,rfl,rfl,rfl,Nat.le_refl _,rfl,rfl⟩,fun i hi=>?_⟩ (Upd.app _ _)⟩
 cases hi; exact U.1
theorem Tx.app {h0 h:aA} {v w:AV} {l m:List UInt8} (A:Tx h0 h v l) (B:Byt h w m) (hlen:l.length+m.length<1000000000) {K:AV→aA→Prop} (hk:∀ v' h',Tx h0 h' v' (l++m)→Upd (bU v) h h'→K v' h'):bQ ty 1 1 v w h K:=by
 refine eX.append A (by decide) (ns:=m.map byteAV) (k:=m.length) (fun K hK=>Rd.news B hK) (by simp) (xF m) (by omega) (by omega) fun v' h' A' U=>hk v' h' ?_ U
 unfold Tx
 rw [List.map_append,List.length_append]; exact A'
theorem Tx.byt {h0 h:aA} {v:AV} {l:List UInt8} (A:Tx h0 h v l):Byt h v l:=A.arr.rd
theorem Tx.ext {h0 h h':aA} {v:AV} {l:List UInt8} (A:Tx h0 h v l) (U:Upd (fun _=>False) h h'):Tx h0 h' v l:=⟨A.upd.trans U fun _ _ h=>h,A.arr.upd U fun _ _ h=>h,A.new⟩
theorem aY {a:AV} {l:List AV} {K:AV→Prop} (hk:K a):aH 0 (.tu (a :: l)) K:=⟨by simp,hk⟩
theorem aZ {a b:AV} {l:List AV} {K:AV→Prop} (hk:K b):aH 1 (.tu (a :: b :: l)) K:=⟨by simp,hk⟩
theorem gW {a b c:AV} {l:List AV} {K:AV→Prop} (hk:K c):aH 2 (.tu (a :: b :: c :: l)) K:=⟨by simp,hk⟩
theorem qQ {x n:Nat} (hx:x<2 ^ 62) (hn:n<62):cD .and .i64 (x:Int) ((2 ^ n - 1:Nat):Int)=((x % 2 ^ n:Nat):Int):=by
 have:2 ^ n≤2 ^ 61:=Nat.pow_le_pow_right (by omega) (by omega)
 rw [aJJ hx (by omega),Nat.and_two_pow_sub_one_eq_mod]
theorem aJG {n:Int} (h0:0≤n) (h1:n<18446744073709551616):IntKind.wrap .u64 n=n:=by
 have:IntKind.wrap .u64 n=n % 18446744073709551616:=by
  show n.emod (2 ^ 64)=_
  rfl
 rw [this]; omega
theorem cJ (x:Nat):IntKind.wrap .u8 (x:Int)=((x % 256:Nat):Int):=by
 have:IntKind.wrap .u8 (x:Int)=(x:Int) % 256:=by
  show (x:Int).emod (2 ^ 8)=_
  rfl
 rw [this] <;> rfl
theorem eT (x:Nat):((x % 256:Nat):Int)=((UInt8.ofNat x).toNat:Int):=by
 rw [UInt8.toNat_ofNat']
end Go.GAM
namespace Go.GAM
open Go.RowKit
theorem lV {a n:Int} {b:Nat} {K:Int→Prop} (hb:b≤64) (hn:a * 2 ^ b=n) (h0 : -9223372036854775808≤n) (h1:n<9223372036854775808) (hk:K n):tF .i64 a b K:=by
 refine ⟨by omega, ?_⟩
 rw [Int.toNat_natCast,show IntKind.i64.bits=64 from rfl,Nat.min_eq_left hb,hn,aJ h0 h1]; exact hk
theorem aLQ {a n:Int} {b:Nat} {K:Int→Prop} (hb:b≤64) (hn:a / ((2 ^ b:Nat):Int)=n) (hk:K n):rE .i64 a b K:=by
 refine ⟨by omega, ?_⟩
 have h2:((2:Int) ^ b)=((2 ^ b:Nat):Int):=by simp
 rw [Int.toNat_natCast,show IntKind.i64.bits=64 from rfl,Nat.min_eq_left hb,h2,Int.fdiv_eq_ediv_of_nonneg _ (Int.natCast_nonneg _),hn]; exact hk
theorem aDG (z:Int):IntKind.wrap .i64 ((BitVec.ofInt 64 z).toNat:Int)=IntKind.wrap .i64 z:=by
 have e1:(2:Int) ^ 64=18446744073709551616:=by decide
 have e2:(2:Int) ^ (64 - 1)=9223372036854775808:=by decide
 have e3:((2 ^ 64:Nat):Int)=18446744073709551616:=by decide
 rw [BitVec.toNat_ofInt,e3]
 simp only [IntKind.wrap,IntKind.bits,IntKind.signed,Bool.true_and,decide_eq_true_eq,e1,e2]
 rw [Int.toNat_of_nonneg (by omega),Int.emod_emod_of_dvd _ (Int.dvd_refl _)]
theorem aOT {a : Int} {c : Nat} (hc : c < 256) (h0 : -36028797018963968 ≤ a) (h1 : a < 36028797018963968) : cD .or .i64 (a * 256) (c : Int) = a * 256 + c := by
 show IntKind.wrap .i64 (((BitVec.ofInt 64 (a * 256)) ||| (BitVec.ofInt 64 (c:Int))).toNat:Int)=_
 have hX:BitVec.ofInt 64 (a * 256)=BitVec.ofInt 64 a <<< 8:=by
  rw [BitVec.ofInt_mul,BitVec.shiftLeft_eq_mul_twoPow] <;> rfl
 have hand:BitVec.ofInt 64 (a * 256) &&& BitVec.ofInt 64 (c:Int)=0#64:=by
  rw [hX]
  apply BitVec.eq_of_getLsbD_eq
  intro i hi
  rw [BitVec.getLsbD_and,BitVec.getLsbD_shiftLeft]
  by_cases h8:i<8
  ·simp [h8]
  ·have : (BitVec.ofInt 64 (c : Int)).getLsbD i = false := by
    rw [BitVec.getLsbD,nV (by omega)]
    apply Nat.testBit_lt_two_pow
    have:2 ^ 8≤2 ^ i:=Nat.pow_le_pow_right (by omega) (by omega)
    omega
   rw [this]; simp
 rw [← BitVec.add_eq_or_of_and_eq_zero _ _ hand, ← BitVec.ofInt_add,aDG,aJ (by omega) (by omega)]
theorem aC4 (z:Int):IntKind.wrap .u8 z=((UInt8.ofNat (z % 256).toNat).toNat:Int):=by
 rw [UInt8.toNat_ofNat']
 have:IntKind.wrap .u8 z=z % 256:=by
  show z.emod (2 ^ 8)=_
  rfl
 rw [this]; omega
theorem aL3 (c:UInt8):IntKind.wrap .i8 (c.toNat:Int)=if c.toNat<128 then (c.toNat:Int) else (c.toNat:Int) - 256:=by
 have hc:=c.toNat_lt
 have e1:(2:Int) ^ 8=256:=by decide
 have e2:(2:Int) ^ (8 - 1)=128:=by decide
 simp only [IntKind.wrap,IntKind.bits,IntKind.signed,Bool.true_and,decide_eq_true_eq,e1,e2]
 split <;> split <;> omega
end Go.GAM
set_option linter.unusedSectionVars false
namespace Go.GAM
open Go.RowKit
section
variable {P:Program} {α:Type} [DecidableEq α]
def kT (κ:α→AV) (kv:List (α × AV)):List (AV × AV):=kv.map fun p=>(κ p.1,p.2)
def lkI:List (α × AV)→α→Nat→Option (Nat × AV)
 | [],_,_=>none
 | (k,v) :: r,x,i=>if x=k then some (i,v) else lkI r x (i+1)
def lkM (kv:List (α × AV)) (x:α):Option AV:=(lkI kv x 0).map (·.2)
def upM:List (α × AV)→α→AV→List (α × AV)
 | [],x,v=>[(x,v)]
 | (k,w) :: r,x,v=>if x=k then (k,v) :: r else (k,w) :: upM r x v
theorem aE4 (x:α):∀ (kv:List (α × AV)) (i j:Nat),(lkI kv x i).map (·.2)=(lkI kv x j).map (·.2)
 | [],_,_=>rfl
 | (k, v) :: r, i, j => by
  unfold lkI
  split
  ·rfl
  ·exact aE4 x r _ _
theorem nD (k:α) (v:AV) (r:List (α × AV)) (x:α):lkM ((k,v) :: r) x=if x=k then some v else lkM r x:=by
 unfold lkM
 rw [lkI]
 split
 ·rfl
 ·exact aE4 x r _ _
theorem aJ6 (x:α) (v:AV) (y:α):∀ kv:List (α × AV),lkM (upM kv x v) y=if y=x then some v else lkM kv y
 | []=>by rw [upM,nD]
 | (k, w) :: r => by
  unfold upM
  by_cases h:x=k
  ·subst h
   rw [if_pos rfl,nD,nD]
   split <;> rfl
  ·rw [if_neg h, nD, nD, aJ6 x v y r]
   by_cases hy:y=k
   ·subst hy; rw [if_pos rfl,if_pos rfl,if_neg (fun e=>h e.symm)]
   ·rw [if_neg hy,if_neg hy]
def aBH (P:Program) (kt:TypeId) (κ:α→AV):Prop:=∀ a b,aEq P 64 kt (κ a) (κ b)=some (decide (a=b))
theorem vP {kt:TypeId} {κ:α→AV} (hκ:aBH P kt κ) (x:α):∀ (kv:List (α × AV)) (i:Nat),mO P kt (κ x) (kT κ kv) i=some (lkI kv x i)
 | [],_=>rfl
 | (k, v) :: r, i => by
  have e:=vP hκ x r (i+1)
  show mO P kt (κ x) ((κ k,v) :: kT κ r) i=_
  rw [mO]
  show (match aEq P 64 kt (κ x) (κ k) with
   | some true=>some (some (i,v))
   | some false=>mO P kt (κ x) (kT κ r) (i+1)
   | none=>none)=_
  rw [hκ x k,lkI]
  by_cases h:x=k
  ·rw [decide_eq_true h,if_pos h]
  ·rw [decide_eq_false h,if_neg h]; exact e
def lA (κ:α→AV) (h:aA) (id:Nat) (kv:List (α × AV)):Prop:=h[id]? = some (iA (kT κ kv))
theorem lA.lt {κ:α→AV} {h:aA} {id:Nat} {kv:List (α × AV)} (M:lA κ h id kv):id<h.length:=bH M
theorem lA.upd {κ:α→AV} {M:Nat→Prop} {h h':aA} {id:Nat} {kv:List (α × AV)} (A:lA κ h id kv) (U:Upd M h h') (hM:¬ M id):lA κ h' id kv:=(U.2 id A.lt hM).trans A
theorem aDY (κ:α→AV) {h:aA} {K:AV→aA→Prop} (hk:∀ h',h'.length=h.length+1→Upd (fun _=>False) h h'→lA κ h' h.length []→K (.mp (some h.length)) h'):rB h K:=
 hk _ (by simp) (Upd.app _ _) (by unfold lA; simp [kT])
theorem aHO {κ:α→AV} {h:aA} {id:Nat} {kv:List (α × AV)} {kt el:TypeId} {x:α} {z:AV} {K:AV→Prop} (M:lA κ h id kv) (hκ:aBH P kt κ) (hv:aCD P kt (κ x)=true) (hz:aBJ P el=some z) (hk:K ((lkM kv x).getD z)):j6 P kt el false (.mp (some id)) (κ x) h K:=by
 refine ⟨hv, ?_⟩
 have e:aE3 (.mp (some id)) h=some (kT κ kv):=by show (h[id]?).bind (·.mp)=_; rw [M] <;> rfl
 rw [e]
 simp only
 rw [vP hκ]
 unfold lkM at hk
 cases hl:lkI kv x 0 with
 | none=>rw [hl] at hk; simp only; rw [hz]; exact hk
 | some p=>rw [hl] at hk; exact hk
theorem aJN {κ : α → AV} (x : α) (v : AV) : ∀ (kv : List (α × AV)) (i : Nat), match lkI kv x i with
  | none=>upM kv x v=kv++[(x,v)]
  | some (j,_)=>i≤j∧kv[j - i]?.map (·.1)=some x∧upM kv x v=kv.set (j - i) (x,v)
 | [],i=>rfl
 | (k, w) :: r, i => by
  have ih:=aJN (κ:=κ) x v r (i+1)
  rw [lkI]
  by_cases h:x=k
  ·subst h
   rw [if_pos rfl]
   exact ⟨Nat.le_refl _,by simp,by simp [upM]⟩
  ·rw [if_neg h]
   cases hl:lkI r x (i+1) with
   | none=>rw [hl] at ih; simp only at ih ⊢; rw [upM,if_neg h,ih] <;> rfl
   | some p =>
    obtain ⟨j,u1⟩:=p
    rw [hl] at ih
    simp only at ih ⊢
    obtain ⟨h1,h2,h3⟩:=ih
    obtain ⟨m,rfl⟩:∃ m,j=i+1+m:=⟨j - (i+1),by omega⟩
    rw [show i+1+m - (i+1)=m by omega] at h2 h3
    rw [show i+1+m - i=m+1 by omega,upM,if_neg h,h3]
    exact ⟨by omega,by simpa using h2,by simp⟩
theorem aGY {κ:α→AV} {h:aA} {id:Nat} {kv:List (α × AV)} {kt:TypeId} {x:α} {v:AV} {K:aA→Prop} (M:lA κ h id kv) (hκ:aBH P kt κ) (hv:aCD P kt (κ x)=true) (hp:yC (κ x)=true)
  (hk:∀ h',h'.length=h.length→Upd (· = id) h h'→lA κ h' id (upM kv x v)→K h'):kB P kt (.mp (some id)) (κ x) v h K:=by
 refine ⟨hv,hp,_,_,M,rfl, ?_⟩
 rw [vP hκ]
 have hu:=aJN (κ:=κ) x v kv 0
 have fin:∀ es,es=kT κ (upM kv x v)→K (h.set id (iA es)):=by
  rintro es rfl
  exact hk _ (by simp) (Upd.set _ _ _) (List.getElem?_set_self M.lt)
 cases hl:lkI kv x 0 with
 | none =>
  rw [hl] at hu
  exact fin _ (by simp only at hu; rw [hu]; simp [kT])
 | some p =>
  obtain ⟨j,u1⟩:=p
  rw [hl] at hu
  simp only [Nat.sub_zero] at hu
  obtain ⟨_,h2,h3⟩:=hu
  refine ⟨?_,fin _ (by rw [h3]; simp [kT,List.map_set])⟩
  obtain ⟨q,hq,hqx⟩:=Option.map_eq_some_iff.1 h2
  exact ⟨q.2,by unfold kT; rw [List.getElem?_map,hq]; simp [hqx]⟩
theorem aHY {kt:TypeId} (hu:P.underlying kt=some .string):aBH P kt (fun l:List UInt8=>.s l):=fun a b=>by
 rw [aFK (d:=63) hu]
 show some (a == b)=_
 congr 1
 rw [Bool.eq_iff_iff]; simp
end
section
variable {P:Program}
end
end Go.GAM
namespace Go.GAM
def yZ (k:IntKind) (x:AV) (h:aA) (K:Int→Prop):Prop:=aE x h fun v=>asI k v K
def aEZ (k:IntKind) (args:List AV) (h:aA) (K:AV→aA→Prop):Prop:=
 match args with
 | [x]=>yZ k x h fun n=>K (.i k n) h
 | _=>False
def zH (k:IntKind) (args:List AV) (h:aA) (K:AV→aA→Prop):Prop:=
 match args with
 | [x,.i k' n]=>k'=k∧aP 1 x (.i k n) h fun h'=>K (.tu []) h'
 | _=>False
def aLD (k:IntKind) (args:List AV) (h:aA) (K:AV→aA→Prop):Prop:=
 match args with
 | [x,.i k1 o,.i k2 n]=>k1=k∧k2=k∧yZ k x h fun m=>m=o∧aP 1 x (.i k n) h fun h'=>K (.b true) h'
 | _=>False
def aK8 (k:IntKind) (args:List AV) (h:aA) (K:AV→aA→Prop):Prop:=
 match args with
 | [x,.i k1 d]=>k1=k∧yZ k x h fun m=>aP 1 x (.i k (k.wrap (m+d))) h fun h'=>K (.i k (k.wrap (m+d))) h'
 | _=>False
def aQF (args:List AV) (h:aA) (K:AV→aA→Prop):Prop:=
 match args with
 | []=>K (.tu []) h
 | [.p (some _)]=>K (.tu []) h
 | _=>False
def aC7 (args:List AV) (h:aA) (K:AV→aA→Prop):Prop:=
 match args with
 | [x]=>K x h
 | _=>False
section
variable {P:Program} {w0:World} {Fz:Nat→Prop} {μ:Mu} {own:Nat→Option Nat} {h:aA} {w:World}
theorem aI0 {f:FuncId} {fn:Func} {ex:Array Value→Sem Value} (hf:P.funcs[f]? = some fn) (hn:(fn.name == "runtime.NumGoroutine")=false) (hb:fn.body.isNone=true)
  (h1:Extern.findNext fn=none) (h2:Extern.find fn=some ex) {args:Array Value} {v:Value} {w w':World} (he:(ex args).run P w = .ok v w'):(callFunc f args).run P w = .ok (.value v) w':=by
 have hn':fn.name ≠ "runtime.NumGoroutine":=by simpa using hn
 have hb':fn.body=none:=by simpa using hb
 have hm:∀ (m:Mark) (k:Sem Unit) (w:World),Sem.run P (Sem.mark m k) w=Sem.run P k w:=fun _ _ _=>rfl
 unfold callFunc
 simp [go_sem,hf,hn',hb',h1,h2,mark,hm,he]
def nQ (P : Program) (ex : Array Value → Sem Value) (X : List AV → aA → (AV → aA → Prop) → Prop) : Prop :=
 ∀ (w0 : World) (Fz : Nat → Prop) (μ : Mu) (own : Nat → Option Nat) (h : aA) (w : World) (args : List AV) (cargs : List Value) (K : AV → aA → Prop), Rel w0 Fz μ own h w → bO μ args cargs → X args h K →
  ∃ cv w',(ex cargs.toArray).run P w = .ok cv w'∧jX w0 Fz μ K cv w'
structure aKN (P:Program) (f:FuncId) (ex:Array Value→Sem Value):Prop where
 is:∃ fn,P.funcs[f]? = some fn∧(fn.name == "runtime.NumGoroutine")=false∧fn.body.isNone=true∧Extern.findNext fn=none∧Extern.find fn=some ex
theorem aKN.sim {f:FuncId} {ex:Array Value→Sem Value} {X:List AV→aA→(AV→aA→Prop)→Prop} (A:aKN P f ex) (E:nQ P ex X) (hlt:f<yid0) {μb:Mu} {args:List AV} {h:aA} {K:AV→aA→Prop} (hk:X args h K):aFA P w0 Fz μb f args h K:=by
 intro μ own w cargs hsb R hc
 rw [if_pos hlt]
 obtain ⟨fn,h1,h2,h3,h4,h5⟩:=A.is
 obtain ⟨cv,w',e1,e2⟩:=E w0 Fz μ own h w args cargs K R hc hk
 exact .inr ⟨cv,w',aI0 h1 h2 h3 h4 h5 e1,e2⟩
theorem uP (R:Rel w0 Fz μ own h w) {x:AV} {cx:Value} {k:IntKind} {n:Int} {K:aA→Prop} (hx:bG μ x cx) (hk:aP 1 x (.i k n) h K) :
  ∃ ad h' w',cx = .pointer (some ad)∧K h'∧Rel w0 Fz μ own h' w'∧w.frozen? ad=false∧(∃ c el fr,w.heap[ad.block]? = some (.cells c el fr))∧∀ m,(store ad (.int k n) m).run P w = .ok () w':=by
 cases hx <;> first | exact hk.elim | skip
 rename_i a l o hl ho
 subst ho
 obtain ⟨b,hb,hro,hfv,hver,hoff,hso,hlen,hok,hk⟩:=hk
 have hlv:b.floor≤b.cells.length:=by omega
 rw [hver] at hl
 have hk0:=R.cur hb hlv hl
 have hroom:=R.room hk0 hro (off:=a.off) (n:=1) (by have:=hk0.len; omega)
 have hc:=hroom.1 0 (by omega)
 have hf:=hroom.2 0 (by omega)
 simp only [Nat.add_zero] at hc hf
 obtain ⟨c,el,fr,hrow,_⟩:=hk0.row
 refine ⟨_,_,w.setCell ⟨l.B,l.base+a.off,none⟩ (.int k n),rfl,hk,R.write hb hlv hk0 hro (.cons _ _ _ _ (.i k n) .nil) (off:=a.off) (by simp; omega),hf,⟨c,el,fr,hrow⟩,fun m=>?_⟩
 obtain ⟨v,hv⟩:=Option.isSome_iff_exists.1 hc
 simp [go_sem,stored,hv,hf]
theorem aDC (R : Rel w0 Fz μ own h w) {x : AV} {cx : Value} {k : IntKind} {K : Int → Prop} (hx : bG μ x cx) (hk : yZ k x h K) :
  ∃ ad n,cx = .pointer (some ad)∧K n∧w.cell? ad=some (.int k n):=by
 unfold yZ at hk
 cases hx <;> first | exact hk.elim | skip
 rename_i a l o hl ho
 subst ho
 obtain ⟨b,hb,hr,hK⟩:=hk
 obtain ⟨cv,hcv,hv⟩:=R.read hb hr hl 0 (by omega)
 simp only [Nat.add_zero] at hcv hv
 generalize b.cells.getD a.off .u=v at *
 unfold asI at hK
 split at hK
 ·rename_i k' n
  cases hkk:kEq k k' with
  | false=>rw [hkk] at hK; exact hK.elim
  | true =>
   rw [hkk] at hK
   have:k=k':=by
    unfold kEq at hkk
    have:=Nat.eq_of_beq_eq_true hkk
    cases k <;> cases k' <;> first | rfl | simp [kc] at this
   subst this
   cases hv
   exact ⟨_,n,rfl,hK,hcv⟩
 ·exact hK.elim
theorem aIL (k:IntKind):nQ P (Extern.Atomic.loadT (.int k)) (aEZ k):=by
 intro w0 Fz μ own h w args cargs K R hc hk
 unfold aEZ at hk
 split at hk
 ·rename_i x
  cases hc with | cons _ _ _ _ hx t=>
  cases t
  obtain ⟨ad,n,rfl,hK,hcell⟩:=aDC R hx hk
  refine ⟨.int k n,w, ?_,_,μ,own,h,hK,.i k n,R,Sub.refl _⟩
  have hd:Extern.Atomic.loadT (.int k) #[.pointer (some ad)]=Extern.Atomic.read (.int k) ad:=rfl
  show (Extern.Atomic.loadT (.int k) #[.pointer (some ad)]).run P w=_
  rw [hd]
  simp [Extern.Atomic.read,hcell]
 ·exact hk.elim
theorem aHE (k:IntKind):nQ P Extern.Atomic.storeT (zH k):=by
 intro w0 Fz μ own h w args cargs K R hc hk
 unfold zH at hk
 split at hk
 ·rename_i x k' n
  obtain ⟨rfl,hk⟩:=hk
  cases hc with | cons _ _ _ _ hx t=>
  cases t with | cons _ _ _ _ hn t=>
  cases t
  cases hn
  obtain ⟨ad,h',w',rfl,hK,R',hf,_,hrun⟩:=uP (P:=P) R hx hk
  refine ⟨.tuple #[],w', ?_,_,μ,own,h',hK,.tu [] #[] .nil,R',Sub.refl _⟩
  show (Extern.Atomic.storeT #[.pointer (some ad),.int k' n]).run P w=_
  have hd:Extern.Atomic.storeT #[.pointer (some ad),.int k' n]=(do store ad (.int k' n) .atomic; pure Extern.Atomic.none_):=rfl
  rw [hd]
  simp only [Sem.run_bind,hrun .atomic]
  rfl
 ·exact hk.elim
theorem aM0 (k : IntKind) : nQ P (Extern.Atomic.casT (.int k)) (aLD k) := by
 intro w0 Fz μ own h w args cargs K R hc hk
 unfold aLD at hk
 split at hk
 ·rename_i x k1 o k2 n
  obtain ⟨rfl,rfl,hk⟩:=hk
  cases hc with | cons _ _ _ _ hx t=>
  cases t with | cons _ _ _ _ ho t=>
  cases t with | cons _ _ _ _ hn t=>
  cases t
  cases ho; cases hn
  obtain ⟨ad,m,rfl,hq,hcell⟩:=aDC R hx hk
  obtain ⟨rfl,hk2⟩:=hq
  obtain ⟨ad',h',w',he,hK,R',hf,⟨c,el,fr,hrow⟩,hrun⟩:=uP (P:=P) R hx hk2
  cases he
  refine ⟨.bool true,w', ?_,_,μ,own,h',hK,.b true,R',Sub.refl _⟩
  show (Extern.Atomic.casT (.int k2) #[.pointer (some ad),.int k2 m,.int k2 n]).run P w=_
  have hd:Extern.Atomic.casT (.int k2) #[.pointer (some ad),.int k2 m,.int k2 n]=(do
   let a ← asAddr (.pointer (some ad))
   if ← Extern.Atomic.touchesFrozen a then unsupported (.unsafePointer "a write to bytes that a string shares")
   let eq ← match Extern.Atomic.T.int k2, ← Extern.Atomic.read (.int k2) a,Value.int k2 m with
    | _,.int _ x,.int _ y=>pure (x == y)
    | .ptr,.pointer x,.pointer y=>samePointer x y
    | .int _,.pointer (some _),.int _ 0 | .int _,.int _ 0,.pointer (some _)=>pure false
    | .int _,.pointer (some _),_ | .int _,_,.pointer (some _)=>unsupported .addressObserved
    | _,_,_=>stuck "atomic.CompareAndSwap: old is no T"
   if eq then store a (.int k2 n) .atomic
   pure (.bool eq)):=rfl
  rw [hd]
  have hsh:w.shape? ad.block=some (el,c.size):=by simp [World.shape?,hrow]
  simp [asAddr,Extern.Atomic.touchesFrozen,viewAt,hsh,hf,Extern.Atomic.read,hcell,hrun .atomic]
 ·exact hk.elim
theorem aL6 (k:IntKind):nQ P (Extern.Atomic.update (Op.intArith .add) k true) (aK8 k):=by
 intro w0 Fz μ own h w args cargs K R hc hk
 unfold aK8 at hk
 split at hk
 ·rename_i x k1 d
  obtain ⟨rfl,hk⟩:=hk
  cases hc with | cons _ _ _ _ hx t=>
  cases t with | cons _ _ _ _ hn t=>
  cases t
  cases hn
  obtain ⟨ad,m,rfl,hk2,hcell⟩:=aDC R hx hk
  obtain ⟨ad',h',w',he,hK,R',hf,_,hrun⟩:=uP (P:=P) R hx hk2
  cases he
  refine ⟨.int k1 (k1.wrap (m+d)),w', ?_,_,μ,own,h',hK,.i _ _,R',Sub.refl _⟩
  show (Extern.Atomic.update (Op.intArith .add) k1 true #[.pointer (some ad),.int k1 d]).run P w=_
  have hd:Extern.Atomic.update (Op.intArith .add) k1 true #[.pointer (some ad),.int k1 d]=(do
   let a ← asAddr (.pointer (some ad))
   let old ← Extern.Atomic.read (.int k1) a
   let new ← Op.intArith .add k1 (← asInt old) (← asInt (.int k1 d))
   store a new .atomic
   pure (if true then new else old)):=rfl
  rw [hd]
  simp [asAddr,asInt,asIntOf,Extern.Atomic.read,hcell,Op.intArith,hrun .atomic]
 ·exact hk.elim
theorem vG (m:Addr→Mark):nQ P (Extern.Race.marked m) (fun args h K=>match args with | [.p (some _)]=>K (.tu []) h | _=>False):=by
 intro w0 Fz μ own h w args cargs K R hc hk
 split at hk
 ·rename_i a
  cases hc with | cons _ _ _ _ hx t=>
  cases t
  cases hx with | p _ l o hl ho=>
  exact ⟨.tuple #[],w,rfl,_,μ,own,h,hk,.tu [] #[] .nil,R,Sub.refl _⟩
 ·exact hk.elim
theorem yV (m:Mark):nQ P (fun _=>do mark m; pure Extern.Race.none_) (fun args h K=>match args with | []=>K (.tu []) h | _=>False):=by
 intro w0 Fz μ own h w args cargs K R hc hk
 split at hk
 ·cases hc
  exact ⟨.tuple #[],w,rfl,_,μ,own,h,hk,.tu [] #[] .nil,R,Sub.refl _⟩
 ·exact hk.elim
theorem aIH:nQ P Extern.AbiNoEscape.same aC7:=by
 intro w0 Fz μ own h w args cargs K R hc hk
 unfold aC7 at hk
 split at hk
 ·rename_i x
  cases hc with | cons _ v _ _ hx t=>
  cases t
  exact ⟨v,w,rfl,_,μ,own,h,hk,hx,R,Sub.refl _⟩
 ·exact hk.elim
end
end Go.GAM
namespace Go.GAM
def r7 (E:TypeId) (h:aA) (v:AV) (l:List UInt8):Prop:=
 (v = .sl none 0 none∧l=[])∨∃ id b,v = .sl (some ⟨id,l.length,0⟩) l.length none∧h[id]? = some b∧b.cells=l.map byteAV∧b.sz=1∧b.floor≤l.length∧b.ro=false∧b.ex=false∧b.gl=false∧b.ty=some E∧l≠[]
theorem r7.upd {E:TypeId} {M:Nat→Prop} {h h':aA} {v:AV} {l:List UInt8} (B:r7 E h v l) (U:Upd M h h') (hM:∀ i,bU v i→¬ M i):r7 E h' v l:=by
 rcases B with B | ⟨id,b,rfl,h1,h2⟩
 ·exact .inl B
 ·exact .inr ⟨id,b,rfl,(U.2 id (bH h1) (hM id rfl)).trans h1,h2⟩
theorem r7.append {E:TypeId} {h:aA} {v x:AV} {l t:List UInt8} (B:r7 E h v l) (hx:∀ K:List AV→Nat→Prop,K (t.map byteAV) t.length→kO 1 x h K) (hlen:l.length+t.length≤140737488355328) {K:AV→aA→Prop}
  (hk:∀ v' h',Upd (bU v) h h'→r7 E h' v' (l++t)→(∀ i,bU v' i→bU v i∨h.length≤i)→K v' h'):bQ (some E) 1 1 v x h K:=by
 refine ⟨by decide,hx _ ?_⟩
 have hok:(t.map byteAV).all AV.cellOK=true:=by
  rw [List.all_eq_true]; intro x hx
  obtain ⟨c,_,rfl⟩:=List.mem_map.1 hx
  rfl
 rcases B with ⟨rfl,rfl⟩ | ⟨id,b,rfl,h1,h2,h3,h4,h5,h6,h7,h8,h9⟩
 ·refine ⟨by simp only [List.length_nil] at hlen; omega, by simp only [List.length_nil] at hlen; omega, ?_⟩
  by_cases ht:t=[]
  ·subst ht
   show K (.sl none 0 none) h
   exact hk _ _ (Upd.refl _ _) (.inl ⟨rfl,rfl⟩) fun i hi=>.inl hi
  ·have htl : t.length ≠ 0 := by simpa using ht
   rw [if_neg htl]
   refine hk _ _ ((Upd.app _ _).mono fun _ _ h=>h.elim) (.inr ⟨h.length,bP (t.map byteAV) 1 false (some E),by simp,by simp,rfl,rfl,by simp [bP],rfl,rfl,rfl,rfl,by simpa using ht⟩) fun i hi=>.inr ?_
   cases hi; exact Nat.le_refl _
 ·have hidl := bH h1
  have hbl:b.cells.length=l.length:=by rw [h2]; simp
  have hll:0<l.length:=List.length_pos_iff.2 h9
  refine ⟨by omega,by omega,b,h1,h3,⟨h4,by rw [hbl]; exact Nat.le_refl _,by simp⟩, ?_⟩
  by_cases ht:t=[]
  ·subst ht
   left
   exact ⟨rfl,hk _ _ (Upd.refl _ _) (.inr ⟨id,b,by simp,h1,by simpa using h2,h3,by simpa using h4,h5,h6,h7,h8,by simpa using h9⟩) fun i hi=>.inl hi⟩
  ·have htl : 0 < t.length := List.length_pos_iff.2 ht
   right; right; right; left
   refine ⟨htl,h5,hbl.symm,rfl,by rw [hbl]; simp,rfl,h6,h7,hok, ?_⟩
   have hty:jO b.ty (some E)=some E:=by rw [h8]; simp [jO]
   refine hk _ _ ((Upd.set _ _ _).mono fun i _ h=>h.symm) (.inr ⟨id,{ b with cells:=b.cells++t.map byteAV,ty:=jO b.ty (some E) },by simp [hbl],List.getElem?_set_self hidl,by simp [h2],h3,by simp; omega,h5,h6,h7,hty,by simp [h9]⟩) fun i hi=>.inl ?_
   exact hi
structure iU (P:Program) (T E:TypeId) (h:aA) (id off:Nat) (cs:List AV) (buf:AV) (l:List UInt8):Prop where
 blk:∃ b t,h[id]? = some b∧b.cells=cs∧b.floor≤cs.length∧b.ro=false∧b.ty=some t∧liesAt P P.depth t (cs.length / P.cellsOf t) off T 1=true
 room:off+1<cs.length
 addr:cs[off]? = some (.p none)∨cs[off]? = some (.p (some ⟨id,cs.length,off⟩))
 cell:cs[off+1]? = some buf
 is:r7 E h buf l
 own:¬ bU buf id
section
variable {P:Program} {T E:TypeId} {h:aA} {id off:Nat} {cs:List AV} {buf:AV} {l:List UInt8}
theorem iU.rec' (B:iU P T E h id off cs buf l):bC h id cs:=by
 obtain ⟨b,t,h1,h2,h3,h4,_⟩:=B.blk
 exact ⟨b,h1,h2,h3,h4⟩
theorem iU.lt (B:iU P T E h id off cs buf l):id<h.length:=B.rec'.lt
theorem iU.upd {M:Nat→Prop} {h':aA} (B:iU P T E h id off cs buf l) (U:Upd M h h') (h1:¬ M id) (h2:∀ i,bU buf i→¬ M i):iU P T E h' id off cs buf l:=by
 have hl:=B.lt
 obtain ⟨b,t,g1,g2⟩:=B.blk
 exact ⟨⟨b,t,(U.2 id hl h1).trans g1,g2⟩,B.room,B.addr,B.cell,B.is.upd U h2,B.own⟩
theorem iU.store {v:AV} {o:Nat} {K:aA→Prop} (B:iU P T E h id off cs buf l) (ho:o<cs.length) (hv:v.parts=[v]) (hs:v.sizeOK=true) (hc:v.cellOK=true)
  {buf':AV} {l':List UInt8} (ha:(cs.set o v)[off]? = some (.p none)∨(cs.set o v)[off]? = some (.p (some ⟨id,cs.length,off⟩))) (hb:(cs.set o v)[off+1]? = some buf') (hi:r7 E h buf' l') (hn:¬ bU buf' id)
  (hk:∀ h',h'.length=h.length→Upd (· = id) h h'→iU P T E h' id off (cs.set o v) buf' l'→K h'):aP 1 (.p (some ⟨id,cs.length,o⟩)) v h K:=by
 have hl:=B.lt
 obtain ⟨b,t,h1,rfl,h3,h4,h5,h6⟩:=B.blk
 refine ⟨b,h1,h4,h3,rfl,(by show o+1≤b.cells.length; omega),hs,by rw [hv] <;> rfl,by rw [hv]; simp [hc], ?_⟩
 have hU:Upd (· = id) h (h.set id { b with cells:=wr b.cells o v.parts,floor:=b.cells.length }):=Upd.set _ _ _
 refine hk _ (by simp) hU ⟨⟨_,t,List.getElem?_set_self hl, ?_, ?_,h4,h5,by simpa using h6⟩,by simpa using B.room,by simpa using ha,hb,hi.upd hU fun i hi hid=>hn (hid ▸ hi),hn⟩
 ·rw [hv] <;> rfl
 ·simp
theorem iU.put {h3:aA} {v:AV} {l':List UInt8} {K:aA→Prop} (B:iU P T E h id off cs buf l) (U:Upd (bU buf) h h3) (hi:r7 E h3 v l') (hn:¬ bU v id)
  (hk:∀ h',h'.length=h3.length→Upd (· = id) h3 h'→iU P T E h' id off (cs.set (off+1) v) v l'→K h'):aP 1 (.p (some ⟨id,cs.length,off+1⟩)) v h3 K:=by
 have hl:=B.lt
 have hr:=B.room
 have hv:v.parts=[v]∧v.sizeOK=true∧v.cellOK=true:=by
  rcases hi with ⟨rfl,_⟩ | ⟨_,_,rfl,_⟩ <;> exact ⟨rfl,rfl,rfl⟩
 obtain ⟨b,t,h1,rfl,h3',h4,h5,h6⟩:=B.blk
 have g1:h3[id]? = some b:=(U.2 id hl B.own).trans h1
 refine ⟨b,g1,h4,h3',rfl,(by show off+1+1≤b.cells.length; omega),hv.2.1,by rw [hv.1] <;> rfl,by rw [hv.1]; simp [hv.2.2], ?_⟩
 have hU:Upd (· = id) h3 (h3.set id { b with cells:=wr b.cells (off+1) v.parts,floor:=b.cells.length }):=Upd.set _ _ _
 have e:wr b.cells (off+1) v.parts=b.cells.set (off+1) v:=by rw [hv.1] <;> rfl
 refine hk _ (by simp) hU ⟨⟨_,t,List.getElem?_set_self (bH g1),e, ?_,h4,h5,by simpa using h6⟩,by simpa using hr, ?_,List.getElem?_set_self hr,hi.upd hU fun i hi hid=>hn (hid ▸ hi),hn⟩
 ·simp
 ·rw [List.getElem?_set_ne (by omega),List.length_set]; exact B.addr
theorem sG {n o:Nat} {K:AV→Prop} (R:bC h id cs) (hn:n=cs.length) (ho:o<cs.length) (hk:K (.p (some ⟨id,n,o⟩))):j9 (.p (some ⟨id,n,o⟩)) h K:=by
 obtain ⟨b,h1,rfl,h3,h4⟩:=R
 subst hn
 exact ⟨b,h1,⟨h3,Nat.le_refl _,ho⟩,hk⟩
theorem iU.fromUnsafe {K:AV→Prop} (B:iU P T E h id off cs buf l) (hk:K (.p (some ⟨id,cs.length,off⟩))):gM P T (.p (some ⟨id,cs.length,off⟩)) h K:=by
 obtain ⟨b,t,h1,rfl,h3,h4,h5,h6⟩:=B.blk
 exact ⟨b,t,h1,h5,h3,rfl,h6,hk⟩
theorem aJ7 {t:TypeId} {K:AV→Prop} (ht:yM P t=true) (hk:K (.b true)):gD P .eql t (.p none) (.p none) K:=by
 simp only [gD,ht,cond_true]; exact hk
theorem aGK {t:TypeId} {a:AA} {K:AV→Prop} (ht:yM P t=true) (hk:K (.b false)):gD P .eql t (.p (some a)) (.p none) K:=by
 simp only [gD,ht,cond_true]; exact hk
theorem aG0 {t:TypeId} {a:AA} {K:AV→Prop} (ht:aEH P t=true) (hk:K (.b false)):gD P .neq t (.p (some a)) (.p (some a)) K:=by
 simp only [gD,ht,Nat.beq_refl,Bool.and_self,cond_true]; exact hk
def aKD (v:AV):AV:=match v with | .sl (some a) _ _=>.p (some a) | _=>.p none
theorem r7.data {v:AV} {l:List UInt8} {K:AV→aA→Prop} (B:r7 E h v l) (hk:K (aKD v) h):jH v h K:=by
 rcases B with ⟨rfl,rfl⟩ | ⟨id,b,rfl,h1,h2,h3,h4,h5,h6,h7,h8,h9⟩
 ·exact hk
 ·exact ⟨List.length_pos_iff.2 h9,hk⟩
theorem r7.text {v : AV} {l : List UInt8} {K : AV → aA → Prop} (B : r7 E h v l) (hE : P.underlying E = some (.int .u8)) (hc : P.cellsOf E = 1) (hl : l.length ≤ 9223372036854775807) (hk : ∀ h', h'.length = h.length → Upd (bU v) h h' → K (.s l) h') :
  nE P (aKD v) (.i .i64 (l.length:Int)) h K:=by
 rcases B with ⟨rfl,rfl⟩ | ⟨id,b,rfl,h1,h2,h3,h4,h5,h6,h7,h8,h9⟩
 ·exact ⟨rfl,hk _ rfl (Upd.refl _ _)⟩
 ·have hpos := List.length_pos_iff.2 h9
  have hbl:b.cells.length=l.length:=by rw [h2]; simp
  have e:(b.cells.drop 0).take l.length=l.map byteAV:=by rw [List.drop_zero,List.take_of_length_le (by omega),h2]
  refine ⟨b,E,h1,h8,hE,hc,by omega,by omega,h5,by omega,hbl.symm,by simp [hbl], ?_, ?_⟩
  ·simp only [Int.toNat_natCast, e]
   rw [List.all_eq_true]; intro x hx
   obtain ⟨c,_,rfl⟩:=List.mem_map.1 hx
   rfl
  ·simp only [Int.toNat_natCast, e]
   have:(l.map byteAV).map toByte=l:=by
    rw [List.map_map]
    conv=>rhs; rw [← List.map_id l]
    refine List.map_congr_left fun c _=>?_
    simp [byteAV,toByte]
   rw [this]
   exact hk _ (by simp) ((Upd.set _ _ _).mono fun i _ h=>h.symm)
end
end Go.GAM
namespace Go.GAM
abbrev mQ:=List AV→aA→(AV→aA→Prop)→Prop
def o5:mQ:=fun args h K=>∃ (l:List UInt8) (c:UInt8),args=[.s l,.i .u8 (c.toNat:Int)]∧K (.i .i64 (Lib.indexByte l c)) h
def aD1:mQ:=fun args h K=>∃ (l:List UInt8) (c:UInt8),args=[.s l,.i .u8 (c.toNat:Int)]∧K (.i .i64 (Lib.countByte l c:Nat)) h
def wV:mQ:=fun args h K=>match args with | []=>K (.tu []) h | _=>False
def uQ:mQ:=fun args h K=>match args with | [.p (some _)]=>K (.tu []) h | _=>False
def aKY (T:List (FuncId × mQ)):bT:=fun f args h K=>∃ X,(f,X)∈T∧X args h K
section
variable {P:Program} {w0:World} {Fz:Nat→Prop} {μ:Mu} {own:Nat→Option Nat} {h:aA} {w:World}
theorem yN {μ:Mu} {l:List UInt8} {n:Int} {cargs:List Value} (h:bO μ [.s l,.i .u8 n] cargs):∃ x:ByteArray,x.data.toList=l∧cargs=[.string x,.int .u8 n]:=by
 cases h with
 | cons _ _ _ _ a t =>
  cases t with
  | cons _ _ _ _ b t2 =>
   cases t2; cases b
   cases a with
   | s _ x hx=>exact ⟨x,hx,rfl⟩
theorem xR:nQ P Extern.BytealgIndexByte.indexByte o5:=by
 rintro w0 Fz μ own h w args cargs K R hc ⟨l,c,rfl,hk⟩
 obtain ⟨x,rfl,rfl⟩:=yN hc
 refine ⟨_,w,Lib.run_indexByteString x c.toNat w,_,μ,own,h, ?_,.i _ _,R,Sub.refl _⟩
 have:((c.toNat:Int).toNat).toUInt8=c:=by simp
 rw [this]; exact hk
theorem aGP:nQ P Extern.BytealgCount.count aD1:=by
 rintro w0 Fz μ own h w args cargs K R hc ⟨l,c,rfl,hk⟩
 obtain ⟨x,rfl,rfl⟩:=yN hc
 refine ⟨_,w,Lib.run_countString x c.toNat w,_,μ,own,h, ?_,.i _ _,R,Sub.refl _⟩
 have:((c.toNat:Int).toNat).toUInt8=c:=by simp
 rw [this]; exact hk
def aPW (P:Program) (r:FuncId × mQ):Prop:=r.1<yid0∧∃ ex,aKN P r.1 ex∧nQ P ex r.2
theorem aD8 {T:List (FuncId × mQ)} (hT:∀ r∈T,aPW P r):qM P (aKY T):=by
 rintro w0 Fz μb f args h K ⟨X,hm,hk⟩
 obtain ⟨hlt,ex,hA,hE⟩:=hT _ hm
 exact hA.sim hE hlt hk
theorem aJY {T:List (FuncId × mQ)} {X:mQ} {f:FuncId} {args:List AV} {K:AV→aA→Prop} (hm:(f,X)∈T) (hk:X args h K):aKY T f args h K:=⟨X,hm,hk⟩
theorem aP1 {P:Program} {R:bT} {t:TypeId} {v:AV} {name:String} {f:FuncId} {args:List AV} {K:AV→aA→Prop} (hf:aJ0 P t name=some f) (hlt:Nat.blt f yid0=true) (hk:R f (v :: args) h K):oG P R (.ifc t v) name args h K:=by
 simp only [oG,hf]
 unfold mY
 rw [hlt]; exact hk
end
open Go.RowKit in
theorem aDA {P:Program} {X:bT} (hm:P.follows .mixedOrders=true) (hsz:P.funcs.size≤yid0) {w:World} (hX:dJ P w (fun B=>B<w.heap.size) (fun _ _=>none) X) {f:FuncId} (hb:kK P f=true) {szOf:Nat→Nat} {avs:List AV} {args:Array Value}
  (hv:bO (muC w szOf) avs args.toList) (hk:gX P X f avs (kD w szOf) Yes):Calls P f args w fun e w'=>e = .returned (.bool true)∧Below w.heap.size w w':=by
 have hlt:f<yid0:=by
  unfold kK at hb
  split at hb
  ·rename_i fn hf; exact Nat.lt_of_lt_of_le (Array.getElem?_eq_some_iff.1 hf).1 hsz
  ·cases hb
 have hs:=oW hm hsz hX f avs _ _ hk (muC w szOf) (aKU w) w args.toList (fun _ _ _ h=>by cases h) (aH9 w szOf) hv
 rw [if_pos hlt] at hs
 have hrun:=pB hb args w
 rcases hs with ⟨g,as',h1,h2⟩ | ⟨v,w',h1,h2⟩
 ·rw [Array.toArray_toList, hrun] at h1
  cases h1
  refine h2.mono fun e w' ⟨v,he,v',μ',own',h',g1,g2,g3,g4⟩=>?_
  subst he
  have g1:v' = .b true:=g1
  subst g1
  cases g2
  exact ⟨rfl,g3.os,g3.tape,g3.output,g3.size0,fun k hk=>(g3.fz k hk).2⟩
 ·rw [Array.toArray_toList,hrun] at h1; cases h1
end Go.GAM
set_option maxRecDepth 20000
namespace Go.Proofs.YtcdkpkkdolmfdaaGreatDoor
open Go.GAM
theorem mixedOK:prog.follows .mixedOrders=true:=by kernel_rfl
theorem sizeOK:prog.funcs.size≤yid0:=Nat.le_of_ble_eq_true (by kernel_rfl)
noncomputable def vO (f:FuncId):Func:=(prog.funcs[f]?).getD default
def fY:List (FuncId × mQ):=[(Y107.id,o5),(Y108.id,aD1),(Y110.id,aC7),(Y106.id,wV),(Y105.id,wV),(Y114.id,uQ),(Y116.id,uQ),(Y112.id,aEZ .u32),(Y109.id,zH .u32),(Y115.id,aLD .i32),(Y111.id,aK8 .i32)]
theorem aMN:∀ r∈fY,aPW prog r:=by
 intro r hr
 simp only [fY,List.mem_cons,List.not_mem_nil,or_false] at hr
 rcases hr with rfl | rfl | rfl | rfl | rfl | rfl | rfl | rfl | rfl | rfl | rfl
 ·exact ⟨by decide,_,⟨⟨vO Y107.id,by kernel_rfl,by kernel_rfl,by kernel_rfl,by kernel_rfl,by kernel_rfl⟩⟩,xR⟩
 ·exact ⟨by decide,_,⟨⟨vO Y108.id,by kernel_rfl,by kernel_rfl,by kernel_rfl,by kernel_rfl,by kernel_rfl⟩⟩,aGP⟩
 ·exact ⟨by decide,_,⟨⟨vO Y110.id,by kernel_rfl,by kernel_rfl,by kernel_rfl,by kernel_rfl,by kernel_rfl⟩⟩,aIH⟩
 ·exact ⟨by decide,_,⟨⟨vO Y106.id,by kernel_rfl,by kernel_rfl,by kernel_rfl,by kernel_rfl,by kernel_rfl⟩⟩,yV .disable⟩
 ·exact ⟨by decide,_,⟨⟨vO Y105.id,by kernel_rfl,by kernel_rfl,by kernel_rfl,by kernel_rfl,by kernel_rfl⟩⟩,yV .enable⟩
 ·exact ⟨by decide,_,⟨⟨vO Y114.id,by kernel_rfl,by kernel_rfl,by kernel_rfl,by kernel_rfl,by kernel_rfl⟩⟩,vG .acquire⟩
 ·exact ⟨by decide,_,⟨⟨vO Y116.id,by kernel_rfl,by kernel_rfl,by kernel_rfl,by kernel_rfl,by kernel_rfl⟩⟩,vG .releaseMerge⟩
 ·exact ⟨by decide,_,⟨⟨vO Y112.id,by kernel_rfl,by kernel_rfl,by kernel_rfl,by kernel_rfl,by kernel_rfl⟩⟩,aIL .u32⟩
 ·exact ⟨by decide,_,⟨⟨vO Y109.id,by kernel_rfl,by kernel_rfl,by kernel_rfl,by kernel_rfl,by kernel_rfl⟩⟩,aHE .u32⟩
 ·exact ⟨by decide,_,⟨⟨vO Y115.id,by kernel_rfl,by kernel_rfl,by kernel_rfl,by kernel_rfl,by kernel_rfl⟩⟩,aM0 .i32⟩
 ·exact ⟨by decide,_,⟨⟨vO Y111.id,by kernel_rfl,by kernel_rfl,by kernel_rfl,by kernel_rfl,by kernel_rfl⟩⟩,aL6 .i32⟩
theorem vD:qM prog (aKY fY):=aD8 aMN
theorem Y107.row:(Y107.id,o5)∈fY:=by simp only [fY,List.mem_cons,true_or,or_true]
theorem Y108.row:(Y108.id,aD1)∈fY:=by simp only [fY,List.mem_cons,true_or,or_true]
theorem Y110.row:(Y110.id,aC7)∈fY:=by simp only [fY,List.mem_cons,true_or,or_true]
theorem Y106.row:(Y106.id,wV)∈fY:=by simp only [fY,List.mem_cons,true_or,or_true]
theorem Y105.row:(Y105.id,wV)∈fY:=by simp only [fY,List.mem_cons,true_or,or_true]
theorem Y114.row:(Y114.id,uQ)∈fY:=by simp only [fY,List.mem_cons,true_or,or_true]
theorem Y116.row:(Y116.id,uQ)∈fY:=by simp only [fY,List.mem_cons,true_or,or_true]
theorem Y112.row:(Y112.id,aEZ .u32)∈fY:=by simp only [fY,List.mem_cons,true_or,or_true]
theorem Y109.row:(Y109.id,zH .u32)∈fY:=by simp only [fY,List.mem_cons,true_or,or_true]
theorem Y115.row:(Y115.id,aLD .i32)∈fY:=by simp only [fY,List.mem_cons,true_or,or_true]
theorem Y111.row:(Y111.id,aK8 .i32)∈fY:=by simp only [fY,List.mem_cons,true_or,or_true]
end Go.Proofs.YtcdkpkkdolmfdaaGreatDoor
namespace Go.Proofs.YtcdkpkkdolmfdaaGreatDoor
open Go.GAM
@[reducible] def xr0:XR:=⟨aKY fY⟩
section
attribute [local instance] xr0
variable {h:aA} {Q:AV→aA→Prop}
theorem yL {f:FuncId} {X:mQ} {args:List AV} (hm:(f,X)∈fY) (hk:X args h Q):C f args h Q:=rG (aJY hm hk)
theorem tX {f:FuncId} (hm:(f,wV)∈fY) (hk:Q (.tu []) h):C f [] h Q:=yL hm hk
theorem aF8 {f:FuncId} {a:AA} (hm:(f,uQ)∈fY) (hk:Q (.tu []) h):C f [.p (some a)] h Q:=yL hm hk
theorem aAA {k:IntKind} {h:aA} {id n o:Nat} {cs:List AV} {m:Int} {K:Int→Prop} (R:bC h id cs) (hn:n=cs.length) (hc:cs[o]? = some (.i k m)) (hk:K m):yZ k (.p (some ⟨id,n,o⟩)) h K:=
 aM R hn hc (aQ hk)
theorem aMZ {id o n:Nat} {cs:List AV} (R:bC h id cs) (hn:n=cs.length) (hc:cs[o]? = some (.i .i32 0)) (hq:∀ h',h'.length=h.length→Upd (· = id) h h'→bC h' id (cs.set o (.i .i32 1))→Q (.tu []) h') :
  C Y95.id [.p (some ⟨id,n,o⟩)] h Q:=by
 have ho:=bH hc
 refine Y95.call ?_
 simp only [Y95.t]
 refine bI (aK ?_)
 refine Y102.call ?_
 simp only [Y102.t]
 refine tX Y106.row ?_
 refine bI (aK ?_)
 refine yL Y115.row ⟨rfl,rfl,aAA R hn hc ⟨rfl, ?_⟩⟩
 refine b7 R hn ho rfl rfl rfl fun h1 hl1 U1 R1=>?_
 refine aS (aO rfl (tX Y105.row ?_))
 refine sG R1 (by simpa using hn) (by simpa using ho) (aF8 Y114.row ?_)
 exact .inl (.inl (hq h1 hl1 U1 R1))
theorem aDU {id o n:Nat} {cs:List AV} (R:bC h id cs) (hn:n=cs.length) (hc:cs[o]? = some (.i .i32 1)) (hq:∀ h',h'.length=h.length→Upd (· = id) h h'→bC h' id (cs.set o (.i .i32 0))→Q (.tu []) h') :
  aF prog C Y68.id [.p (some ⟨id,n,o⟩)] h Q:=by
 have ho:=bH hc
 refine Y68.callF ?_
 simp only [Y68.t]
 refine bI (aK ?_)
 refine Y67.call ?_
 simp only [Y67.t, ← Y67.p0.eq_1]
 refine bI (aK (aM R hn hc (aQ ?_)))
 refine sG R hn ho (aF8 Y116.row (tX Y106.row ?_))
 refine bI (aK ?_)
 refine yL Y111.row ⟨rfl,aAA R hn hc ?_⟩
 have hw:IntKind.wrap .i32 (1 + -1)=0:=by decide
 rw [hw]
 refine b7 R hn ho rfl rfl rfl fun h1 hl1 U1 R1=>?_
 refine aQ (aN rfl ?_)
 refine Y67.i0 ?_
 simp only [Y67.t0]
 refine tX Y105.row ?_
 exact .inl (.inl (hq h1 hl1 U1 R1))
theorem aE7 {id o n:Nat} {cs:List AV} {m:Int} (R:bC h id cs) (hn:n=cs.length) (hc:cs[o]? = some (.i .u32 m)) (hq:Q (.b (!decide (m=0))) h) :
  C Y78.id [.p (some ⟨id,n,o⟩)] h Q:=by
 refine Y78.call ?_
 simp only [Y78.t]
 refine bI (aK ?_)
 exact yL Y112.row (aAA R hn hc (aQ (.inl hq)))
theorem aGF {id o n:Nat} {cs:List AV} {m:Int} (R:bC h id cs) (hn:n=cs.length) (hc:cs[o]? = some (.i .u32 m)) (hq:∀ h',h'.length=h.length→Upd (· = id) h h'→bC h' id (cs.set o (.i .u32 1))→Q (.tu []) h') :
  aF prog C Y69.id [.p (some ⟨id,n,o⟩),.b true] h Q:=by
 have ho:=bH hc
 refine Y69.callF ?_
 simp only [Y69.t]
 refine bI (aK ?_)
 refine Y101.call ?_
 simp only [Y101.t]
 refine aO rfl (.inl (aQ ?_))
 refine yL Y109.row ⟨rfl, ?_⟩
 refine b7 R hn ho rfl rfl rfl fun h1 hl1 U1 R1=>?_
 exact .inl (hq h1 hl1 U1 R1)
def fQ:List UInt8→List (List UInt8)
 | []=>[]
 | c :: r=>[c] :: [92,c] :: fQ r
theorem wH:∀ l,(fQ l).length=2 * l.length
 | []=>rfl
 | c :: r=>by simp only [fQ,List.length_cons,wH r]; omega
theorem oB:∀ (l:List UInt8) (i:Nat) (c:UInt8),l[i]? = some c→(fQ l)[2 * i]? = some [c]∧(fQ l)[2 * i+1]? = some [92,c]
 | [],i,c,h=>by simp at h
 | d :: r,0,c,h=>by simp at h; subst h; exact ⟨rfl,rfl⟩
 | d :: r, i + 1, c, h => by
  have:=oB r i c (by simpa using h)
  rw [show 2 * (i+1)=2 * i+1+1 by omega]
  simpa [fQ] using this
theorem zY {zeros cs:List AV} {parts:List (Nat × Nat × AV)} {K:AV→Prop} (hf:fJ zeros parts=some cs) (hk:K (.ag cs)):iC zeros parts K:=by
 unfold iC; rw [hf]; exact hk
theorem aCL {h:aA} {l:List UInt8} {K:AV→aA→Prop} (hk:∀ h',h'.length=h.length+1→Upd (fun _=>False) h h'→Byt h' (.sl (some ⟨h.length,l.length,0⟩) l.length none) l→K (.sl (some ⟨h.length,l.length,0⟩) l.length none) h'):fM (.s l) h K:=
 hk _ (by simp) (Upd.app _ _) (.inr ⟨h.length,l.length,0,none,bP (l.map byteAV) 1 false,rfl,by simp,.inl rfl,by simp [bP],by simp [bP],by simp,by simp [bP]; exact List.take_of_length_le (by simp)⟩)
def xD (h:aA) (id n:Nat) (l:List AV) (v:AV):Prop:=
 v = .sl (some ⟨id,n,0⟩) l.length none∧∃ b,h[id]? = some b∧b.cells.length=n∧b.cells.take l.length=l∧b.sz=1∧b.floor≤n∧b.ro=false∧l.length≤n
theorem xD.upd {M:Nat→Prop} {h h':aA} {id n:Nat} {l:List AV} {v:AV} (A:xD h id n l v) (U:Upd M h h') (hM:¬ M id):xD h' id n l v:=by
 obtain ⟨e,b,h1,h2⟩:=A
 exact ⟨e,b,(U.2 id (bH h1) hM).trans h1,h2⟩
theorem xD.rd {h:aA} {id n:Nat} {l:List AV} {v:AV} (A:xD h id n l v):Rd 1 h v l l.length:=by
 obtain ⟨rfl,b,h1,h2,h3,h4,h5,h6,h7⟩:=A
 exact .inr ⟨id,n,0,none,b,rfl,h1,.inl h4,h5,by omega,by omega,by rw [List.drop_zero,Nat.mul_one]; exact h3⟩
theorem xD.push {h:aA} {id n bytes:Nat} {l:List AV} {v y a:AV} {ty:Option TypeId} (A:xD h id n l v) (R:Rd 1 h y [a] 1) (ha:a.cellOK=true) (hr:l.length<n) (hb:(l.length+1) * bytes≤140737488355328) (hn:n≤1000000) {K:AV→aA→Prop}
  (hk:∀ v' h',h'.length=h.length→Upd (· = id) h h'→xD h' id n (l++[a]) v'→K v' h'):bQ ty 1 bytes v y h K:=by
 refine ⟨by decide,R.news ?_⟩
 obtain ⟨rfl,b,h1,h2,h3,h4,h5,h6,h7⟩:=A
 have hl:=bH h1
 refine ⟨hb,by omega,b,h1,h4,⟨h5,by show n≤_; omega,by show 0+l.length * 1≤n; omega⟩, ?_⟩
 right; right; left
 refine ⟨by decide,h6,h2.symm,by show 0+(l.length+1) * 1≤_; omega,.inl rfl,by simp [ha], ?_⟩
 refine hk _ _ (by simp) (Upd.set _ _ _) ⟨by simp,_,List.getElem?_set_self hl, ?_, ?_,h4, ?_,h6,by simp; omega⟩
 ·simp [wr,h2]
 ·show (wr b.cells (0 + l.length * 1) [a]).take (l ++ [a]).length = l ++ [a]
  simp only [wr,Nat.zero_add,Nat.mul_one]
  have hlt:l.length<b.cells.length:=by omega
  rw [List.length_append,List.length_singleton,List.take_succ_eq_append_getElem (by simpa using hlt),List.take_set_of_le (Nat.le_refl _),h3]
  simp
 ·show b.cells.length ≤ n
  omega
structure gS (lo:Nat) (h:aA) (id:Nat) (sp:List UInt8):Prop where
 new:lo≤id
 cells:∃ cs tr,bC h id cs∧cs.length=257∧cs[256]? = some tr∧Rd 1 h tr (sp.reverse.map fun c=>.s [c]) sp.length∧(∀ i,bU tr i→lo≤i) ∧
  (∀ c:UInt8,c ∉ sp→cs[c.toNat]? = some (.sl none 0 none))∧∀ c:UInt8,c∈sp→∃ a,cs[c.toNat]? = some (.sl (some a) 2 none)∧Byt h (.sl (some a) 2 none) [92,c]∧lo≤a.id
theorem gS.upd {lo:Nat} {h h':aA} {id:Nat} {sp:List UInt8} {M:Nat→Prop} (R:gS lo h id sp) (U:Upd M h h') (hM:∀ i,lo≤i→¬ M i):gS lo h' id sp:=by
 obtain ⟨cs,tr,h1,h2,h3,h4,h5,h6,h7⟩:=R.cells
 refine ⟨R.new,cs,tr,h1.upd U (hM _ R.new),h2,h3,h4.upd U fun i hi=>hM i (h5 i hi),h5,h6,fun c hc=>?_⟩
 obtain ⟨a,g1,g2,g3⟩:=h7 c hc
 exact ⟨a,g1,g2.upd U fun i hi=>hM i (by have hi:a.id=i:=hi; omega),g3⟩
theorem gS.low {lo lo':Nat} {h:aA} {id:Nat} {sp:List UInt8} (R:gS lo h id sp) (hl:lo'≤lo):gS lo' h id sp:=by
 obtain ⟨cs,tr,h1,h2,h3,h4,h5,h6,h7⟩:=R.cells
 refine ⟨Nat.le_trans hl R.new,cs,tr,h1,h2,h3,h4,fun i hi=>Nat.le_trans hl (h5 i hi),h6,fun c hc=>?_⟩
 obtain ⟨a,g1,g2,g3⟩:=h7 c hc
 exact ⟨a,g1,g2,Nat.le_trans hl g3⟩
structure BSt (h0 h:aA) (idR idT:Nat) (sp:List UInt8) (j:Nat):Prop where
 upd:Upd (fun _=>False) h0 h
 newR:h0.length≤idR
 newT:h0.length≤idT
 ne:idR≠idT
 cells:∃ cs tr,bC h idR cs∧cs.length=257∧cs[256]? = some tr∧xD h idT sp.length ((sp.drop j).reverse.map fun c=>.s [c]) tr ∧
  (∀ c:UInt8,c ∉ sp.drop j→cs[c.toNat]? = some (.sl none 0 none))∧∀ c:UInt8,c∈sp.drop j→∃ a,cs[c.toNat]? = some (.sl (some a) 2 none)∧Byt h (.sl (some a) 2 none) [92,c]∧a.id≠idR∧a.id≠idT∧h0.length≤a.id
theorem BSt.rep {h0 h:aA} {idR idT:Nat} {sp:List UInt8} (B:BSt h0 h idR idT sp 0):gS h0.length h idR sp:=by
 obtain ⟨cs,tr,h1,h2,h3,h4,h5,h6⟩:=B.cells
 rw [List.drop_zero] at h4 h5 h6
 refine ⟨B.newR,cs,tr,h1,h2,h3,by simpa using h4.rd,fun i hi=>?_,h5,fun c hc=>?_⟩
 ·obtain ⟨rfl, _⟩ := h4
  have hi:idT=i:=hi
  have:=B.newT; omega
 obtain ⟨a,g1,g2,_,_,g5⟩:=h6 c hc
 exact ⟨a,g1,g2,g5⟩
theorem aKP {h0 : aA} {v : AV} {idR idT : Nat} {sp : List UInt8} (hnd : sp.Nodup) (hlen : sp.length ≤ 100) (hv : Rd 1 h0 v ((fQ sp).map .s) (2 * sp.length)) (hvn : ∀ i, bU v i → i < h0.length)
  (hq:∀ h',Upd (fun _=>False) h0 h'→h0.length≤idR→gS h0.length h' idR sp→Q (.ifc 179 (.p (some ⟨idR,257,0⟩))) h') :
  ∀ (j:Nat) (h:aA),j≤sp.length→BSt h0 h idR idT sp j→Y11.p5 (aL h0 Q) v (.p (some ⟨idR,257,0⟩)) (2 * (j:Int) - 2) h:=by
 intro j
 induction j with
 | zero =>
  intro h hj B
  refine Y11.i5 ?_
  simp only [Y11.t5]
  exact aN (by decide) (.inl (hq h B.upd B.newR B.rep))
 | succ j ih =>
  intro h hj B
  refine Y11.i5 ?_
  simp only [Y11.t5, ← Y11.p5.eq_1, ← Y11.p6.eq_1]
  obtain ⟨c,hc⟩:∃ c,sp[j]? = some c:=⟨sp[j],List.getElem?_eq_getElem (by omega)⟩
  obtain ⟨e1,e2⟩:=oB sp j c hc
  have e0:(2 * ((j+1:Nat):Int) - 2)=((2 * j:Nat):Int):=by omega
  rw [e0]
  have hdrop:sp.drop j=c :: sp.drop (j+1):=eR hc
  have hcn:c ∉ sp.drop (j+1):=by
   have:=(List.drop_sublist j sp).nodup hnd
   rw [hdrop] at this
   exact (List.nodup_cons.1 this).1
  have V:Rd 1 h v ((fQ sp).map .s) (2 * sp.length):=hv.upd B.upd fun _ _ h=>h
  obtain ⟨cs,tr,R,hcl,htr,T,hno,hyes⟩:=B.cells
  have hc256:c.toNat<256:=c.toNat_lt
  refine aO (decide_eq_true (by omega)) ?_
  refine V.cell (by decide) (by omega) (by rw [Nat.mul_one,List.getElem?_map,e1] <;> rfl) (bA ?_)
  refine cS (i:=0) (c:=c) (r:=[]) rfl ?_
  refine aI (show IntKind.wrap .i64 (((2 * j:Nat):Int)+1)=((2 * j+1:Nat):Int) by rw [aJ (by omega) (by omega)]; omega) ?_
  refine V.cell (by decide) (by omega) (by rw [Nat.mul_one,List.getElem?_map,e2] <;> rfl) (bA ?_)
  refine aK ⟨by omega,by omega, ?_⟩
  simp only [Int.toNat_natCast,Nat.zero_add,Nat.mul_one]
  refine aM R hcl.symm (hno c hcn) ?_
  simp only [gD]
  refine aO (by kernel_rfl) ?_
  simp only [fH]
  refine aS (aO rfl ?_)
  refine aK (aM R hcl.symm htr ?_)
  refine eQ (cs:=[byteAV c]) rfl rfl fun y1 h1 hl1 U1 R1 F1=>?_
  refine Byt.str (l:=[c]) R1 ?_
  refine eQ (cs:=[.s [c]]) rfl rfl fun y2 h2 hl2 U2 R2 F2=>?_
  have U02:Upd (fun _=>False) h h2:=U1.trans U2 fun _ _ h=>h
  have hlT:((sp.drop (j+1)).reverse.map fun c=>AV.s [c]).length=sp.length - (j+1):=by simp
  refine (T.upd U02 fun h=>h).push R2 rfl (by rw [hlT]; omega) (by rw [hlT]; omega) (by omega) fun v3 h3 hl3 U3 T3=>?_
  have hTlt:idT<h.length:=by obtain ⟨_,b,hb,_⟩:=T; exact bH hb
  have hRlt:=R.lt
  have R3:bC h3 idR cs:=(R.upd U02 fun h=>h).upd U3 B.ne
  refine aK (b7 R3 hcl.symm (by omega) (by obtain ⟨e,_⟩:=T3; rw [e] <;> rfl) (by obtain ⟨e,_⟩:=T3; rw [e] <;> rfl) (by obtain ⟨e,_⟩:=T3; rw [e] <;> rfl) fun h4 hl4 U4 R4=>?_)
  refine Y11.i6 ?_
  simp only [Y11.t6, ← Y11.p5.eq_1]
  refine aCL fun h5 hl5 U5 X5=>?_
  refine aK ⟨by omega,by omega, ?_⟩
  simp only [Int.toNat_natCast,Nat.zero_add,Nat.mul_one]
  have R5:=R4.upd U5 fun h=>h
  refine b7 R5 (by rw [List.length_set,hcl]) (by rw [List.length_set,hcl]; omega) rfl rfl rfl fun h6 hl6 U6 R6=>?_
  have e6:(2 * j:Nat)=(2 * (j:Int)):=by omega
  refine aI (show IntKind.wrap .i64 (((2 * j:Nat):Int) - 2)=2 * (j:Int) - 2 by rw [aJ (by omega) (by omega)]; omega) ?_
  have U04:Upd (fun i=>i=idT∨i=idR) h h4:=((U02.mono fun _ _ h=>h.elim).trans (U3.mono fun _ _ h=>.inl h) fun _ _ h=>h).trans (U4.mono fun _ _ h=>.inr h) fun _ _ h=>h
  have U06:Upd (fun i=>i=idT∨i=idR) h h6:=(U04.trans (U5.mono fun _ _ h=>h.elim) fun _ _ h=>h).trans (U6.mono fun _ _ h=>.inr h) fun _ _ h=>h
  have h46:h4.length≤h6.length:=by omega
  refine ih h6 (by omega) ⟨B.upd.trans U06 fun i hi hm=>by have:=B.newR; have:=B.newT; rcases hm with rfl | rfl <;> omega,B.newR,B.newT,B.ne,_,v3,R6,by rw [List.length_set,List.length_set,hcl], ?_, ?_, ?_, ?_⟩
  ·rw [List.getElem?_set_ne (by omega),List.getElem?_set_self (by omega)]
  ·rw [hdrop]
   have T4:=((T3.upd U4 fun h=>B.ne h.symm).upd U5 fun h=>h).upd U6 fun h=>B.ne h.symm
   simpa using T4
  ·intro d hd
   rw [hdrop,List.mem_cons,not_or] at hd
   have hne:c.toNat≠d.toNat:=fun e=>hd.1 (UInt8.toNat_inj.1 e.symm)
   have:=d.toNat_lt
   rw [List.getElem?_set_ne hne,List.getElem?_set_ne (by omega)]
   exact hno d hd.2
  ·intro d hd
   rw [hdrop,List.mem_cons] at hd
   by_cases hdc:d=c
   ·subst hdc
    have hU:=B.upd.1
    refine ⟨⟨h4.length,2,0⟩, ?_, ?_, ?_, ?_,by show h0.length≤h4.length; omega⟩
    ·rw [List.getElem?_set_self (by rw [List.length_set,hcl]; omega)] <;> rfl
    ·exact X5.upd U6 fun i hi e=>by have hi:h4.length=i:=hi; omega
    ·show h4.length≠idR; omega
    ·show h4.length≠idT; omega
   ·have hd' := hd.resolve_left hdc
    obtain ⟨a,g1,g2,g3,g4,g5⟩:=hyes d hd'
    have hne:c.toNat≠d.toNat:=fun e=>hdc (UInt8.toNat_inj.1 e.symm)
    have:=d.toNat_lt
    refine ⟨a,by rw [List.getElem?_set_ne hne,List.getElem?_set_ne (by omega)]; exact g1,g2.upd U06 fun i hi=>?_,g3,g4,g5⟩
    cases hi
    exact fun h=>h.elim g4 g3
def aCE:List AV:=List.replicate 256 (.sl none 0 none)
theorem aJM {h:aA} {v:AV} {sp:List UInt8} (hnd:sp.Nodup) (hlen:sp.length≤100) (hpos:0<sp.length) (hv:Rd 1 h v ((fQ sp).map .s) (2 * sp.length))
  (hq:∀ id h',Upd (fun _=>False) h h'→h.length≤id→gS h.length h' id sp→Q (.ifc 179 (.p (some ⟨id,257,0⟩))) h') :
  ∀ (k j:Nat) (x4:Bool),j+k=sp.length→(k=0→x4=false)→Y11.p1 (aL h Q) v x4 (2 * (j:Int)) h:=by
 intro k
 induction k with
 | zero =>
  intro j x4 hj hx
  refine Y11.i1 ?_
  simp only [Y11.t1, ← Y11.p5.eq_1]
  refine hv.len (aN (decide_eq_false (by omega)) ?_)
  rw [hx rfl]
  refine aN rfl (hv.len ?_)
  refine zG (n:=(sp.length:Int)) (by decide) (by rw [show ((2 * sp.length:Nat):Int)=(sp.length:Int) * 2 by omega,Int.mul_tdiv_cancel _ (by decide)]; exact aJ (by omega) (by omega)) ?_
  refine ⟨by omega,by omega,by omega,by omega,rfl,by decide, ?_⟩
  have hUT:Upd (fun _=>False) h (h++[bP (List.replicate (sp.length:Int).toNat [AV.s []]).flatten 1 true]):=Upd.app _ _
  have hTc:xD (h++[bP (List.replicate (sp.length:Int).toNat [AV.s []]).flatten 1 true]) h.length sp.length [] (.sl (some ⟨h.length,(sp.length:Int).toNat * 1,0⟩) (0:Int).toNat none):=by
   refine ⟨by simp,bP (List.replicate (sp.length:Int).toNat [AV.s []]).flatten 1 true,by simp,by simp [bP],rfl,rfl,by simp [bP],rfl,by simp⟩
  generalize h++[bP (List.replicate (sp.length:Int).toNat [AV.s []]).flatten 1 true]=hT at *
  generalize (AV.sl (some ⟨h.length,(sp.length:Int).toNat * 1,0⟩) (0:Int).toNat none)=vT at *
  have hvT:vT.parts=[vT]∧vT.sizeOK=true∧vT.cellOK=true:=by obtain ⟨e,_⟩:=hTc; rw [e]; exact ⟨rfl,rfl,rfl⟩
  have hTlt:h.length<hT.length:=by obtain ⟨_,b,hb,_⟩:=hTc; exact bH hb
  refine zY (cs:=aCE++[vT]) (by obtain ⟨e,_⟩:=hTc; subst e; rfl) ?_
  refine bR fun h1 hl1 U1 R1=>?_
  have T1:=hTc.upd U1 fun h=>h
  refine aW R1 rfl (by simp [aCE]) (by simp [aCE,hvT.2.2]; rfl) fun h2 hl2 U2 R2=>?_
  refine hv.upd (hUT.trans U1 fun _ _ h=>h) (fun _ _ h=>h) |>.upd U2 (fun i hi e=>by have:=hv.lt hi; omega) |>.len ?_
  refine aI (show IntKind.wrap .i64 (((2 * sp.length:Nat):Int) - 2)=2 * (sp.length:Int) - 2 by rw [aJ (by omega) (by omega)]; omega) ?_
  have U2':Upd (fun _=>False) h h2:=(hUT.trans U1 fun _ _ h=>h).trans U2 fun i hi e=>by omega
  refine aKP hnd hlen hv (fun i hi=>hv.lt hi) (idR:=hT.length) (idT:=h.length) (fun h' U hn R=>hq _ h' U hn R) sp.length h2 (Nat.le_refl _) ⟨U2',by omega,Nat.le_refl _,by omega,aCE++[vT],vT,R2,by simp [aCE],by simp [aCE], ?_, ?_, ?_⟩
  ·rw [List.drop_length]
   exact T1.upd U2 (by omega)
  ·intro c _
   have:=c.toNat_lt
   rw [List.getElem?_append_left (by simp [aCE]; omega)]
   unfold aCE
   rw [List.getElem?_replicate,if_pos this]
  ·intro c hc
   rw [List.drop_length] at hc
   cases hc
 | succ k ih =>
  intro j x4 hj hx
  refine Y11.i1 ?_
  simp only [Y11.t1, ← Y11.p2.eq_1]
  obtain ⟨c,hc⟩:∃ c,sp[j]? = some c:=⟨sp[j],List.getElem?_eq_getElem (by omega)⟩
  obtain ⟨e1,e2⟩:=oB sp j c hc
  refine hv.len (aO (decide_eq_true (by omega)) ?_)
  have e0:(2 * (j:Int))=((2 * j:Nat):Int):=by omega
  rw [e0]
  refine hv.cell (by decide) (by omega) (by rw [Nat.mul_one,List.getElem?_map,e1] <;> rfl) (bA ?_)
  refine aN rfl ?_
  refine aI (show IntKind.wrap .i64 (((2 * j:Nat):Int)+1)=((2 * j+1:Nat):Int) by rw [aJ (by omega) (by omega)]; omega) ?_
  refine hv.cell (by decide) (by omega) (by rw [Nat.mul_one,List.getElem?_map,e2] <;> rfl) (bA ?_)
  refine aO rfl ?_
  refine Y11.i2 ?_
  simp only [Y11.t2, ← Y11.p1.eq_1]
  refine aI (show IntKind.wrap .i64 (((2 * j:Nat):Int)+2)=2 * ((j+1:Nat):Int) by rw [aJ (by omega) (by omega)]; omega) ?_
  exact ih (j+1) false (by omega) fun _=>rfl
theorem aMG {id:Nat} {cs:List AV} {v:AV} {sp:List UInt8} (hnd:sp.Nodup) (hlen:sp.length≤100) (hpos:2≤sp.length) (R:bC h id cs) (hcl:cs.length=5) (hc:cs[4]? = some v) (hv:Rd 1 h v ((fQ sp).map .s) (2 * sp.length))
  (hq:∀ id h',Upd (fun _=>False) h h'→h.length≤id→gS h.length h' id sp→Q (.ifc 179 (.p (some ⟨id,257,0⟩))) h'):C Y11.id [.p (some ⟨id,5,0⟩)] h Q:=by
 refine Y11.call ?_
 simp only [Y11.t, ← Y11.p0.eq_1]
 refine bI (aK (aM R hcl.symm hc (hv.len ?_)))
 refine aN (decide_eq_false (by omega)) ?_
 refine Y11.i0 ?_
 simp only [Y11.t0, ← Y11.p1.eq_1]
 refine aN rfl ?_
 exact aJM hnd hlen (by omega) hv hq sp.length 0 true (by omega) (by omega)
structure aET (h:aA) (id:Nat) (sp:List UInt8):Prop where
 is:∃ v,bC h id [.i .u32 0,.i .i32 0,.i .u32 0,.ni,v]∧Rd 1 h v ((fQ sp).map .s) (2 * sp.length)∧¬ bU v id
def aFP (h:aA) (id:Nat) (sp:List UInt8):Prop:=∃ idR,bC h id [.i .u32 1,.i .i32 0,.i .u32 0,.ifc 179 (.p (some ⟨idR,257,0⟩)),.sl none 0 none]∧gS (id+1) h idR sp
theorem aKL {id:Nat} {sp:List UInt8} (hnd:sp.Nodup) (hlen:sp.length≤100) (hpos:2≤sp.length) (N:aET h id sp) (hq:∀ h',Upd (· = id) h h'→aFP h' id sp→Q (.tu []) h') :
  aFD prog C Y76.id [.p (some ⟨id,5,0⟩),.fn (.func Y92.id) [.p (some ⟨id,5,0⟩)] []] h Q:=by
 obtain ⟨v,R,hv,hvn⟩:=N.is
 refine Y76.callD ?_
 simp only [Y76.tD]
 refine bI (aK ?_)
 refine aMZ R rfl rfl fun h1 hl1 U1 R1=>?_
 refine bI (aK (bI (aK ?_)))
 refine aE7 R1 rfl rfl (aS (aO rfl ?_))
 refine bI (aK ?_)
 refine f6 (by decide) ?_
 refine Y92.call ?_
 simp only [Y92.t]
 have hv1:=hv.upd U1 fun i hi e=>hvn (e ▸ hi)
 refine aMG hnd hlen hpos R1 rfl rfl hv1 fun idR h2 U2 hn2 P2=>?_
 have R2:=R1.upd U2 fun h=>h
 have hlt:=R.lt
 refine bI (aK (b7 R2 rfl (by simp) rfl rfl rfl fun h3 hl3 U3 R3=>?_))
 refine bI (aK (b7 R3 rfl (by simp) rfl rfl rfl fun h4 hl4 U4 R4=>?_))
 refine .inl ?_
 refine aGF R4 rfl rfl fun h5 hl5 U5 R5=>?_
 refine aDU R5 rfl rfl fun h6 hl6 U6 R6=>?_
 have hne:idR≠id:=by omega
 have V:Upd (· = id) h2 h6:=((U3.trans U4 fun _ _ h=>h).trans U5 fun _ _ h=>h).trans U6 fun _ _ h=>h
 refine .inl (hq h6 ((U1.trans (U2.mono fun _ _ h=>h.elim) fun _ _ h=>h).trans V fun _ _ h=>h) ⟨idR,R6, ?_⟩)
 have P6:=P2.upd V fun i hi e=>by omega
 exact P6.low (by omega)
end
end Go.Proofs.YtcdkpkkdolmfdaaGreatDoor
