/- Lemmas (several texts in one). -/
import Derived.Lib.ItoaNum
import Derived.Test.YtcdkpkkdolmfdaaGreatDoorMg7
set_option linter.unusedVariables false
set_option linter.unusedSimpArgs false
set_option linter.unusedSectionVars false
set_option maxRecDepth 20000
namespace Go.Proofs.YtcdkpkkdolmfdaaGreatDoor
open Go.GAM Go.RowKit
section
variable {h0:aA} {Q:AV→aA→Prop}
theorem aJ2 {s:List UInt8} {sp:UInt8} {v:AV} {f i:Nat} {h:aA} (hi:i≤1000000) (hk:Y20.p0 (aI h0 Q) s (sp.toNat:Int) v f (i+1:Nat) h):Y20.p2 (aI h0 Q) s (sp.toNat:Int) v f i h:=by
 refine Y20.i2 ?_
 simp only [Y20.t2, ← Y20.p0.eq_1]
 exact inc (by omega) hk
theorem aCI {s:List UInt8} {sp:UInt8} {v:AV} {f i:Nat} {done:List (List UInt8)} {h:aA} (hi:i≤s.length) (hs:s.length≤100000) (hf:f≤i) (hd:done.length≤i) (S:eT h0 h v (done.map .s))
  (hk:∀ v' h',eT h0 h' v' ((done++[(s.take i).drop f]).map .s)→Y20.p0 (aI h0 Q) s (sp.toNat:Int) v' (i+1:Nat) (i+1:Nat) h'):Y20.p1 (aI h0 Q) s (sp.toNat:Int) v f i true h:=by
 refine Y20.i1 ?_
 simp only [Y20.t1, ← Y20.p2.eq_1]
 refine aM rfl (qC hf hi ?_)
 refine S.push rfl rfl (by simp; omega) (by simp; omega) fun v' h' S' _ _=>inc (by omega) (aJ2 (by omega) (hk v' h' ?_))
 rw [List.map_append]; exact S'
theorem aOJ {s:List UInt8} {sp:UInt8} (hs:s.length≤100000):∀ (r:List UInt8) (i f:Nat) (v:AV) (done:List (List UInt8)) (h:aA),s.drop i=r→i≤s.length→f≤i→done.length≤i→eT h0 h v (done.map .s) →
  (∀ v h',eT h0 h' v ((done++tR ((s.take i).drop f) (cS sp r)).map .s)→Q v h')→Y20.p0 (aI h0 Q) s (sp.toNat:Int) v f i h:=by
 intro r
 induction r with
 | nil =>
  intro i f v done h hr hi hf hd S hq
  have hl:=cA hr
  have hi':i=s.length:=by omega
  refine Y20.i0 ?_
  simp only [Y20.t0, ← Y20.p1.eq_1]
  refine aM (by simp; omega) (aM (by simp; omega) ?_)
  refine aCI hi hs hf hd S fun v' h' S'=>?_
  refine Y20.i0 ?_
  simp only [Y20.t0, ← Y20.p1.eq_1]
  refine aK (by simp; omega) (.inl (hq v' h' ?_))
  simpa [cS,tR] using S'
 | cons c r ih =>
  intro i f v done h hr hi hf hd S hq
  have hlt:=cG hr
  have hn:=bU hr
  have hci:=b5 hr
  refine Y20.i0 ?_
  simp only [Y20.t0, ← Y20.p1.eq_1]
  refine aM (by simp; omega) (aK (by simp; omega) (cW hr ?_))
  rw [iA]
  by_cases hc:c=sp
  ·rw [decide_eq_true hc]
   refine aCI hi hs hf hd S fun v' h' S'=>ih (i+1) (i+1) v' _ h' hn (by omega) (by omega) (by simp; omega) S' ?_
   rw [cS,if_pos hc] at hq
   rw [show (s.take (i+1)).drop (i+1)=[] from List.drop_eq_nil_of_le (by simp; omega),aA8 (lG sp r)]
   simpa [tR] using hq
  ·rw [decide_eq_false hc]
   refine Y20.i1 ?_
   simp only [Y20.t1, ← Y20.p2.eq_1]
   refine aK rfl (aJ2 (by omega) (ih (i+1) f v done h hn (by omega) (by omega) (by omega) S ?_))
   rw [cS,if_neg hc,aHH] at hq
   rw [List.take_add_one,hci,List.drop_append_of_le_length (by simp; omega)]
   exact hq
theorem aI5 {s:List UInt8} {sp:UInt8} {h:aA} (hs:s.length≤100000) (hq:∀ v h',eT h h' v ((cS sp s).map .s)→Q v h'):C Y20.id [.s s,.i .u8 (sp.toNat:Int)] h Q:=by
 refine Y20.call ?_
 simp only [Y20.t, ← Y20.p0.eq_1]
 refine aOJ hs s 0 0 _ [] h rfl (by omega) (by omega) (by simp) (eT.start h) fun v h' S'=>hq v h' ?_
 simpa [aA8 (lG sp s)] using S'
def sat (most:Nat) (l:List UInt8):Nat:=l.foldl (fun n c=>min (10 * n+(c.toNat - 48)) (most+1)) 0
theorem aAT (most:Nat) (l:List UInt8) (c:UInt8):sat most (l++[c])=min (10 * sat most l+(c.toNat - 48)) (most+1):=by simp [sat]
theorem aIT (most:Nat):∀ n (l:List UInt8),l.length=n→sat most l=min (fH l) (most+1):=by
 intro n
 induction n with
 | zero=>intro l hl; rw [List.eq_nil_of_length_eq_zero hl]; simp [sat,fH]
 | succ n ih =>
  intro l hl
  have hne:l≠[]:=fun h=>by rw [h] at hl; simp at hl
  have e:=List.dropLast_concat_getLast hne
  have h1:=ih l.dropLast (by rw [List.length_dropLast]; omega)
  rw [← e,aAT,pW,h1]
  omega
def aGS (s:List UInt8) (most:Nat):Int:=if s=[]∨nO s∨s.all eQ=false then -1 else if most<fH s then -2 else (fH s:Nat)
theorem sQ {s : List UInt8} {most : Nat} {h : aA} (hs : s.length ≤ 100000) (hm : most < 1000000000) (hq : Q (.i .i64 (aGS s most)) h) : C Y23.id [.s s, .i .i64 (most : Int)] h Q := by
 refine Y23.call ?_
 simp only [Y23.t, ← Y23.p0.eq_1]
 unfold aGS at hq
 have p0bad:(s=[]∨nO s∨s.all eQ=false)→Y23.p0 (aI h Q) s most true h:=by
  intro hb
  rw [if_pos hb] at hq
  refine Y23.i0 ?_
  simp only [Y23.t0]
  exact aM rfl (.inl hq)
 have p0ok : s ≠ [] → ¬ nO s → Y23.p0 (aI h Q) s most false h := by
  intro hne hl0
  have go : ∀ (r : List UInt8) (i : Nat), s.drop i = r → i ≤ s.length → (s.take i).all eQ = true → Y23.p1 (aI h Q) s most (sat most (s.take i) : Nat) i h := by
   intro r
   induction r with
   | nil =>
    intro i hr hi ha
    have hle:=cA hr
    rw [List.take_of_length_le hle] at ha ⊢
    have he:=aIT most s.length s rfl
    rw [if_neg (fun hh=>by rcases hh with h | h | h; exact hne h; exact hl0 h; rw [ha] at h; cases h)] at hq
    refine Y23.i1 ?_
    simp only [Y23.t1]
    refine aK (by simp; omega) ?_
    by_cases hlt:most<fH s
    ·rw [if_pos hlt] at hq
     exact aM (by simp; omega) (.inl hq)
    ·rw [if_neg hlt] at hq
     refine aK (by simp; omega) (.inl ?_)
     rw [he,Nat.min_eq_left (by omega)]; exact hq
   | cons c r ih =>
    intro i hr hi ha
    have hlt:=cG hr
    have hn:=bU hr
    have hci:=b5 hr
    have hsb:sat most (s.take i)≤most+1:=by
     have:=aIT most _ (s.take i) rfl
     omega
    have p2:∀ b,b = !eQ c→Y23.p2 (aI h Q) s most (sat most (s.take i):Nat) i b h:=by
     intro b hb2
     refine Y23.i2 ?_
     simp only [Y23.t2, ← Y23.p1.eq_1]
     cases hd:eQ c with
     | false =>
      rw [hd] at hb2
      have:s.all eQ=false:=by
       rw [← List.take_append_drop i s,List.all_append,hr,List.all_cons,hd]; simp
      rw [if_pos (.inr (.inr this))] at hq
      exact aM hb2 (.inl hq)
     | true =>
      rw [hd] at hb2
      have hdb:=iB hd
      refine aK hb2 ?_
      refine aJ (n:=((10 * sat most (s.take i):Nat):Int)) (by rw [aL (by omega) (by omega)]; omega) (cW hr ?_)
      refine aJ (n:=((10 * sat most (s.take i)+c.toNat:Nat):Int)) (by rw [aL (n:=(c.toNat:Int)) (by omega) (by omega),aL (by omega) (by omega)]; omega) ?_
      refine aJ (n:=((10 * sat most (s.take i)+(c.toNat - 48):Nat):Int)) (by rw [aL (by omega) (by omega)]; omega) ?_
      refine aJ (n:=((most+1:Nat):Int)) (by rw [aL (by omega) (by omega)]; omega) (inc (by omega) ?_)
      rw [aFY, ← aAT, ← cR hci]
      exact ih (i+1) hn (by omega) (by rw [cR hci,List.all_append,ha]; simp [hd])
    unfold eQ at p2
    refine Y23.i1 ?_
    simp only [Y23.t1, ← Y23.p2.eq_1]
    refine aM (by simp; omega) (cW hr ?_)
    refine aG (fun e=>p2 _ ?_) fun e=>cW hr (p2 _ ?_)
    ·simp only [decide_eq_true_eq] at e
     rw [decide_eq_false (by omega:¬ 48≤c.toNat)] <;> rfl
    ·simp only [decide_eq_false_iff_not] at e
     rw [decide_eq_true (by omega:48≤c.toNat),Bool.true_and, ← decide_not,decide_eq_decide]; omega
  refine Y23.i0 ?_
  simp only [Y23.t0, ← Y23.p1.eq_1]
  exact aK rfl (go s 0 rfl (by omega) rfl)
 by_cases hne:s=[]
 ·exact aM (by simp [hne]) (p0bad (.inl hne))
 have hlp:=List.length_pos_iff.2 hne
 refine aK (by simp; omega) ?_
 by_cases h1:1<s.length
 ·obtain ⟨c, hc⟩ : ∃ c, s[0]? = some c := ⟨_, List.getElem?_eq_getElem (by omega)⟩
  have hg:s.getD 0 0=c:=getD_some hc
  refine aM (by simp; omega) (wF (i:=0) hc ?_)
  rw [show (48:Int)=(((48:UInt8).toNat:Nat):Int) from rfl,iA]
  by_cases h48:c=48
  ·rw [decide_eq_true h48]
   exact p0bad (.inr (.inl ⟨by rw [hg,h48],h1⟩))
  ·rw [decide_eq_false h48]
   exact p0ok hne (fun hh=>h48 (by rw [← hg]; exact hh.1))
 ·exact aK (by simp; omega) (p0ok hne (fun hh=>h1 hh.2))
def sX:Nat→Nat→List UInt8→List UInt8
 | 0,_,acc=>acc
 | k+1,n,acc=>if n=0 then acc else sX k (n / 128) (UInt8.ofNat (128+n % 128) :: acc)
theorem aMA {n:Nat} (h:n<268435456):sX 4 (n / 128) [UInt8.ofNat (n % 128)]=mX n:=by
 unfold mX rW
 split
 ·rename_i h1
  rw [show n / 128=0 by omega] <;> rfl
 split
 ·rename_i h1 h2
  rw [sX,if_neg (by omega),show n / 128 / 128=0 by omega]
  simp only [sX,r7,Nat.zero_add,Nat.mul_one,if_true]
  rw [show n / 2 ^ 7 % 128+128=128+n / 128 % 128 by omega]
 split
 ·rename_i h1 h2 h3
  rw [sX,if_neg (by omega),sX,if_neg (by omega),show n / 128 / 128 / 128=0 by omega]
  simp only [sX,r7,Nat.zero_add,Nat.mul_one,if_true]
  rw [show n / 2 ^ (7 * (1+1)) % 128+128=128+n / 128 / 128 % 128 by omega,show n / 2 ^ 7 % 128+128=128+n / 128 % 128 by omega]
 ·rename_i h1 h2 h3
  rw [sX,if_neg (by omega),sX,if_neg (by omega),sX,if_neg (by omega),show n / 128 / 128 / 128 / 128=0 by omega]
  simp only [sX,r7,Nat.zero_add,Nat.mul_one,if_true]
  rw [show n / 2 ^ (7 * (2+1)) % 128+128=128+n / 128 / 128 / 128 % 128 by omega,show n / 2 ^ (7 * (1+1)) % 128+128=128+n / 128 / 128 % 128 by omega,show n / 2 ^ 7 % 128+128=128+n / 128 % 128 by omega]
theorem aM4 {n : Nat} {h : aA} (hn : n < 268435456) (hq : Q (.s (mX n)) h) : C Y50.id [.i .i64 (n : Int)] h Q := by
 refine Y50.call ?_
 simp only [Y50.t, ← Y50.p0.eq_1]
 have go:∀ k n v acc hx,n<128 ^ k→n<268435456→acc.length+k≤10→Tx h hx v acc→Q (.s (sX k n acc)) h→Y50.p0 (aI h Q) n v hx:=by
  intro k
  induction k with
  | zero =>
   intro n v acc hx hn _ hl T hq
   have:n=0:=by simpa using hn
   subst this
   refine Y50.i0 ?_
   simp only [Y50.t0]
   exact aK rfl (T.ret hq)
  | succ k ih =>
   intro n v acc hx hn hn2 hl T hq
   refine Y50.i0 ?_
   simp only [Y50.t0, ← Y50.p0.eq_1]
   unfold sX at hq
   by_cases h0:n=0
   ·subst h0
    exact aK rfl (T.ret hq)
   ·rw [if_neg h0] at hq
    have hm:=Nat.mod_lt n (show 0<128 by omega)
    refine aM (by simp; omega) (fO (b:=128) (by omega) (aJ (n:=((128+n % 128:Nat):Int)) (by rw [aL (by omega) (by omega)]; omega) ?_))
    rw [cK,eN]
    refine Tx.one T.upd fun v2 h2 T2 U2=>T2.app (T.ext U2).byt (by simp; omega) fun v3 h3 T3 _=>gN (b:=128) (by omega) (by omega) ?_
    exact ih (n / 128) v3 _ h3 (by rw [Nat.pow_succ] at hn; omega) (by omega) (by simp; omega) (by simpa using T3) hq
 have hm:=Nat.mod_lt n (show 0<128 by omega)
 refine fO (b:=128) (by omega) ?_
 rw [cK,Nat.mod_eq_of_lt (show n % 128<256 by omega)]
 have e:((n % 128:Nat):Int)=((UInt8.ofNat (n % 128)).toNat:Int):=by rw [UInt8.toNat_ofNat']; omega
 rw [e]
 refine Tx.one (Upd.refl _ _) fun v h1 T _=>gN (b:=128) (by omega) (by omega) ?_
 exact go 4 (n / 128) v _ h1 (by omega) (by omega) (by simp) T (by rw [aMA hn]; exact hq)
end
end Go.Proofs.YtcdkpkkdolmfdaaGreatDoor
namespace Go.Proofs.YtcdkpkkdolmfdaaGreatDoor
open Go.GAM Go.RowKit
theorem aD2 (c:UInt8) (l:List UInt8):fH (c :: l)=(c.toNat - 48) * 10 ^ l.length+fH l:=by
 have:∀ (l:List UInt8) (n:Nat),l.foldl (fun n c=>n * 10+(c.toNat - 48)) n=n * 10 ^ l.length+fH l:=by
  intro l
  induction l with
  | nil=>intro n; simp [fH]
  | cons a l ih =>
   intro n
   have h1:=ih (n * 10+(a.toNat - 48))
   have h2:=ih (0 * 10+(a.toNat - 48))
   have e:fH (a :: l)=(a :: l).foldl (fun n c=>n * 10+(c.toNat - 48)) 0:=rfl
   rw [e,List.foldl_cons,List.foldl_cons,h1,h2,List.length_cons,Nat.pow_succ]
   rw [Nat.add_mul,Nat.mul_assoc,Nat.zero_mul,Nat.zero_add,Nat.mul_comm 10,Nat.add_assoc]
 have h:=this l (0 * 10+(c.toNat - 48))
 have e:fH (c :: l)=(c :: l).foldl (fun n c=>n * 10+(c.toNat - 48)) 0:=rfl
 rw [e,List.foldl_cons,h,Nat.zero_mul,Nat.zero_add]
theorem aKW {s:List UInt8} (hne:s≠[]) (h0:¬ nO s) (hd:s.all eQ=true) (h1:1<s.length):10 ^ (s.length - 1)≤fH s:=by
 cases s with
 | nil=>exact absurd rfl hne
 | cons c l =>
  simp only [List.all_cons,Bool.and_eq_true] at hd
  have hc:=iB hd.1
  have:c≠48:=fun e=>h0 ⟨e,h1⟩
  have:c.toNat≠48:=fun e=>this (UInt8.toNat_inj.1 e)
  rw [aD2,List.length_cons,Nat.add_sub_cancel]
  have:1 * 10 ^ l.length≤(c.toNat - 48) * 10 ^ l.length:=Nat.mul_le_mul_right _ (by omega)
  omega
theorem sM {s : List UInt8} {most : Nat} (hm : most < 268435456) (h : jB s = none) : aGS s most < 0 := by
 unfold aGS
 split
 ·decide
 ·rename_i hb
  split
  ·decide
  ·rename_i hlt
   exfalso
   have hne:s≠[]:=fun e=>hb (.inl e)
   have hl0:¬ nO s:=fun e=>hb (.inr (.inl e))
   have hd:s.all eQ=true:=by
    cases hd:s.all eQ with
    | true=>rfl
    | false=>exact absurd (.inr (.inr hd)) hb
   unfold jB at h
   split at h
   ·cases h
   ·rename_i hc
    apply hc
    refine ⟨hne, ?_,hl0,hd,by omega⟩
    rcases Nat.lt_or_ge 9 s.length with h9 | h9
    ·exfalso
     have h1:=aKW hne hl0 hd (by omega)
     have h2:10 ^ 9≤10 ^ (s.length - 1):=Nat.pow_le_pow_right (by omega) (by omega)
     omega
    ·exact h9
theorem oL {s:List UInt8} {most n:Nat} (h:jB s=some n):aGS s most=if most<n then -2 else (n:Int):=by
 unfold jB at h
 split at h
 ·rename_i hc
  cases h
  unfold aGS
  rw [if_neg]
  rintro (h | h | h)
  ·exact hc.1 h
  ·exact hc.2.2.1 h
  ·rw [hc.2.2.2.1] at h; cases h
 ·cases h
section
variable {h0:aA} {Q:AV→aA→Prop}
def aAK:Option (List Nat)→Except Int (List UInt8)
 | none=>.error 2
 | some l=>sV l
def aNT (o:List UInt8):Option (List Nat)→Except Int (List UInt8)
 | none=>.error 2
 | some l=>.ok (o++l.flatMap mX)
theorem aI7 (s:List UInt8):g9 s=if 256<s.length then .error 3 else aAK (cU (cS 46 s)):=by
 unfold g9
 split
 ·rfl
 ·cases cU (cS 46 s) <;> rfl
theorem uS {s : List UInt8} {h : aA} (hq : ∀ h', Upd (fun _ => False) h h' → Q (aKT (g9 s)) h') : C Y3.id [.s s] h Q := by
  refine Y3.call ?_
  simp only [Y3.t, ← Y3.p0.eq_1]
  refine b9 fun h1 hl1 U1 R=>?_
  rw [aI7] at hq
  by_cases hl:256<s.length
  · rw [if_pos hl] at hq
    exact aM (by simp; omega) (pE (h1:=h1) rfl R (Nat.le_refl _) U1 hq)
  rw [if_neg hl] at hq
  refine aK (by simp; omega) (aI5 (sp:=46) (by omega) fun w h2 S=>?_)
  have hsl:=oM (sp:=46) s
  have hcb:Lib.countByte s 46≤s.length:=List.count_le_length
  have hwl:∀ x∈cS 46 s,x.length≤s.length:=by
    have:∀ (s:List UInt8) (x:List UInt8),x∈cS 46 s→x.length≤s.length:=by
      intro s
      induction s with
      | nil=>intro x hx; simp [cS] at hx; subst hx; simp
      | cons c r ih =>
        intro x hx
        unfold cS at hx
        split at hx
        · rcases List.mem_cons.1 hx with rfl | h
          · simp
          · have:=ih x h; simp; omega
        · cases hsr : cS 46 r with
          | nil=>exact absurd hsr (lG 46 r)
          | cons a l =>
            rw [hsr] at hx ih
            simp only [tR,List.mem_cons] at hx
            rcases hx with rfl | hx
            · have:=ih a (by simp); simp; omega
            · have:=ih x (by simp [hx]); simp; omega
    exact this s
  have W:=S.stk.rd
  rw [List.length_map] at W
  have R2:=R.upd S.upd fun h=>h
  have U2:=U1.trans S.upd fun _ _ h=>h
  generalize cS 46 s=ws at *
  have bad:aAK (cU ws) = .error 2→aS 5 (.p (some ⟨h.length,5,0⟩)) (.ag [.i .i64 0,.i .i64 0,.b false,.s [],.sl none 0 none]) h2 fun h5=>aB 5 (.p (some ⟨h.length,5,0⟩)) h5 fun v7=>aI h Q (.tu [v7,.i .i64 2]) h5:=by
    intro hd
    rw [hd] at hq
    exact pE (h1:=h1) rfl R2 (Nat.le_refl _) U2 hq
  refine W.len ?_
  by_cases hl2:ws.length<2
  · refine aM (by simp; omega) (bad ?_)
    cases hd:cU ws with
    | none=>rfl
    | some l=>exact vP (by rw [(r9 hd).2]; exact hl2)
  refine aK (by simp; omega) ?_
  obtain ⟨w0,w1,wr,hws⟩:∃ a b r,ws=a :: b :: r:=by
    match ws,hl2 with
    | [],h=>simp at h
    | [a],h=>simp at h
    | a :: b :: r,_=>exact ⟨a,b,r,rfl⟩
  have hw0:ws[0]? = some w0:=by rw [hws] <;> rfl
  have hw1:ws[1]? = some w1:=by rw [hws] <;> rfl
  have hl0:=hwl w0 (by rw [hws]; simp)
  have hl1':=hwl w1 (by rw [hws]; simp)
  refine W.str (i:=0) hw0 (sQ (most:=2) (by omega) (by omega) (aU ?_))
  have go : ∀ (r : List (List UInt8)) (i : Nat) (o : List UInt8) (first : Int), ws.drop i = r → 2 ≤ i → i ≤ ws.length → o.length ≤ 4 * i → 0 ≤ first → (aAK (cU ws) = aNT o (cU r)) → Y3.p0 (aI h Q) (.p (some ⟨h.length, 5, 0⟩)) w o first i h2 := by
    intro r
    induction r with
    | nil =>
      intro i o first hr hi hi2 hol hf he
      have hle:=cA hr
      rw [he] at hq
      simp only [cU,aNT,List.flatMap_nil,List.append_nil] at hq
      refine Y3.i0 ?_
      simp only [Y3.t0]
      exact W.len (aK (by simp; omega) (pE (h1:=h1) rfl R2 (Nat.le_refl _) U2 hq))
    | cons x r ih =>
      intro i o first hr hi hi2 hol hf he
      have hlt:=cG hr
      have hn:=bU hr
      have hxi:=b5 hr
      have hxl:=hwl x (List.mem_of_getElem? hxi)
      rw [gG] at he
      refine Y3.i0 ?_
      simp only [Y3.t0, ← Y3.p1.eq_1]
      refine W.len (aM (by simp; omega) (aK (by simp; omega) ?_))
      refine Y3.i1 ?_
      simp only [Y3.t1, ← Y3.p2.eq_1]
      refine aK rfl ?_
      refine Y3.i2 ?_
      simp only [Y3.t2, ← Y3.p3.eq_1]
      refine W.str hxi (sQ (most:=268435455) (by omega) (by omega) (aU (aK (by simp; omega) ?_)))
      cases hx:jB x with
      | none =>
        rw [hx] at he
        have:=sM (most:=268435455) (by omega) hx
        rw [decide_eq_true this]
        refine Y3.i3 ?_
        simp only [Y3.t3]
        exact aM rfl (bad he)
      | some n =>
        rw [hx] at he
        have hnb:=z7 hx
        have hdI:=oL (most:=268435455) hx
        rw [if_neg (by omega)] at hdI
        rw [hdI,decide_eq_false (by omega)]
        refine Y3.i3 ?_
        simp only [Y3.t3, ← Y3.p4.eq_1]
        refine aK rfl (aK (by simp; omega) ?_)
        refine Y3.i4 ?_
        simp only [Y3.t4, ← Y3.p0.eq_1]
        have hal:(mX n).length≤4:=by
          have:∀ k n,(r7 k n).length=k+1:=by
            intro k
            induction k with
            | zero=>intro n; rfl
            | succ k ih=>intro n; simp [r7,ih]
          unfold mX
          rw [this]
          unfold rW
          repeat' split
          all_goals omega
        refine aK (by simp; omega) (aM4 hnb (aZ ⟨by omega,inc (by omega) ?_⟩))
        refine ih (i+1) _ first hn (by omega) (by omega) (by simp; omega) hf ?_
        rw [he]
        simp only
        cases cU r with
        | none=>rfl
        | some l=>simp [aNT]
  have first2 : ∀ f : Int, (f < 0 → aAK (cU ws) = .error 2) → (0 ≤ f → ∃ a : Nat, f = a ∧ jB w0 = some a ∧ a ≤ 2) → Y3.p0 (aI h Q) (.p (some ⟨h.length, 5, 0⟩)) w [] f (1 : Nat) h2 := by
    intro f hf1 hf2
    refine Y3.i0 ?_
    simp only [Y3.t0, ← Y3.p1.eq_1]
    refine W.len (aM (by simp; omega) (aM rfl ?_))
    have p2 : ∀ most : Nat, (most = if f < 2 then 39 else 268435455) → Y3.p2 (aI h Q) (.p (some ⟨h.length, 5, 0⟩)) w [] f (1 : Nat) most h2 := by
      intro most hmost
      have hm28:most<268435456:=by rw [hmost]; split <;> omega
      refine Y3.i2 ?_
      simp only [Y3.t2, ← Y3.p3.eq_1]
      refine W.str (i:=1) hw1 (sQ (most:=most) (by omega) (by omega) (aU ?_))
      have p3bad:∀ n:Int,aAK (cU ws) = .error 2→Y3.p3 (aI h Q) (.p (some ⟨h.length,5,0⟩)) w [] f (1:Nat) n true h2:=by
        intro n hb
        refine Y3.i3 ?_
        simp only [Y3.t3]
        exact aM rfl (bad hb)
      refine aG (fun e=>p3bad _ (hf1 (by simpa using e))) fun e=>?_
      have hf0:0≤f:=by simp only [decide_eq_false_iff_not] at e; omega
      obtain ⟨a,rfl,ha,ha2⟩:=hf2 hf0
      have hda:cU ws=match jB w1 with | none=>none | some n=>match cU wr with | none=>none | some l=>some (a :: n :: l):=by
        rw [hws,gG,ha]
        simp only
        rw [gG]
        cases jB w1 with
        | none=>rfl
        | some n=>cases cU wr <;> rfl
      cases hx:jB w1 with
      | none =>
        rw [hx] at hda
        have:=sM hm28 hx
        rw [decide_eq_true this]
        exact p3bad _ (by rw [show cU ws=none from hda] <;> rfl)
      | some n =>
        rw [hx] at hda
        have hnb:=z7 hx
        have hdI:=oL (most:=most) hx
        by_cases hmn:most<n
        · rw [if_pos hmn] at hdI
          rw [hdI]
          refine p3bad _ ?_
          rw [hda]
          simp only
          cases cU wr with
          | none=>rfl
          | some l =>
            unfold aAK sV
            simp only
            rw [if_pos]
            right; left
            rw [hmost] at hmn
            split at hmn <;> omega
        · rw [if_neg hmn] at hdI
          rw [hdI,decide_eq_false (by omega)]
          refine Y3.i3 ?_
          simp only [Y3.t3, ← Y3.p4.eq_1]
          refine aK rfl (aM rfl ?_)
          refine aJ (n:=((40 * a:Nat):Int)) (by rw [aL (by omega) (by omega)]; omega) ?_
          refine aJ (n:=((40 * a+n:Nat):Int)) (by rw [aL (by omega) (by omega)]; omega) ?_
          refine Y3.i4 ?_
          simp only [Y3.t4, ← Y3.p0.eq_1]
          have hn40:a<2→n<40:=by
            intro ha2
            rw [hmost,if_pos (by omega)] at hmn
            omega
          by_cases h28:268435456≤40 * a+n
          · refine aM (by simp; omega) (bad ?_)
            rw [hda]
            simp only
            cases cU wr with
            | none=>rfl
            | some l =>
              unfold aAK sV
              simp only
              rw [if_pos (.inr (.inr h28))]
          · refine aK (by simp; omega) (aM4 (by omega) (aZ ⟨?_, inc (by omega) ?_⟩))
            · have : (mX (40 * a + n)).length ≤ 4 := by
                have:∀ k n,(r7 k n).length=k+1:=by
                  intro k
                  induction k with
                  | zero=>intro n; rfl
                  | succ k ih=>intro n; simp [r7,ih]
                unfold mX
                rw [this]
                unfold rW
                repeat' split
                all_goals omega
              simp; omega
            · refine go wr 2 _ (a : Int) (by rw [hws] <;> rfl) (by omega) (by omega) ?_ (by omega) ?_
              · have : (mX (40 * a + n)).length ≤ 4 := by
                  have:∀ k n,(r7 k n).length=k+1:=by
                    intro k
                    induction k with
                    | zero=>intro n; rfl
                    | succ k ih=>intro n; simp [r7,ih]
                  unfold mX
                  rw [this]
                  unfold rW
                  repeat' split
                  all_goals omega
                simp; omega
              · rw [hda]
                simp only
                cases cU wr with
                | none=>rfl
                | some l =>
                  unfold aAK sV
                  simp only
                  rw [if_neg (by omega),List.flatMap_cons] <;> rfl
    refine Y3.i1 ?_
    simp only [Y3.t1, ← Y3.p2.eq_1]
    refine aG (fun e=>p2 39 ?_) fun e=>p2 268435455 ?_
    · rw [if_pos (by simpa using e)]
    · rw [if_neg (by simpa using e)]
  refine first2 _ ?_ ?_
  · intro hneg
    cases hx:jB w0 with
    | none=>rw [hws,gG,hx] <;> rfl
    | some a =>
      have hdI:=oL (most:=2) hx
      rw [hdI] at hneg
      have ha:2<a:=by
        rcases Nat.lt_or_ge 2 a with h | h
        · exact h
        · rw [if_neg (by omega)] at hneg; omega
      cases hd:cU ws with
      | none=>rfl
      | some l =>
        rw [hws,gG,hx] at hd
        simp only at hd
        cases hd2:cU (w1 :: wr) with
        | none=>rw [hd2] at hd; cases hd
        | some l' =>
          rw [hd2] at hd
          cases hd
          cases l' with
          | nil=>rfl
          | cons b l'=>unfold aAK sV; simp only; rw [if_pos (.inl ha)]
  · intro hpos
    cases hx:jB w0 with
    | none=>have:=sM (most:=2) (by omega) hx; omega
    | some a =>
      have hdI:=oL (most:=2) hx
      rcases Nat.lt_or_ge 2 a with h | h
      · rw [if_pos h] at hdI; omega
      · rw [if_neg (by omega)] at hdI
        exact ⟨a,hdI,rfl,h⟩
end
end Go.Proofs.YtcdkpkkdolmfdaaGreatDoor
namespace Go.Proofs.YtcdkpkkdolmfdaaGreatDoor
open Go.GAM Go.RowKit
end Go.Proofs.YtcdkpkkdolmfdaaGreatDoor
namespace Go.Proofs.YtcdkpkkdolmfdaaGreatDoor
open Go.GAM Go.RowKit
theorem aJU (a:UInt8):iH [a]=a.toNat:=by simp [iH]
theorem aK8 (a b:UInt8):iH [a,b]=a.toNat * 256+b.toNat:=by simp [iH]
theorem lK {n:Nat} (h:n<256):(UInt8.ofNat n).toNat=n:=by rw [UInt8.toNat_ofNat']; omega
theorem aG0 {n : Nat} (h : n < 65536) (r : List UInt8) : oY (oZ n ++ r) = .ok (n, r) := by
 unfold oZ
 split
 ·rename_i h1
  rw [List.singleton_append,oY,lK (by omega),if_pos h1]
 ·split
  ·rename_i h1 h2
   show oY (129 :: UInt8.ofNat n :: r)=_
   rw [oY,if_neg (by decide),if_neg (by decide),if_neg (by show ¬ (r.length+1)<1; omega)]
   have e:(UInt8.ofNat n :: r).take ((129:UInt8).toNat - 128)=[UInt8.ofNat n]:=rfl
   rw [e,aJU,lK (by omega),if_neg (by
    rw [show 8 * ((129:UInt8).toNat - 128 - 1)=0 from rfl,Nat.pow_zero]; omega)]
   rfl
  ·rename_i h1 h2
   show oY (130 :: UInt8.ofNat (n / 256) :: UInt8.ofNat n :: r)=_
   rw [oY,if_neg (by decide),if_neg (by decide),if_neg (by show ¬ (r.length+1+1)<2; omega)]
   have e:(UInt8.ofNat (n / 256) :: UInt8.ofNat n :: r).take ((130:UInt8).toNat - 128)=[UInt8.ofNat (n / 256),UInt8.ofNat n]:=rfl
   have e2:(UInt8.ofNat (n / 256)).toNat * 256+(UInt8.ofNat n).toNat=n:=by
    rw [UInt8.toNat_ofNat',UInt8.toNat_ofNat']; omega
   rw [e,aK8,e2,if_neg (by
    rw [show 8 * ((130:UInt8).toNat - 128 - 1)=8 from rfl]; omega)]
   rfl
theorem aJ1 {s r : List UInt8} {n : Nat} (h : oY s = .ok (n, r)) (hn : n < 65536) : s = oZ n ++ r := by
 cases s with
 | nil=>cases h
 | cons c s =>
  have hc:=c.toNat_lt
  rw [oY] at h
  split at h
  ·rename_i h1
   cases h
   unfold oZ
   rw [if_pos h1,UInt8.ofNat_toNat] <;> rfl
  ·rename_i h1
   split at h
   ·cases h
   ·rename_i h2
    split at h
    ·cases h
    ·rename_i h3
     split at h
     ·cases h
     ·rename_i h4
      cases h
      have hk:c.toNat - 128=1∨c.toNat - 128=2∨c.toNat - 128=3:=by omega
      rcases hk with hk | hk | hk
      ·rw [hk] at h3 h4 hn ⊢
       obtain ⟨a,s',rfl⟩:∃ a s',s=a :: s':=by
        cases s with
        | nil=>simp at h3
        | cons a s'=>exact ⟨a,s',rfl⟩
       have e:(a :: s').take 1=[a]:=rfl
       rw [e,aJU] at h4 hn ⊢
       have ha:=a.toNat_lt
       have hc2:c=129:=UInt8.toNat_inj.1 (by show c.toNat=129; omega)
       unfold oZ
       rw [if_neg (by omega),if_pos (by omega),UInt8.ofNat_toNat,hc2] <;> rfl
      ·rw [hk] at h3 h4 hn ⊢
       obtain ⟨a,b,s',rfl⟩:∃ a b s',s=a :: b :: s':=by
        match s,h3 with
        | [],h3=>simp at h3
        | [a],h3=>simp at h3
        | a :: b :: s',_=>exact ⟨a,b,s',rfl⟩
       have e:(a :: b :: s').take 2=[a,b]:=rfl
       rw [e,aK8] at h4 hn ⊢
       have ha:=a.toNat_lt
       have hb:=b.toNat_lt
       have hc2:c=130:=UInt8.toNat_inj.1 (by show c.toNat=130; omega)
       rw [show 8 * (2 - 1)=8 from rfl] at h4
       have e1:UInt8.ofNat ((a.toNat * 256+b.toNat) / 256)=a:=by
        rw [show (a.toNat * 256+b.toNat) / 256=a.toNat by omega,UInt8.ofNat_toNat]
       have e2:UInt8.ofNat (a.toNat * 256+b.toNat)=b:=UInt8.toNat_inj.1 (by rw [UInt8.toNat_ofNat']; omega)
       unfold oZ
       rw [if_neg (by omega),if_neg (by omega),e1,e2,hc2] <;> rfl
      ·exfalso
       rw [hk] at h3 h4 hn
       rw [show 8 * (3 - 1)=16 from rfl] at h4
       omega
theorem aLK {c t:Int} {m:Bool} (hc:0≤c∧c≤3) (ht:0≤t∧t≤30):(hdB c t m).toNat=c.toNat * 64+t.toNat+if m=true then 32 else 0:=by
 unfold hdB
 rw [lK]
 split <;> omega
theorem aMD : ∀ m,
  (∀ (d:Der) (lvl n f:Nat) (rest:List UInt8),d.sz≤m→2 * (cT d).length+1≤f→(cT d).length≤65535→(d6 lvl n d).1=0→lP f lvl n (cT d++rest) = .ok (d,rest,(d6 lvl n d).2)) ∧
  (∀ (ks:List Der) (lvl n f:Nat),szs ks≤m→2 * (cC ks).length+2≤f→(cC ks).length≤65535→(gT (lvl+1) n ks).1=0→kM f lvl n (cC ks) = .ok (ks,(gT (lvl+1) n ks).2)):=by
 intro m
 induction m with
 | zero =>
  refine ⟨fun d lvl n f rest hd=>absurd hd (by have:=eX d; omega),fun ks lvl n f hk hf _ _=>?_⟩
  cases ks with
  | nil =>
   obtain ⟨f,rfl⟩:∃ g,f=g+1:=⟨f - 1,by omega⟩
   unfold kM gT cC; rfl
  | cons k r=>have:=eX k; unfold szs at hk; omega
 | succ m ih =>
  have hV:∀ (d:Der) (lvl n f:Nat) (rest:List UInt8),d.sz≤m+1→2 * (cT d).length+1≤f→(cT d).length≤65535→(d6 lvl n d).1=0→lP f lvl n (cT d++rest) = .ok (d,rest,(d6 lvl n d).2):=by
   intro d lvl n f rest hd hf hl hc
   obtain ⟨c,t,mm,s,ks⟩:=d
   obtain ⟨f,rfl⟩:∃ g,f=g+1:=⟨f - 1,by omega⟩
   unfold Der.sz at hd
   unfold d6 at hc ⊢
   split at hc
   ·cases hc
   rename_i c1
   split at hc
   ·cases hc
   rename_i c2
   split at hc
   ·cases hc
   rename_i c3
   split at hc
   ·cases hc
   rename_i c4
   rw [if_neg c1,if_neg c2,if_neg c3,if_neg c4]
   have hh:=aLK (c:=c) (t:=t) (m:=mm) (by omega) (by omega)
   unfold cT at hf hl ⊢
   generalize hct:s++cC ks=content at *
   simp only [List.cons_append,List.length_cons,List.length_append] at hf hl
   have hcl:content.length<65536:=by omega
   rw [List.cons_append,List.cons_append,List.append_assoc]
   unfold lP
   simp only
   have e32:(hdB c t mm).toNat % 32=t.toNat:=by rw [hh]; split <;> omega
   have e64:(hdB c t mm).toNat / 64=c.toNat:=by rw [hh]; split <;> omega
   rw [if_neg (by rw [e32]; omega),if_neg c3,if_neg c4,aG0 hcl]
   simp only
   rw [if_neg (by rw [List.length_append]; omega),List.take_left' rfl,List.drop_left' rfl,e32,e64,Int.toNat_of_nonneg (by omega),Int.toNat_of_nonneg (by omega)]
   cases mm with
   | false =>
    have hks:ks=[]:=Classical.byContradiction fun h=>c2 (.inr ⟨rfl,h⟩)
    subst hks
    rw [if_pos (by rw [hh]; simp; omega)]
    have:content=s:=by rw [← hct]; simp [cC]
    rw [this]
    unfold gT; rfl
   | true =>
    have hs:s=[]:=Classical.byContradiction fun h=>c2 (.inl ⟨rfl,h⟩)
    subst hs
    rw [if_neg (by rw [hh]; simp; omega)]
    have:content=cC ks:=by rw [← hct] <;> rfl
    rw [this] at hf hcl ⊢
    rw [ih.2 ks lvl (n+1) f (by omega) (by omega) (by omega) hc]
  refine ⟨hV,fun ks=>?_⟩
  induction ks with
  | nil =>
   intro lvl n f _ hf _ _
   obtain ⟨f,rfl⟩:∃ g,f=g+1:=⟨f - 1,by omega⟩
   unfold kM gT cC; rfl
  | cons k r ihr =>
   intro lvl n f hk hf hl hc
   obtain ⟨f,rfl⟩:∃ g,f=g+1:=⟨f - 1,by omega⟩
   unfold szs at hk
   have hbk:cC (k :: r)=cT k++cC r:=by rw [cC]
   rw [hbk,List.length_append] at hf hl
   rw [hbk]
   rw [qJ] at hc ⊢
   split at hc
   ·rename_i h1; exact absurd hc h1
   rename_i h1
   rw [if_neg h1]
   have h1:(d6 (lvl+1) n k).1=0:=by simpa using h1
   have hv:=hV k (lvl+1) n f (cC r) (by omega) (by omega) (by omega) h1
   obtain ⟨x,b,hb⟩:∃ x b,cT k=x :: b:=by
    obtain ⟨c,t,mm,s,ks⟩:=k
    unfold cT
    exact ⟨_,_,rfl⟩
   have hlen:0<(cT k).length:=by rw [hb]; simp
   rw [hb] at hv ⊢
   unfold kM
   simp only [List.cons_append] at hv ⊢
   rw [hv]
   simp only
   rw [ihr lvl _ f (by omega) (by omega) (by omega) hc]
theorem aLF : ∀ f,
  (∀ (lvl n:Nat) (s:List UInt8) (d:Der) (r:List UInt8) (n':Nat),s.length≤65535→lP f lvl n s = .ok (d,r,n')→s=cT d++r∧d6 lvl n d=(0,n')) ∧
  (∀ (lvl n:Nat) (s:List UInt8) (ks:List Der) (n':Nat),s.length≤65535→kM f lvl n s = .ok (ks,n')→s=cC ks∧gT (lvl+1) n ks=(0,n')):=by
 intro f
 induction f with
 | zero =>
  refine ⟨fun lvl n s d r n' _ h=>?_,fun lvl n s ks n' _ h=>?_⟩
  ·unfold lP at h; cases h
  ·unfold kM at h; cases h
 | succ f ih =>
  refine ⟨fun lvl n s d r n' hs h=>?_,fun lvl n s ks n' hs h=>?_⟩
  ·unfold lP at h
   cases s with
   | nil=>cases h
   | cons c s =>
    have hc:=c.toNat_lt
    simp only [List.length_cons] at hs
    simp only at h
    split at h
    ·cases h
    rename_i e31
    split at h
    ·cases h
    rename_i e24
    split at h
    ·cases h
    rename_i e256
    split at h
    ·cases h
    ·rename_i k t hl
     have hsh:=mC hl
     split at h
     ·cases h
     ·rename_i hk
      have hinv:=aJ1 hl (by omega)
      have htk:(t.take k).length=k:=by rw [List.length_take]; omega
      have hhd:∀ mm:Bool,(mm=true↔c.toNat / 32 % 2≠0)→hdB (c.toNat / 64:Nat) (c.toNat % 32:Nat) mm=c:=by
       intro mm hm
       unfold hdB
       rw [Int.toNat_natCast,Int.toNat_natCast]
       apply UInt8.toNat_inj.1
       rw [UInt8.toNat_ofNat']
       cases mm with
       | true=>have:=hm.1 rfl; simp; omega
       | false =>
        have:¬ c.toNat / 32 % 2≠0:=fun hh=>by have:=hm.2 hh; cases this
        simp; omega
      split at h
      ·rename_i hm
       cases h
       refine ⟨?_, ?_⟩
       ·unfold cT
        rw [hhd false (by simp [hm]),cC,List.append_nil,htk,List.cons_append,List.cons_append,List.append_assoc,List.take_append_drop, ← hinv]
       ·unfold d6
        rw [if_neg (by omega),if_neg (by simp),if_neg e24,if_neg e256]
        unfold gT; rfl
      ·rename_i hm
       split at h
       ·cases h
       ·rename_i ks n2 hd
        cases h
        obtain ⟨g1,g2⟩:=ih.2 lvl (n+1) (t.take k) ks n' (by omega) hd
        refine ⟨?_, ?_⟩
        ·unfold cT
         rw [hhd true (by simp [hm]),List.nil_append, ← g1,htk,List.cons_append,List.cons_append,List.append_assoc,List.take_append_drop, ← hinv]
        ·unfold d6
         rw [if_neg (by omega),if_neg (by simp),if_neg e24,if_neg e256,g2]
  ·unfold kM at h
   cases s with
   | nil=>cases h; unfold cC gT; exact ⟨rfl,rfl⟩
   | cons c s =>
    simp only at h
    split at h
    ·cases h
    ·rename_i d t n2 hv
     have hsh:=(oQ f).1 _ _ _ _ _ _ hv
     obtain ⟨g1,g2⟩:=ih.1 (lvl+1) n (c :: s) d t n2 hs hv
     split at h
     ·cases h
     ·rename_i ks2 n3 hk
      cases h
      obtain ⟨g3,g4⟩:=ih.2 lvl n2 t ks2 n' (by omega) hk
      refine ⟨?_, ?_⟩
      ·rw [g1,g3,cC]
      ·rw [qJ,g2,if_neg (by simp),g4]
theorem pO {d:Der} {t:List UInt8} (h:eS d = .ok t):t=cT d∧t.length≤65535∧nV t = .ok d∧2≤t.length∧(∀ x,x.length+t.length≤65535→x≠[]→nV (t++x) = .error 2):=by
 unfold eS at h
 split at h
 ·cases h
 rename_i h1
 split at h
 ·cases h
 rename_i h2
 cases h
 have h1:(d6 1 0 d).1=0:=by simpa using h1
 have key:=fun f rest hf=>(aMD d.sz).1 d 1 0 f rest (Nat.le_refl _) hf (by omega) h1
 refine ⟨rfl,by omega, ?_, ?_, ?_⟩
 ·unfold nV
  rw [if_neg h2]
  have:=key (2 * (cT d).length+1) [] (Nat.le_refl _)
  rw [List.append_nil] at this
  rw [this] <;> rfl
 ·obtain ⟨c, t, mm, s, ks⟩ := d
  unfold cT
  have:1≤(oZ (s++cC ks).length).length:=by unfold oZ; split <;> (try split) <;> simp
  simp only [List.length_cons,List.length_append] at *
  omega
 ·intro x hx hne
  unfold nV
  rw [if_neg (by rw [List.length_append]; omega),key _ x (by rw [List.length_append]; omega)]
  simp only
  rw [if_neg hne]
theorem aEI {s:List UInt8} {y:Der} (h:nV s = .ok y):eS y = .ok s:=by
 unfold nV at h
 split at h
 ·cases h
 rename_i hl
 split at h
 ·cases h
 ·rename_i d r n hv
  split at h
  ·rename_i hr
   cases h
   subst hr
   obtain ⟨g1,g2⟩:=(aLF _).1 _ _ _ _ _ _ (by omega) hv
   rw [List.append_nil] at g1
   unfold eS
   rw [g2,if_neg (by simp), ← g1,if_neg hl]
  ·cases h
theorem aA2 {s:List UInt8} {e:Int} (h:nV s = .error e):e≠0:=by
 unfold nV at h
 split at h
 ·cases h; decide
 split at h
 ·rename_i hv; cases h; exact (zS _).1 _ _ _ _ (Nat.le_refl _) hv
 ·split at h
  ·cases h
  ·cases h; decide
end Go.Proofs.YtcdkpkkdolmfdaaGreatDoor
namespace Go.Proofs.YtcdkpkkdolmfdaaGreatDoor
open Go.GAM Go.RowKit
theorem aL7 (k:Nat):(gU k).all eQ=true:=by
 unfold gU eQ
 simp only [List.all_cons,List.all_nil,Bool.and_true,Bool.and_eq_true,decide_eq_true_eq,UInt8.toNat_ofNat']
 omega
theorem aHY (k:Nat) (r:List UInt8):dA (gU k++r)=(k % 100) :: dA r:=by
 show (((UInt8.ofNat (48+k / 10 % 10)).toNat - 48) * 10+((UInt8.ofNat (48+k % 10)).toNat - 48)) :: dA r=_
 rw [UInt8.toNat_ofNat',UInt8.toNat_ofNat']
 congr 1
 omega
theorem aCG {n y m d:Nat} (hn:n≤253402300799) (D:aAQ (n / 86400) y m d) :
  ∃ t:Int, ∃ s,iW y m d (n % 86400)=bF 0 t false s∧s.length≤15∧dQ (.mk 0 t false s [])=((n:Int),true):=by
 have hy:=D.y4 (by omega)
 have hy0:=D.y0
 have hb:=jW y m
 have hm:=D.m1
 have hm0:=D.m0
 have hd:=D.d1
 have hd0:=D.d0
 have hr:n % 86400<86400:=Nat.mod_lt _ (by omega)
 have hfin:∀ r,r=n % 86400→aBB y m (d+1) (r / 3600) (r / 60 % 60) (r % 60)=((n:Int),true):=by
  rintro r rfl
  unfold aBB
  rw [if_neg (by unfold aA7; omega)]
  unfold aMN
  congr 1
  omega
 generalize hre:n % 86400=r at *
 have hfull:∀ c:List UInt8,c=gU (y / 100)++jS y m d r→(if c.getD 14 0=90∧(c.take 14).all eQ=true then aAH (dA (c.take 14)) else (0,false))=((n:Int),true):=by
  rintro c rfl
  have e:(gU (y / 100)++jS y m d r).take 14=gU (y / 100)++(gU y++(gU m++(gU (d+1)++(gU (r / 3600)++(gU (r / 60 % 60)++(gU (r % 60)++[])))))):=rfl
  rw [e]
  rw [if_pos ⟨rfl,by simp only [List.all_append,aL7,List.all_nil,Bool.and_self]⟩]
  simp only [aHY]
  rw [show dA []=[] from rfl]
  show aBB (100 * (y / 100 % 100)+y % 100) (m % 100) ((d+1) % 100) (r / 3600 % 100) (r / 60 % 60 % 100) (r % 60 % 100)=_
  rw [show 100 * (y / 100 % 100)+y % 100=y by omega,show m % 100=m by omega,show (d+1) % 100=d+1 by omega,show r / 3600 % 100=r / 3600 by omega,show r / 60 % 60 % 100=r / 60 % 60 by omega,show r % 60 % 100=r % 60 by omega]
  exact hfin r rfl
 unfold iW
 by_cases h50:y<2050
 ·rw [if_pos h50]
  refine ⟨23,_,rfl,by show 13≤15; omega, ?_⟩
  unfold dQ s8
  rw [if_neg (by simp [dB]),if_pos (by simp [dB]),if_pos (show (Der.mk 0 23 false (jS y m d r) []).data.length=13 from rfl)]
  have e:(if 53≤((jS y m d r).getD 0 0).toNat then [49,57] else [50,48]:List UInt8)=gU (y / 100):=by
   show (if 53≤(UInt8.ofNat (48+y / 10 % 10)).toNat then [49,57] else [50,48]:List UInt8)=_
   rw [UInt8.toNat_ofNat']
   by_cases h2:y<2000
   ·rw [if_pos (by omega),show y / 100=19 by omega] <;> rfl
   ·rw [if_neg (by omega),show y / 100=20 by omega] <;> rfl
  show (match some ((if 53≤((jS y m d r).getD 0 0).toNat then [49,57] else [50,48]:List UInt8)++jS y m d r) with
   | none=>(0,false)
   | some s=>if s.getD 14 0=90∧(s.take 14).all eQ=true then aAH (dA (s.take 14)) else (0,false))=_
  rw [e]
  exact hfull _ rfl
 ·rw [if_neg h50]
  refine ⟨24,_,rfl,by show 15≤15; omega, ?_⟩
  unfold dQ s8
  rw [if_pos (by simp [dB]),if_pos (show (Der.mk 0 24 false (gU (y / 100)++jS y m d r) []).data.length=15 from rfl)]
  exact hfull _ rfl
end Go.Proofs.YtcdkpkkdolmfdaaGreatDoor
namespace Go.Proofs.YtcdkpkkdolmfdaaGreatDoor
open Go.GAM Go.RowKit
section
variable {h:aA} {Q:AV→aA→Prop}
abbrev Bld (h:aA) (id off:Nat) (cs:List AV) (buf:AV) (l:List UInt8):Prop:=iS prog 110 5 h id off cs buf l
theorem aNR {f:FuncId} {v:AV} (hm:(f,aBZ)∈fU) (hk:Q v h):C f [v] h Q:=aJF hm hk
theorem aK0 {α:Type} {l:List α} {i:Nat} {a:α} (h:l[i]? = some a):l.set i a=l:=by
 apply List.ext_getElem?
 intro j
 by_cases hj:i=j
 ·subst hj; rw [List.getElem?_set_self (bM h),h]
 ·rw [List.getElem?_set_ne hj]
theorem aB3 {id off n:Nat} {cs:List AV} {buf:AV} {l:List UInt8} (B:Bld h id off cs buf l) (hn:n=cs.length)
  (hq:∀ h',h'.length=h.length→Upd (· = id) h h'→Bld h' id off (cs.set off (.p (some ⟨id,n,off⟩))) buf l→Q (.tu []) h'):C Y88.id [.p (some ⟨id,n,off⟩)] h Q:=by
 subst hn
 refine Y88.call ?_
 simp only [Y88.t]
 have hr:=B.room
 have hne:off≠off+1:=by omega
 have cell1:∀ v:AV,(cs.set off v)[off+1]? = some buf:=fun v=>by rw [List.getElem?_set_ne hne]; exact B.cell
 have cell0:∀ v:AV,(cs.set off v)[off]? = some v:=fun v=>by rw [List.getElem?_set_self (by omega)]
 rcases B.addr with h0 | h0
 ·refine b8 (aP (aO B.rec' rfl h0 (aJG (by kernel_rfl) (aX (aM rfl ?_)))))
  refine sT B.rec' rfl (by omega) (aNR Y111.row ?_)
  refine B.fromUnsafe (b8 (aP ?_))
  refine B.store (by omega) rfl rfl rfl (.inr (cell0 _)) (cell1 _) B.is B.own fun h1 hl1 U1 B1=>?_
  exact .inl (hq h1 hl1 U1 B1)
 ·refine b8 (aP (aO B.rec' rfl h0 (aG1 (by kernel_rfl) (aX (aK rfl ?_)))))
  refine b8 (aP (aO B.rec' rfl h0 (aGY (by kernel_rfl) (aX (aK rfl ?_)))))
  have e:cs.set off (.p (some ⟨id,cs.length,off⟩))=cs:=aK0 h0
  refine .inl (hq h rfl (Upd.refl _ _) ?_)
  rw [e]; exact B
def wrB (cs:List AV) (id off:Nat) (buf:AV):List AV:=(cs.set off (.p (some ⟨id,cs.length,off⟩))).set (off+1) buf
theorem aMS {cs:List AV} {id off:Nat} {buf:AV}:(wrB cs id off buf).length=cs.length:=by simp [wrB]
theorem aC1 {id off n:Nat} {cs:List AV} {buf:AV} {l:List UInt8} {c:UInt8} {k:Int} (B:Bld h id off cs buf l) (hn:n=cs.length) (hk:k=(c.toNat:Int)) (hl:l.length<100000000)
  (hq:∀ buf' h',Upd (fun i=>i=id∨bZ buf i) h h'→Bld h' id off (wrB cs id off buf') buf' (l++[c])→(∀ i,bZ buf' i→bZ buf i∨h.length≤i)→Q .ni h'):C Y93.id [.p (some ⟨id,n,off⟩),.i .u8 k] h Q:=by
 subst hn; subst hk
 refine Y93.call ?_
 simp only [Y93.t]
 refine aB3 B rfl fun h1 hl1 U1 B1=>?_
 have hr:=B.room
 have hlt:=B.lt
 have hcl:cs.length=(cs.set off (.p (some ⟨id,cs.length,off⟩))).length:=by simp
 refine b8 (aP (aO B1.rec' hcl B1.cell ?_))
 refine eO (cs:=[byteAV c]) rfl rfl fun y h2 hl2 U2 R2 F2=>?_
 have B2:=B1.upd U2 (fun h=>h) fun _ _ h=>h
 refine B2.is.append (t:=[c]) (fun K hK=>R2.news hK) (by simp; omega) fun v' h3 U3 T3 F3=>?_
 have hown:¬ bZ v' id:=fun hi=>by
  rcases F3 id hi with h | h
  ·exact B.own h
  ·omega
 have hUall:Upd (fun i=>i=id∨bZ buf i) h h3:=((U1.mono fun _ _ h=>Or.inl h).trans (U2.mono fun _ _ h=>h.elim) fun _ _ h=>h).trans (U3.mono fun _ _ h=>.inr h) fun _ _ h=>h
 refine b8 (aP ?_)
 rw [hcl]
 refine B2.put U3 T3 hown fun h4 hl4 U4 B4=>?_
 refine .inl (hq v' h4 (hUall.trans (U4.mono fun _ _ h=>.inl h) fun _ _ h=>h) B4 fun i hi=>?_)
 rcases F3 i hi with h | h
 ·exact .inl h
 ·exact .inr (by omega)
theorem aG4 {id off n:Nat} {cs:List AV} {buf:AV} {l:List UInt8} (B:Bld h id off cs buf l) (hn:n=cs.length) (hl:l.length≤100000000) (hq:∀ h',Upd (bZ buf) h h'→h'.length=h.length→Q (.s l) h'):C Y87.id [.p (some ⟨id,n,off⟩)] h Q:=by
 subst hn
 refine Y87.call ?_
 simp only [Y87.t]
 have hlen:∀ K:Int→Prop,K (l.length:Int)→bP buf K:=fun K hk=>by
  rcases B.is with ⟨rfl,rfl⟩ | ⟨_,_,rfl,_⟩ <;> exact hk
 refine b8 (aP (aO B.rec' rfl B.cell (b8 (aP (aO B.rec' rfl B.cell (hlen _ ?_))))))
 refine B.is.data ?_
 refine aO B.rec' rfl B.cell ⟨rfl, ?_⟩
 refine B.is.text (by kernel_rfl) (by kernel_rfl) (by omega) fun h1 hl1 U1=>?_
 refine aZ ?_
 have R1:=B.rec'.upd U1 B.own
 refine aO R1 rfl B.cell ⟨rfl,aO R1 rfl B.cell ⟨rfl,.inl (hq h1 U1 hl1)⟩⟩
def bO:List UInt8→List UInt8→List (List UInt8)
 | cur,[]=>[cur]
 | cur,[c]=>if c=44 then [cur,[]] else [cur++[c]]
 | cur,c :: d :: r=>if c=92 then bO (cur++[c,d]) r else if c=44 then cur :: bO [] (d :: r) else bO (cur++[c]) (d :: r)
theorem gY:∀ (cur s:List UInt8),(bO cur s).length≤s.length+1
 | cur,[]=>by simp [bO]
 | cur,[c]=>by unfold bO; split <;> simp
 | cur, c :: d :: r => by
  have h1:=gY (cur++[c,d]) r
  have h2:=gY [] (d :: r)
  have h3:=gY (cur++[c]) (d :: r)
  unfold bO
  simp only [List.length_cons] at *
  split
  ·omega
  ·split
   ·simp only [List.length_cons]; omega
   ·omega
def cP:List UInt8→List UInt8
 | []=>[]
 | [c]=>[c]
 | c :: d :: r=>if c=92 then d :: cP r else c :: cP (d :: r)
theorem pR:∀ s:List UInt8,(cP s).length≤s.length
 | []=>by simp [cP]
 | [c]=>by simp [cP]
 | c :: d :: r => by
  have h1:=pR r
  have h2:=pR (d :: r)
  unfold cP
  split <;> simp only [List.length_cons] at * <;> omega
theorem aK9 {s : List UInt8} (hs : s.length ≤ 1000000) (hq : ∀ v h', eT h h' v ((bO [] s).map .s) → Q v h') :
  ∀ (k i:Nat) (v:AV) (frm:Nat) (done:List (List UInt8)) (hx:aA),s.length≤i+k→i≤s.length+1→frm≤i→frm≤s.length→eT h hx v (done.map .s)→done.length≤i→done++bO ((s.take i).drop frm) (s.drop i)=bO [] s →
  Y37.p0 (aI h Q) s v (frm:Int) (i:Int) hx:=by
 intro k
 induction k using Nat.strongRecOn with
 | _ k ih =>
  intro i v frm done hx hk hi hf hf2 S hd he
  refine Y37.i0 ?_
  simp only [Y37.t0, ← Y37.p1.eq_1]
  by_cases hlt:i<s.length
  ·refine aM (decide_eq_true (by omega)) ?_
   obtain ⟨c,hc⟩:∃ c,s[i]? = some c:=⟨s[i],List.getElem?_eq_getElem hlt⟩
   have hdr:=fB hc
   refine cW hdr ?_
   have p1:∀ (v:AV) (frm j:Nat) (done:List (List UInt8)) (hy:aA),i≤j→j≤s.length→frm≤j+1→frm≤s.length→eT h hy v (done.map .s)→done.length≤j+1→done++bO ((s.take (j+1)).drop frm) (s.drop (j+1))=bO [] s →
     Y37.p1 (aI h Q) s v (frm:Int) (j:Int) hy:=by
    intro v frm j done hy hij hjs hf hf2 S hd he
    refine Y37.i1 ?_
    simp only [Y37.t1, ← Y37.p0.eq_1]
    exact inc (by omega) (ih (s.length - (j+1)) (by omega) (j+1) v frm done hy (by omega) (by omega) hf hf2 S hd he)
   rw [hdr] at he
   have htk:∀ frm,frm≤i→(s.take (i+1)).drop frm=(s.take i).drop frm++[c]:=fun frm hf=>by
    rw [cR hc,List.drop_append_of_le_length (by simp; omega)]
   refine aG (fun e=>?_) fun e=>?_
   ·have e92 : c = 92 := by rw [show (92 : Int) = ((92 : UInt8).toNat : Int) by rfl, iA] at e; exact of_decide_eq_true e
    refine aJ (show IntKind.wrap .i64 ((i:Int)+1)=((i+1:Nat):Int) by rw [aL (by omega) (by omega)]; omega) ?_
    refine p1 v frm (i+1) done hx (by omega) (by omega) (by omega) hf2 S (by omega) ?_
    rw [← he]
    cases hr:s.drop (i+1) with
    | nil =>
     have hl1:=cA hr
     have e1:s.take (i+1+1)=s.take (i+1):=by rw [List.take_of_length_le (by omega),List.take_of_length_le (by omega)]
     have e2:s.drop (i+1+1)=[]:=List.drop_eq_nil_of_le (by omega)
     rw [e1,e2,htk frm hf,e92]
     simp [bO]
    | cons d r =>
     have hd1:=b5 hr
     have e2:=bU hr
     rw [cR hd1,List.drop_append_of_le_length (by have:=cG hr; simp; omega),htk frm hf,e2,e92]
     conv=>rhs; rw [bO,if_pos rfl]
     simp
   ·have e92 : c ≠ 92 := by rw [show (92 : Int) = ((92 : UInt8).toNat : Int) by rfl, iA] at e; exact of_decide_eq_false e
    refine aG (fun e2=>?_) fun e2=>?_
    ·have e44 : c = 44 := by rw [show (44 : Int) = ((44 : UInt8).toNat : Int) by rfl, iA] at e2; exact of_decide_eq_true e2
     refine qC hf (by omega) ?_
     refine eT.push S rfl rfl (by simp; omega) (by simp; omega) fun v' h' S' _ _=>?_
     refine aJ (show IntKind.wrap .i64 ((i:Int)+1)=((i+1:Nat):Int) by rw [aL (by omega) (by omega)]; omega) ?_
     refine p1 v' (i+1) i (done++[(s.take i).drop frm]) h' (Nat.le_refl _) (by omega) (Nat.le_refl _) (by omega) (by simpa using S') (by simp; omega) ?_
     rw [← he]
     have e3:(s.take (i+1)).drop (i+1)=[]:=List.drop_eq_nil_of_le (by simp; omega)
     rw [e3]
     cases hr:s.drop (i+1) with
     | nil=>simp [bO,e44]
     | cons d r=>simp [bO,e44]
    ·have e44 : c ≠ 44 := by rw [show (44 : Int) = ((44 : UInt8).toNat : Int) by rfl, iA] at e2; exact of_decide_eq_false e2
     refine p1 v frm i done hx (Nat.le_refl _) (by omega) (by omega) hf2 S (by omega) ?_
     rw [← he,htk frm hf]
     cases hr:s.drop (i+1) with
     | nil=>simp [bO,e44]
     | cons d r=>simp [bO,e44,e92]
  ·refine aK (decide_eq_false (by omega)) ?_
   have e1:s.take i=s:=List.take_of_length_le (by omega)
   have e2:s.drop i=[]:=List.drop_eq_nil_of_le (by omega)
   rw [e1,e2] at he
   refine iD hf2 ?_
   refine eT.push S rfl rfl (by simp; omega) (by simp; omega) fun v' h' S' _ _=>?_
   refine .inl (hq v' h' ?_)
   rw [← he]
   simpa [bO] using S'
theorem aBJ {s:List UInt8} (hs:s.length≤1000000) (hq:∀ v h',eT h h' v ((bO [] s).map .s)→Q v h'):C Y37.id [.s s] h Q:=by
 refine Y37.call ?_
 simp only [Y37.t, ← Y37.p0.eq_1]
 exact aK9 hs hq s.length 0 _ 0 [] h (by omega) (by omega) (by omega) (by omega) (eT.start h) (by simp) (by simp)
theorem aI1 {s : List UInt8} (hs : s.length ≤ 1000000) (hq : Q (.s (cP s)) h) {id : Nat} (hid : h.length ≤ id) :
  ∀ (k i:Nat) (cs:List AV) (buf:AV) (done:List UInt8) (hx:aA),s.length≤i+k→i≤s.length→cs.length=2→Upd (fun _=>False) h hx→(∀ j,bZ buf j→h.length≤j)→Bld hx id 0 cs buf done→done.length≤i→done++cP (s.drop i)=cP s →
  Y28.p0 (aI h Q) s (.p (some ⟨id,2,0⟩)) (i:Int) hx:=by
 intro k
 induction k using Nat.strongRecOn with
 | _ k ih =>
  intro i cs buf done hx hk hi hcl U hb B hd he
  refine Y28.i0 ?_
  simp only [Y28.t0, ← Y28.p1.eq_1]
  by_cases hlt:i<s.length
  ·refine aM (decide_eq_true (by omega)) ?_
   obtain ⟨c,hc⟩:∃ c,s[i]? = some c:=⟨s[i],List.getElem?_eq_getElem hlt⟩
   have hdr:=fB hc
   refine cW hdr ?_
   rw [hdr] at he
   have p2:∀ (j:Nat) (d:UInt8),i≤j→s[j]? = some d→done++d :: cP (s.drop (j+1))=cP s→Y28.p2 (aI h Q) s (.p (some ⟨id,2,0⟩)) (j:Int) hx:=by
    intro j d hij hjd he
    have hjl:=bM hjd
    refine Y28.i2 ?_
    simp only [Y28.t2, ← Y28.p0.eq_1]
    refine cW (fB hjd) ?_
    refine aC1 B hcl.symm rfl (by omega) fun buf' h' U' B' F'=>?_
    refine inc (by omega) ?_
    have hlen:=U.1
    refine ih (s.length - (j+1)) (by omega) (j+1) _ buf' _ h' (by omega) (by omega) (by rw [aMS,hcl]) (U.trans U' fun j hj hm=>?_) (fun j hj=>?_) B' (by simp; omega) (by simpa using he)
    ·rcases hm with rfl | hm
     ·omega
     ·have:=hb j hm; omega
    ·rcases F' j hj with h | h
     ·exact hb j h
     ·omega
   have p1t:∀ d,s[i+1]? = some d→c=92→Y28.p1 (aI h Q) s (.p (some ⟨id,2,0⟩)) (i:Int) true hx:=by
    intro d hd1 hc92
    refine Y28.i1 ?_
    simp only [Y28.t1, ← Y28.p2.eq_1]
    refine aM rfl (aJ (show IntKind.wrap .i64 ((i:Int)+1)=((i+1:Nat):Int) by rw [aL (by omega) (by omega)]; omega) ?_)
    refine p2 (i+1) d (by omega) hd1 ?_
    rw [← he,fB hd1,hc92]
    simp [cP]
   have p1f:(c≠92∨s.drop (i+1)=[])→Y28.p1 (aI h Q) s (.p (some ⟨id,2,0⟩)) (i:Int) false hx:=by
    intro hn
    refine Y28.i1 ?_
    simp only [Y28.t1, ← Y28.p2.eq_1]
    refine aK rfl (p2 i c (Nat.le_refl _) hc ?_)
    rw [← he]
    cases hr:s.drop (i+1) with
    | nil=>simp [cP]
    | cons d r =>
     rw [hr] at hn
     have hn':c≠92:=hn.resolve_right (by simp)
     simp [cP,hn']
   refine aG (fun e=>?_) fun e=>?_
   ·have e92 : c = 92 := by rw [show (92 : Int) = ((92 : UInt8).toNat : Int) by rfl, iA] at e; exact of_decide_eq_true e
    refine aJ (show IntKind.wrap .i64 ((i:Int)+1)=((i+1:Nat):Int) by rw [aL (by omega) (by omega)]; omega) ?_
    by_cases h2:i+1<s.length
    ·rw [decide_eq_true (by omega : ((i + 1 : Nat) : Int) < (s.length : Int))]
     exact p1t s[i+1] (List.getElem?_eq_getElem h2) e92
    ·rw [decide_eq_false (by omega : ¬ ((i + 1 : Nat) : Int) < (s.length : Int))]
     exact p1f (.inr (List.drop_eq_nil_of_le (by omega)))
   ·have e92 : c ≠ 92 := by rw [show (92 : Int) = ((92 : UInt8).toNat : Int) by rfl, iA] at e; exact of_decide_eq_false e
    exact p1f (.inl e92)
  ·refine aK (decide_eq_false (by omega)) ?_
   rw [List.drop_eq_nil_of_le (by omega)] at he
   simp only [cP,List.append_nil] at he
   subst he
   refine aG4 B hcl.symm (by omega) fun h' U' hl'=>aZ ?_
   refine aV rfl (U.trans U' fun j hj hm=>?_).ext hq
   have:=hb j hm; omega
theorem aBH {s:List UInt8} (hs:s.length≤1000000) (hq:Q (.s (cP s)) h):C Y28.id [.s s] h Q:=by
 refine Y28.call ?_
 simp only [Y28.t, ← Y28.p0.eq_1]
 have U:Upd (fun _=>False) h (h++[bR [.p none,.sl none 0 none] 1 true (some 110)]):=Upd.app _ _
 refine aI1 hs hq (Nat.le_refl _) s.length 0 [.p none,.sl none 0 none] _ [] _ (by omega) (by omega) rfl U (fun j hj=>(show bZ (.sl none 0 none) j from hj).elim) ?_ (by simp) (by simp)
 exact ⟨⟨bR [.p none,.sl none 0 none] 1 true (some 110),110,by simp,rfl,Nat.le_refl _,rfl,rfl,by kernel_rfl⟩,by decide,.inl rfl,rfl,.inl ⟨rfl,rfl⟩,fun h=>h.elim⟩
end
end Go.Proofs.YtcdkpkkdolmfdaaGreatDoor
namespace Go.GAM
def jO (h:aA) (id:Nat) (cs:List AV):Prop:=∃ b:ABlk,h[id]? = some b∧b.cells=cs∧b.floor≤cs.length∧b.gl=true
theorem jO.upd {M:Nat→Prop} {h h':aA} {id:Nat} {cs:List AV} (G:jO h id cs) (U:Upd M h h') (hM:¬ M id):jO h' id cs:=by
 obtain ⟨b,h1,h2⟩:=G
 exact ⟨b,(U.2 id (bM h1) hM).trans h1,h2⟩
theorem jO.var {h:aA} {id:Nat} {cs:List AV} (G:jO h id cs):bG h id = .p (some ⟨id,cs.length,0⟩):=by
 obtain ⟨b,h1,rfl,h3,h4⟩:=G
 unfold bG
 rw [h1]
 simp only [h4,Bool.true_and,Nat.ble_eq_true_of_le h3,cond_true]
theorem jO.loadN {h:aA} {id n:Nat} {cs:List AV} {K:AV→Prop} (G:jO h id cs) (hn:n=cs.length) (hk:K (.ag cs)):aB n (bG h id) h K:=by
 rw [G.var]
 obtain ⟨b,h1,rfl,h3,h4⟩:=G
 subst hn
 refine ⟨b,h1,⟨h3,Nat.le_refl _,by simp⟩, ?_⟩
 simpa using hk
theorem jO.load1 {h:aA} {id:Nat} {v:AV} {K:AV→Prop} (G:jO h id [v]) (hk:K v):aC (bG h id) h K:=by
 rw [G.var]
 obtain ⟨b,h1,h2,h3,h4⟩:=G
 refine ⟨b,h1,⟨h3,by rw [h2]; exact Nat.le_refl _,by simp⟩, ?_⟩
 rw [h2]; exact hk
end Go.GAM
namespace Go.Proofs.YtcdkpkkdolmfdaaGreatDoor
open Go.GAM Go.RowKit
section
variable {h:aA} {Q:AV→aA→Prop}
theorem RdI.elem {sz:Nat} {h:aA} {v:AV} {cs:List AV} {len:Nat} (R:RdI sz h v cs len) {k:IntKind} {i:Int} (h0:0≤i) (h1:i<len) {K:AV→Prop} (hk:K (.ag ((cs.drop (i.toNat * sz)).take sz))) :
  aE sz v (.i k i) h fun a=>aB sz a h K:=by
 obtain ⟨j,rfl⟩:∃ j:Nat,i=j:=⟨i.toNat,by omega⟩
 obtain ⟨p,A,hp⟩:=R.at (i:=j) (by omega)
 exact hp k h _ (Upd.refl _ _) (A.loadN (by simpa using hk))
def cN:List (List UInt8 × List UInt8):=[([67,78],[50,46,53,46,52,46,51]),([79],[50,46,53,46,52,46,49,48]),([79,85],[50,46,53,46,52,46,49,49]),([67],[50,46,53,46,52,46,54])]
structure CG (h:aA):Prop where
 seq:jO h 0 [.i .i64 0,.i .i64 16,.b true]
 set:jO h 8 [.i .i64 0,.i .i64 17,.b true]
 att:∃ v,jO h 7 [v]∧RdI 2 h v (cN.flatMap fun x=>[.s x.1,.s x.2]) 4
theorem CG.ext {h':aA} (G:CG h) (U:Upd (fun _=>False) h h'):CG h':=by
 obtain ⟨v,g1,g2⟩:=G.att
 exact ⟨G.seq.upd U fun h=>h,G.set.upd U fun h=>h,v,g1.upd U fun h=>h,g2.ext U⟩
def shp (c t:Int) (m:Bool):AV:=.ag [.i .i64 c,.i .i64 t,.b m]
theorem aKM {c t c' t':Int} {m m':Bool} {K:AV→Prop} (hk:K (.b (decide (c=c')&&(decide (t=t')&&(m == m'))))):f9 prog .eql 46 (shp c t m) (shp c' t' m') K:=by
 have hg:Program.eqGuardType prog prog.depth 46=false:=by kernel_rfl
 have hst:prog.stoodInHeld 46=false:=by kernel_rfl
 have hi:=aFQ (P:=prog) (d:=62) (kt:=3) (q:=.i64) (by kernel_rfl)
 have h4:prog.underlying 4=some .bool:=Tryz.underlying4
 have h3:prog.underlying 3=some (.int .i64):=by kernel_rfl
 have e:aEq prog 64 46 (shp c t m) (shp c' t' m')=some (decide (c=c')&&(decide (t=t')&&(m == m'))):=by
  show aEq prog (63+1) 46 (.ag [.i .i64 c,.i .i64 t,.b m]) (.ag [.i .i64 c',.i .i64 t',.b m'])=_
  unfold aEq
  rw [show prog.underlying 46=_ from Tryz.underlying46]
  simp only [hst]
  have hb:aEq prog 63 4 (.b m) (.b m')=some (m == m'):=by
   show aEq prog (62+1) 4 (.b m) (.b m')=_
   unfold aEq
   rw [h4]
  simp [hi,hb,h3,h4]
  rw [Bool.eq_iff_iff]; simp
 show (bif Program.eqGuardType prog prog.depth 46 then False else match aEq prog 64 46 (shp c t m) (shp c' t' m') with
  | some r=>fG .eql r K
  | none=>False)
 rw [hg,e]
 exact hk
def isS (c t:Int) (m:Bool):Der→Bool | .mk c' t' m' _ _=>decide (c'=c)&&(decide (t'=t)&&(m' == m))
def Der.kids:Der→List Der | .mk _ _ _ _ ks=>ks
theorem dI {c t:Int} {m:Bool} {d:Der} {cs:List AV} {F:Nat→Prop} (D:DV h F d cs) (hq:Q (.b (isS c t m d)) h):C Y59.id [shp c t m,.ag cs] h Q:=by
 refine Y59.call ?_
 simp only [Y59.t]
 refine d3 rfl fun h1 hl1 U1 R1=>?_
 have D1:=D.ext U1
 refine D1.box fun h2 hl2 U2 R2 D2=>?_
 have R1':=R1.upd U2 fun h=>h
 have hcl:=D.len
 cases D with
 | @mk c' t' m' s ks v rows ks1 sv1 f1 o1=>
 refine aP (aO R2 hcl.symm rfl (aU (aP (aO R2 hcl.symm rfl (aU (aP (aO R2 hcl.symm rfl (aX ?_))))))))
 refine bB R1' rfl ?_
 refine aKM (aX ?_)
 exact aV rfl (U1.trans U2 fun _ _ h=>h).ext hq
theorem DV.kidsLen {d:Der} {cs:List AV} {F:Nat→Prop} (D:DV h F d cs):∃ v rows,cs[4]? = some v∧DVs h F d.kids rows∧kW 5 h v rows.flatten rows.length∧rows.length=d.kids.length∧(∀ i,bZ v i→F i∧i<h.length):=by
 cases D with
 | @mk c' t' m' s ks v rows ks1 sv1 f1 o1=>exact ⟨v,rows,rfl,ks1,sv1,ks1.length.symm,f1⟩
theorem nJ {c t n:Int} {m:Bool} {d:Der} {cs:List AV} {F:Nat→Prop} (D:DV h F d cs) {v:AV} (hv:cs[4]? = some v) (hq:∀ h',Upd (fun _=>False) h h'→Q (.tu [v,.b (isS c t m d&&(decide (n<0)||decide ((d.kids.length:Int)=n)))]) h') :
  C Y41.id [shp c t m,.ag cs,.i .i64 n] h Q:=by
 refine Y41.call ?_
 simp only [Y41.t, ← Y41.p0.eq_1]
 refine d3 rfl fun h1 hl1 U1 R1=>?_
 have D1:=D.ext U1
 refine D1.box fun h2 hl2 U2 R2 D2=>?_
 have R1':=R1.upd U2 fun h=>h
 have hcl:=D.len
 obtain ⟨v',rows,hv',hks,hsa,hrl,_⟩:=D2.kidsLen
 rw [hv] at hv'; cases hv'
 have p0:∀ b,b=(isS c t m d&&(decide (n<0)||decide ((d.kids.length:Int)=n)))→Y41.p0 (aI h Q) v b h2:=by
  intro b hb
  refine Y41.i0 ?_
  simp only [Y41.t0]
  subst hb
  exact .inl (hq h2 (U1.trans U2 fun _ _ h=>h))
 refine aP (aO R2 hcl.symm hv (bB R1' rfl (bB R2 hcl.symm ?_)))
 refine dI D2 (aX (aO R2 hcl.symm hv ⟨rfl, ?_⟩))
 refine aG (fun e=>?_) fun e=>p0 _ (by rw [e] <;> rfl)
 refine aG (fun e2=>p0 _ (by rw [e,e2] <;> rfl)) fun e2=>?_
 refine aP (aO R2 hcl.symm hv (hsa.len (p0 _ ?_)))
 rw [e,e2,hrl] <;> rfl
end
end Go.Proofs.YtcdkpkkdolmfdaaGreatDoor
namespace Go.Proofs.YtcdkpkkdolmfdaaGreatDoor
open Go.GAM Go.RowKit
theorem DV.cells' {h:aA} {F:Nat→Prop} {d:Der} {cs:List AV} (D:DV h F d cs):cs.all AV.cellOK=true:=by
 cases D with
 | mk _ _ _ hc=>simp [AV.cellOK] at hc ⊢; exact hc
def kR (o:List UInt8):List UInt8:=cN.foldl (fun n x=>if x.2=o then x.1 else n) []
def sps:List UInt8:=[92,44,61]
def qF (a b:Der):Option (List UInt8):=
 if (g8 a).2=true∧(lF b).2=true∧kR (g8 a).1≠[] then some ((kR (g8 a).1++[61])++b3 sps (lF b).1) else none
def rO (s : Der) : Option (List UInt8) :=
 if isS 0 17 true s=true then match s.kids with
  | [k] => if isS 0 16 true k = true then match k.kids with
   | [a,b]=>qF a b
   | _=>none
   else none
  | _=>none
 else none
def iR : List Der → Option (List (List UInt8))
 | []=>some []
 | s :: r => match rO s with
  | none=>none
  | some x => match iR r with
   | none=>none
   | some l=>some (x :: l)
def cZ (d:Der):Option (List UInt8):=if isS 0 16 true d=true then (iR d.kids).map fun l=>Lib.join l [44] else none
def aBV:Option (List UInt8)→AV
 | none=>.tu [.s [],.i .i64 2]
 | some t=>.tu [.s t,.i .i64 0]
def wK (d:Der):Prop:=d.kids.length≤4000∧∀ s∈d.kids, ∀ k∈s.kids, ∀ x∈k.kids,x.data.length≤100000
theorem uF (o:List UInt8):(kR o).length≤2:=by
 have:∀ (l:List (List UInt8 × List UInt8)) (n:List UInt8),n.length≤2→(∀ x∈l,x.1.length≤2)→(l.foldl (fun n x=>if x.2=o then x.1 else n) n).length≤2:=by
  intro l
  induction l with
  | nil=>intro n hn _; exact hn
  | cons x l ih =>
   intro n hn hl
   rw [List.foldl_cons]
   refine ih _ ?_ fun y hy=>hl y (by simp [hy])
   split
   ·exact hl x (by simp)
   ·exact hn
 exact this cN [] (by simp) (by decide)
theorem uP:sps.Nodup:=by decide
theorem aB0 (b:Der):(lF b).1.length≤b.data.length:=by unfold lF; split <;> simp
theorem aGD {a b:Der} {x:List UInt8} (h:qF a b=some x) (hb:b.data.length≤100000):x.length≤200010:=by
 unfold qF at h
 split at h
 ·cases h
  have h1:=uF (g8 a).1
  have h2:=iF uP (lF b).1
  have h3:=oR uP (lF b).1
  have h4:=aB0 b
  simp only [List.length_append,List.length_cons,List.length_nil]; omega
 ·cases h
theorem aK3 {s : Der} {x : List UInt8} (h : rO s = some x) (hb : ∀ k ∈ s.kids, ∀ x ∈ k.kids, x.data.length ≤ 100000) : x.length ≤ 200010 := by
 unfold rO at h
 split at h
 ·split at h
  ·rename_i k hk
   split at h
   ·split at h
    ·rename_i a b hab
     exact aGD h (hb k (by rw [hk]; simp) b (by rw [hab]; simp))
    ·cases h
   ·cases h
  ·cases h
 ·cases h
theorem aIS (sep : UInt8) (M : Nat) : ∀ l : List (List UInt8), (∀ x ∈ l, x.length ≤ M) → (Lib.join l [sep]).length ≤ l.length * (M + 1)
 | [],_=>by simp [Lib.join_nil]
 | x :: r, h => by
  rw [Lib.join_cons,List.length_append,List.length_cons]
  have hx:=h x (by simp)
  have key:∀ r:List (List UInt8),(∀ x∈r,x.length≤M)→(Lib.joinTail [sep] r).length≤r.length * (M+1):=by
   intro r
   induction r with
   | nil=>intro _; simp [Lib.joinTail]
   | cons y r ih =>
    intro hr
    have:=ih fun z hz=>hr z (by simp [hz])
    have hy:=hr y (by simp)
    unfold Lib.joinTail at *
    simp only [List.map_cons,List.flatten_cons,List.length_append,List.length_cons,List.length_nil,Nat.add_mul,Nat.one_mul] at *
    omega
  have:=key r fun z hz=>h z (by simp [hz])
  rw [Nat.add_mul,Nat.one_mul]; omega
section
variable {h:aA} {Q:AV→aA→Prop}
def yB (ok:Bool) (done:List (List UInt8)) (r:List Der):Option (List UInt8):=match iR r with
 | none=>none
 | some l=>if ok=true then some (Lib.join (done++l) [44]) else none
theorem kW.row {h:aA} {F:Nat→Prop} {v:AV} {ks:List Der} {rows:List (List AV)} (hks:DVs h F ks rows) (S:kW 5 h v rows.flatten rows.length) {i:Nat} {k:Der} (hk:ks[i]? = some k) :
  ∃ id ver off cap r, v = .sl (some ⟨id, ver, off⟩) rows.length cap ∧ DV h F k r ∧
   ∀ h',Upd (fun _=>False) h h'→(∀ (kk:IntKind) (K:AV→Prop),K (.p (some ⟨id,ver,off+i * 5⟩))→aE 5 v (.i kk (i:Int)) h' K)∧∀ K:AV→Prop,K (.ag r)→aB 5 (.p (some ⟨id,ver,off+i * 5⟩)) h' K:=by
 obtain ⟨r,hr,D⟩:=hks.get hk
 have hi:i<rows.length:=bM hr
 obtain ⟨id,ver,off,cap,b,rfl,RA⟩:=S.at (by omega)
 refine ⟨id,ver,off,cap,r,rfl,D,fun h' U=>?_⟩
 have RA':=RA.upd U fun h=>h
 exact ⟨fun kk K hK=>dE RA' hi hK,fun K hK=>nG RA' hi (j4 rows i r hks.len5 hr) hK⟩
theorem aM2 {x5 x10 x14 : Bool} {x6 v va : AV} {x12 x13 : List UInt8} {n i : Int} {h0 : aA} (hA : RdI 2 h0 va (cN.flatMap fun x => [.s x.1, .s x.2]) 4)
  (next:∀ (h':aA) (b:Bool),Upd (fun _=>False) h h'→b = !(x10&&(x14 && !(decide (kR x12=[]))))→Y17.p3 Q x5 x6 x13 (kR x12) v n i b h') :
  ∀ (k j:Nat) (hx:aA),4=j+k→Upd (fun _=>False) h0 hx→Upd (fun _=>False) h hx→Y17.p1 Q x5 x6 x10 x12 x13 x14 ((cN.take j).foldl (fun n x=>if x.2=x12 then x.1 else n) []) v n i va 4 (j:Int) hx:=by
 intro k
 induction k with
 | zero =>
  intro j hx hj U0 U
  obtain rfl:j=4:=by omega
  refine Y17.i1 ?_
  simp only [Y17.t1, ← Y17.p3.eq_1]
  refine aK (by decide) ?_
  have e:(cN.take 4).foldl (fun n x=>if x.2=x12 then x.1 else n) []=kR x12:=rfl
  rw [e]
  cases x10 with
  | false=>exact aM rfl (next hx true U (by simp))
  | true =>
   refine aK rfl ?_
   cases x14 with
   | false=>exact aM rfl (next hx true U (by simp))
   | true=>exact aK rfl (next hx _ U (by simp))
 | succ k ih =>
  intro j hx hj U0 U
  obtain ⟨x,hc⟩:∃ x,cN[j]? = some x:=⟨cN[j]'(by show j<4; omega),List.getElem?_eq_getElem _⟩
  have htk:=cR hc
  refine Y17.i1 ?_
  simp only [Y17.t1, ← Y17.p2.eq_1]
  refine aM (decide_eq_true (by omega)) ?_
  have hrow:((cN.flatMap fun x=>[AV.s x.1,AV.s x.2]).drop (j * 2)).take 2=[.s x.1,.s x.2]:=by
   have:∀ j x,cN[j]? = some x→((cN.flatMap fun x=>[AV.s x.1,AV.s x.2]).drop (j * 2)).take 2=[.s x.1,.s x.2]:=by
    intro j x hjx
    have hj4:j<4:=bM hjx
    match j,hj4 with
    | 0,_=>simp [cN] at hjx ⊢; subst hjx; simp
    | 1,_=>simp [cN] at hjx ⊢; subst hjx; simp
    | 2,_=>simp [cN] at hjx ⊢; subst hjx; simp
    | 3,_=>simp [cN] at hjx ⊢; subst hjx; simp
   exact this j x hc
  refine RdI.elem (hA.ext U0) (by omega) (by omega) ?_
  simp only [Int.toNat_natCast]
  rw [hrow]
  refine b9 fun h1 hl1 U1 R1=>?_
  refine bA R1 rfl rfl rfl fun h2 hl2 U2 R2=>?_
  have U02:Upd (fun _=>False) hx h2:=U1.trans U2 fun i hi e=>by omega
  have nxt:∀ x15,x15=(cN.take (j+1)).foldl (fun n x=>if x.2=x12 then x.1 else n) []→Y17.p2 Q x5 x6 x10 x12 x13 x14 x15 v n i va 4 (j:Int) h2:=by
   intro x15 he
   refine Y17.i2 ?_
   simp only [Y17.t2, ← Y17.p1.eq_1]
   subst he
   exact inc (by omega) (ih (j+1) h2 (by omega) (U0.trans U02 fun _ _ h=>h) (U.trans U02 fun _ _ h=>h))
  refine aP (aO R2 rfl rfl (aZ ?_))
  refine aG (fun e=>?_) fun e=>?_
  ·refine aP (aO R2 rfl rfl (aZ (nxt _ ?_)))
   rw [htk,List.foldl_append,List.foldl_cons,List.foldl_nil,if_pos (of_decide_eq_true e)]
  ·refine nxt _ ?_
   rw [htk,List.foldl_append,List.foldl_cons,List.foldl_nil,if_neg (of_decide_eq_false e)]
theorem aPC (ok:Bool) (done:List (List UInt8)) (s:Der) (r:List Der):yB ok done (s :: r)=match rO s with
  | none=>none
  | some x=>yB ok (done++[x]) r:=by
 have e:iR (s :: r)=match rO s with
  | none=>none
  | some x => match iR r with
   | none=>none
   | some l=>some (x :: l):=rfl
 unfold yB
 rw [e]
 cases rO s with
 | none=>rfl
 | some x=>cases iR r <;> simp
theorem aLH (G : CG h) {F : Nat → Prop} {d : Der} (hB : wK d) {v : AV} {rows : List (List AV)} (hks : DVs h F d.kids rows) (hsa : kW 5 h v rows.flatten rows.length) {ok : Bool} :
  ∀ (r:List Der) (i:Nat) (v6:AV) (done:List (List UInt8)) (hx:aA),d.kids.drop i=r→i≤d.kids.length→Upd (fun _=>False) h hx→eT h hx v6 (done.map .s)→done.length≤i→(∀ x∈done,x.length≤200010) →
  Q (aBV (yB ok done r)) h→Y17.p0 (aI h Q) ok v6 v (rows.length:Int) (i:Int) hx:=by
 have hrl:=hks.length
 intro r
 induction r with
 | nil =>
  intro i v6 done hx hr hi U S hd hdl hq
  have hle:=cA hr
  have hN:=hB.1
  refine Y17.i0 ?_
  simp only [Y17.t0]
  refine aK (decide_eq_false (by omega)) ?_
  have hq:Q (aBV (if ok=true then some (Lib.join (done++[]) [44]) else none)) h:=hq
  rw [List.append_nil] at hq
  cases ok with
  | false=>exact aM rfl (aV rfl U.ext hq)
  | true =>
   refine aK rfl (aNP (ls:=done) ?_ ?_ (by omega) (aZ (aV rfl U.ext hq)))
   ·have:=S.stk.rd; rwa [List.length_map] at this
   ·have h1 := aIS 44 200010 done hdl
    have h2:done.length * (200010+1)≤4000 * (200010+1):=Nat.mul_le_mul_right _ (by omega)
    omega
 | cons s r ih =>
  intro i v6 done hx hr hi U S hd hdl hq
  have hN:=hB.1
  have hlt:=cG hr
  have hnx:=bU hr
  have hsi:=b5 hr
  have hsm:=List.mem_of_getElem? hsi
  rw [aPC] at hq
  refine Y17.i0 ?_
  simp only [Y17.t0, ← Y17.p1.eq_1]
  refine aM (decide_eq_true (by omega)) ?_
  obtain ⟨id,ver,off,cap,rw1,rfl,Ds,hrd⟩:=kW.row hks hsa hsi
  obtain ⟨k1,k2⟩:=hrd hx U
  refine k1 _ _ (k2 _ ?_)
  have hcl:=Ds.len
  refine b9 fun h1 hl1 U1 R1=>?_
  refine bA R1 rfl hcl Ds.cells' fun h2 hl2 U2 R2=>?_
  have Ux2:Upd (fun _=>False) hx h2:=U1.trans U2 fun i hi e=>by omega
  have U02:Upd (fun _=>False) h h2:=U.trans Ux2 fun _ _ h=>h
  refine (G.ext U02).set.loadN rfl (bB R2 hcl.symm ?_)
  have Ds2:=Ds.ext U02
  obtain ⟨vs,rs,hvs,hkss,hsas,hrls,_⟩:=Ds2.kidsLen
  refine nJ Ds2 hvs fun h3 U3=>?_
  refine bD (bC (aX ?_))
  have U03:=U02.trans U3 fun _ _ h=>h
  have fail:∀ hy,Upd (fun _=>False) h hy→rO s=none→aI h Q (.tu [.s [],.i .i64 2]) hy:=by
   intro hy Uy he
   rw [he] at hq
   exact aV rfl Uy.ext hq
  refine aG (fun e=>fail _ U03 ?_) fun e=>?_
  ·unfold rO
   split
   ·rename_i hs
    split
    ·rename_i k hk
     rw [hs,hk] at e
     simp at e
    ·rfl
   ·rfl
  have e:isS 0 17 true s=true∧s.kids.length=1:=by
   simp at e
   exact ⟨e.1,by omega⟩
  obtain ⟨k,hk⟩:∃ k,s.kids=[k]:=by
   match hh:s.kids with
   | [k]=>exact ⟨k,rfl⟩
   | []=>rw [hh] at e; simp at e
   | _ :: _ :: _=>rw [hh] at e; simp at e
  have hset:rO s=if isS 0 16 true k=true then (match k.kids with
   | [a,b]=>qF a b
   | _=>none) else none:=by
   unfold rO
   rw [if_pos e.1,hk]
  refine (G.ext U03).seq.loadN rfl ?_
  obtain ⟨id1,ver1,off1,cap1,rw2,rfl,Dk,hrd1⟩:=kW.row hkss hsas (i:=0) (k:=k) (by rw [hk] <;> rfl)
  obtain ⟨m1,m2⟩:=hrd1 h3 U3
  refine m1 _ _ (m2 _ ?_)
  have Dk3:=Dk.ext U3
  obtain ⟨vk,rk,hvk,hksk,hsak,hrlk,_⟩:=Dk3.kidsLen
  refine nJ Dk3 hvk fun h4 U4=>?_
  have U04:=U03.trans U4 fun _ _ h=>h
  obtain ⟨n1,n2⟩:=hrd1 h4 (U3.trans U4 fun _ _ h=>h)
  refine n1 _ _ ⟨rfl, ?_⟩
  refine bD (bC (aX ?_))
  refine aG (fun e2=>fail _ U04 ?_) fun e2=>?_
  ·rw [hset]
   split
   ·rename_i hs
    split
    ·rename_i a b hab
     rw [hs,hab] at e2
     simp at e2
    ·rfl
   ·rfl
  have e2:isS 0 16 true k=true∧k.kids.length=2:=by
   simp at e2
   exact ⟨e2.1,by omega⟩
  obtain ⟨a,b,hab⟩:∃ a b,k.kids=[a,b]:=by
   match hh:k.kids with
   | [a,b]=>exact ⟨a,b,rfl⟩
   | []=>rw [hh] at e2; simp at e2
   | [_]=>rw [hh] at e2; simp at e2
   | _ :: _ :: _ :: _=>rw [hh] at e2; simp at e2
  have hset:rO s=qF a b:=by rw [hset,if_pos e2.1,hab]
  have hkm:k∈s.kids:=by rw [hk]; simp
  have hda:=hB.2 s hsm k hkm a (by rw [hab]; simp)
  have hdb:=hB.2 s hsm k hkm b (by rw [hab]; simp)
  obtain ⟨id2,ver2,off2,cap2,ra,hva,Da,hrda⟩:=kW.row hksk hsak (i:=0) (k:=a) (by rw [hab] <;> rfl)
  obtain ⟨id3,ver3,off3,cap3,rb,hvb,Db,hrdb⟩:=kW.row hksk hsak (i:=1) (k:=b) (by rw [hab] <;> rfl)
  subst hva
  cases hvb
  obtain ⟨a1,a2⟩:=hrda h4 U4
  obtain ⟨b1,b2⟩:=hrdb h4 U4
  refine a1 _ _ (a2 _ ?_)
  refine aM5 (Da.ext U4) hda (bD (aZ (bC (aX ?_))))
  refine b1 _ _ (b2 _ ?_)
  refine aNN (Db.ext U4) hdb (bD (aZ (bC (aX ?_))))
  obtain ⟨va,g1,g2⟩:=(G.ext U04).att
  refine g1.load1 (g2.len ?_)
  refine aM2 g2 (fun h5 bb U5 hb=>?_) 4 0 h4 rfl (Upd.refl _ _) (Upd.refl _ _)
  have U05:=U04.trans U5 fun _ _ h=>h
  refine Y17.i3 ?_
  simp only [Y17.t3, ← Y17.p0.eq_1]
  refine aG (fun e3=>fail _ U05 ?_) fun e3=>?_
  ·rw [hset]
   unfold qF
   rw [if_neg]
   intro hh
   rw [e3,hh.1,hh.2.1] at hb
   simp at hb
   exact hh.2.2 hb
  have hh:(g8 a).2=true∧(lF b).2=true∧kR (g8 a).1≠[]:=by
   rw [e3] at hb
   have hb:=hb.symm
   simp at hb
   exact hb
  have hset:rO s=some ((kR (g8 a).1++[61])++b3 sps (lF b).1):=by
   rw [hset]; unfold qF; rw [if_pos hh]
  have hxl:=aK3 hset fun k hk x hx=>hB.2 s hsm k hk x hx
  rw [hset] at hq
  have hl1:=uF (g8 a).1
  have hl2:=aB0 b
  refine ⟨by simp; omega, ?_⟩
  refine eO (cs:=(fK sps).map .s) rfl rfl fun y h6 hl6 U6 R6 F6=>?_
  refine aIJ (sp:=sps) (by decide) R6 (by decide) fun idp h7 U7 hn7 N7=>?_
  refine aG6 (sp:=sps) (by omega) uP (by decide) (by decide) N7 fun h8 U8 _=>?_
  refine aZ ⟨by simp only [List.length_append,List.length_cons,List.length_nil] at hxl ⊢; omega, ?_⟩
  have U58:Upd (fun _=>False) h5 h8:=((U6.trans U7 fun _ _ h=>h).trans U8 fun i hi e=>by have:=U6.1; omega)
  have U08:=U05.trans U58 fun _ _ h=>h
  have Ux8:Upd (fun _=>False) hx h8:=(((Ux2.trans U3 fun _ _ h=>h).trans U4 fun _ _ h=>h).trans U5 fun _ _ h=>h).trans U58 fun _ _ h=>h
  have S8:eT h h8 v6 (done.map .s):=⟨U08,S.stk.upd Ux8 fun _ _ h=>h,S.new⟩
  refine eT.push S8 rfl rfl (by simp; omega) (by simp; omega) fun v' h9 S9 U9 _=>?_
  refine inc (by omega) (ih (i+1) v' (done++[(kR (g8 a).1++[61])++b3 sps (lF b).1]) h9 hnx (by omega) S9.upd (by simpa using S9) (by simp; omega) (fun x hx=>?_) hq)
  rcases List.mem_append.1 hx with h | h
  ·exact hdl x h
  ·simp at h; subst h; simpa using hxl
theorem aJM (G:CG h) {F:Nat→Prop} {d:Der} {cs:List AV} (D:DV h F d cs) (hB:wK d) (hq:Q (aBV (cZ d)) h):C Y17.id [.ag cs] h Q:=by
 refine Y17.call ?_
 simp only [Y17.t, ← Y17.p0.eq_1]
 refine D.box fun h1 hl1 U1 R1 D1=>?_
 refine (G.ext U1).seq.loadN rfl (bB R1 D.len.symm ?_)
 obtain ⟨v,rows,hv,hks,hsa,hrl,_⟩:=D1.kidsLen
 refine nJ D1 hv fun h2 U2=>bD (bC (aX ?_))
 have U02:=U1.trans U2 fun _ _ h=>h
 obtain ⟨v',rows',hv',hks',hsa',hrl',_⟩:=D.kidsLen
 have hdv:v'=v:=by rw [hv] at hv'; exact (Option.some.inj hv').symm
 subst hdv
 have hsl:∀ K:Int→Prop,K (rows'.length:Int)→bP v' K:=fun K hk=>hsa'.len hk
 refine hsl _ ?_
 have e:(isS 0 16 true d&&(decide ((-1:Int)<0)||decide ((d.kids.length:Int) = -1)))=isS 0 16 true d:=by
  rw [show decide ((-1:Int)<0)=true by decide,Bool.true_or,Bool.and_true]
 rw [e]
 refine aLH G hB hks' hsa' d.kids 0 _ [] h2 rfl (by omega) U02 ⟨U02,.inl ⟨rfl,rfl⟩,fun _ h=>h.elim⟩ (by simp) (fun x hx=>by cases hx) ?_
 have e2:yB (isS 0 16 true d) [] d.kids=cZ d:=by
  unfold yB cZ
  cases iR d.kids with
  | none=>simp
  | some l=>by_cases hh:isS 0 16 true d=true <;> simp [hh]
 rw [e2]; exact hq
end
end Go.Proofs.YtcdkpkkdolmfdaaGreatDoor
namespace Go.Proofs.YtcdkpkkdolmfdaaGreatDoor
open Go.GAM Go.RowKit
section
variable {h:aA} {Q:AV→aA→Prop}
theorem sA {c t:Int} {m:Bool} {v:AV} (hv:∃ a n cap,v = .sl a n cap) (hq:∀ h',Upd (fun _=>False) h h'→Q (.ag [.i .i64 c,.i .i64 t,.b true,.s [],v]) h'):C Y43.id [shp c t m,v] h Q:=by
 obtain ⟨a,n,cap,rfl⟩:=hv
 refine Y43.call ?_
 simp only [Y43.t]
 refine d3 rfl fun h1 hl1 U1 R1=>?_
 refine b9 fun h2 hl2 U2 R2=>?_
 have R1':=R1.upd U2 fun h=>h
 refine aP (aO R1' rfl rfl (aU (aP (aO R1' rfl rfl (aU ?_)))))
 refine zX (cs:=[.i .i64 c,.i .i64 t,.b true,.s [],.sl a n cap]) rfl ?_
 refine bA R2 rfl rfl rfl fun h3 hl3 U3 R3=>bB R3 rfl ?_
 exact .inl (hq h3 ((U1.trans U2 fun _ _ h=>h).trans U3 fun i hi e=>by omega))
theorem fX {c t:Int} {m:Bool} {s:List UInt8} (hq:Q (.ag (bF c t false s)) h):C Y70.id [shp c t m,.s s] h Q:=by
 refine Y70.call ?_
 simp only [Y70.t]
 refine d3 rfl fun h1 hl1 U1 R1=>?_
 refine b9 fun h2 hl2 U2 R2=>?_
 have R1':=R1.upd U2 fun h=>h
 refine aP (aO R1' rfl rfl (aU (aP (aO R1' rfl rfl (aU ?_)))))
 refine bA R2 rfl rfl rfl fun h3 hl3 U3 R3=>bB R3 rfl ?_
 exact aV rfl ((U1.trans U2 fun _ _ h=>h).trans U3 fun i hi e=>by omega).ext hq
def cJ (o:List UInt8):List UInt8:=match g9 o with
 | .ok l=>l
 | .error _=>[]
theorem lD:∀ x∈cN,g9 x.2 = .ok (cJ x.2)∧(cJ x.2).length≤10:=by
 intro x hx
 simp only [cN,List.mem_cons,List.not_mem_nil,or_false] at hx
 rcases hx with rfl | rfl | rfl | rfl
 ·exact ⟨by kernel_rfl,by decide +kernel⟩
 ·exact ⟨by kernel_rfl,by decide +kernel⟩
 ·exact ⟨by kernel_rfl,by decide +kernel⟩
 ·exact ⟨by kernel_rfl,by decide +kernel⟩
def gF (o text:List UInt8):Der:=.mk 0 17 true [] [.mk 0 16 true [] [.mk 0 6 false (cJ o) [],.mk 0 12 false (cP text) []]]
def kidsOf (part:List UInt8):List Der:=cN.flatMap fun x=>if x.1=(oB part 61).1 then [gF x.2 (oB part 61).2.1] else []
def gQ (ks:List Der):Der:=.mk 0 16 true [] ks
def bK (s : List UInt8) : Der × Int :=
 if 512<s.length then (.zero,3) else if s=[] then (gQ [],0) else
  if cZ (gQ ((bO [] s).flatMap kidsOf))=some s then (gQ ((bO [] s).flatMap kidsOf),0) else (.zero,5)
theorem Arr.cell {sz:Nat} {h:aA} {v:AV} {cs:List AV} {n:Nat} (A:Arr sz h v cs n):v.parts=[v]∧v.sizeOK=true∧v.cellOK=true:=by
 rcases A with ⟨rfl,_⟩ | ⟨_,_,rfl,_⟩ <;> exact ⟨rfl,rfl,rfl⟩
structure NSt (h0 hb h:aA) (id0 id1:Nat) (v:AV) (ks:List Der):Prop where
 ub:Upd (fun _=>False) h0 hb
 upd:Upd (· = id1) hb h
 n0:h0.length≤id0
 n1:h0.length≤id1
 l0:id0<hb.length
 l1:id1<hb.length
 ne:id0≠id1
 r0:bE h id0 z5
 r1:bE h id1 [.i .i64 0,.i .i64 16,.b true,.s [],v]
 arr:∃ rows,Arr 5 h v rows.flatten rows.length∧DVs h (fun i=>hb.length≤i∧¬ bZ v i) ks rows
 new:∀ i,bZ v i→hb.length≤i
theorem NSt.ext {h0 hb h h':aA} {id0 id1:Nat} {v:AV} {ks:List Der} (S:NSt h0 hb h id0 id1 v ks) (U:Upd (fun _=>False) h h'):NSt h0 hb h' id0 id1 v ks:=by
 obtain ⟨rows,A,D⟩:=S.arr
 exact ⟨S.ub,S.upd.trans (U.mono fun _ _ h=>h.elim) fun _ _ h=>h,S.n0,S.n1,S.l0,S.l1,S.ne,S.r0.upd U fun h=>h,S.r1.upd U fun h=>h,⟨rows,A.upd U fun _ _ h=>h,D.upd U fun i hi _=>⟨fun h=>h,hi⟩⟩,S.new⟩
theorem NSt.low {h0 hb h:aA} {id0 id1:Nat} {v:AV} {ks:List Der} (S:NSt h0 hb h id0 id1 v ks):Upd (fun _=>False) h0 h:=
 S.ub.trans S.upd fun i hi e=>by have:=S.n1; omega
theorem NSt.val {h0 hb h:aA} {id0 id1:Nat} {v:AV} {ks:List Der} (S:NSt h0 hb h id0 id1 v ks):DV h (fun i=>h0.length≤i) (gQ ks) [.i .i64 0,.i .i64 16,.b true,.s [],v]:=by
 obtain ⟨rows,A,D⟩:=S.arr
 have hb0:=S.ub.1
 exact .mk (D.upd (Upd.refl (fun _=>False) h) fun i hi _=>⟨fun h=>h,by omega⟩) (.inl A.rd) (fun i hi=>⟨by have:=S.new i hi; omega,A.rd.lt hi⟩) (Arr.cell A).2.2
theorem NSt.push {h0 hb h:aA} {id0 id1:Nat} {v y:AV} {ks:List Der} {k:Der} {r:List AV} {ty:Option TypeId} (S:NSt h0 hb h id0 id1 v ks) (hn:ks.length≤4000) (R:Rd 5 h y r 1) (hrl:r.length=5) (hrc:r.all AV.cellOK=true)
  (D:DV h (fun i=>hb.length≤i∧¬ bZ v i) k r) {K:AV→aA→Prop}
  (hk:∀ v' h',Upd (bZ v) h h'→bE h' id1 [.i .i64 0,.i .i64 16,.b true,.s [],v]→(v'.parts=[v']∧v'.sizeOK=true∧v'.cellOK=true)→(∀ h'',h''.length=h'.length→Upd (· = id1) h' h''→bE h'' id1 [.i .i64 0,.i .i64 16,.b true,.s [],v']→NSt h0 hb h'' id0 id1 v' (ks++[k]))→K v' h') :
  bN ty 5 64 v y h K:=by
 obtain ⟨rows,A,Ds⟩:=S.arr
 have hrows:=Ds.length
 have hl0:=S.l0
 have hl1:=S.l1
 have hbh:=S.upd.1
 refine A.append (by decide) (ns:=r) (k:=1) (fun K hK=>R.news hK) (by omega) hrc (by omega) (by omega) fun v' h' U A' F=>?_
 have out:∀ i,i<hb.length→¬ bZ v i:=fun i hi hs=>by have:=S.new i hs; omega
 refine hk v' h' U (S.r1.upd U (out _ hl1)) (Arr.cell A') fun h'' hl'' U'' R''=>?_
 have hnew':∀ i,bZ v' i→hb.length≤i:=fun i hi=>by
  rcases F i hi with hh | hh
  ·exact S.new i hh
  ·omega
 have Dall:=Ds.app D
 have e1:(rows++[r]).flatten=rows.flatten++r:=by simp
 have e2:(rows++[r]).length=rows.length+1:=by simp
 refine ⟨S.ub,(S.upd.trans U fun i hi hs=>absurd hs (out i hi)).trans U'' fun _ _ h=>h,S.n0,S.n1,hl0,hl1,S.ne,(S.r0.upd U (out _ hl0)).upd U'' S.ne,R'',⟨rows++[r], ?_, ?_⟩,hnew'⟩
 ·rw [e1, e2]
  exact A'.upd U'' fun i hi e=>by have:=hnew' i hi; omega
 ·have D1 : DVs h' (fun i => hb.length ≤ i ∧ ¬ bZ v' i) (ks ++ [k]) (rows ++ [r]) := Dall.upd U fun i hi hil => ⟨hi.2, hi.1, fun hs => by
   rcases F i hs with hh | hh
   ·exact hi.2 hh
   ·omega⟩
  exact D1.upd U'' fun i hi _=>⟨by omega,hi⟩
theorem aGV {h0 hb : aA} (G : CG h0) {va : AV} (gva : jO h0 7 [va]) (hA : RdI 2 h0 va (cN.flatMap fun x => [.s x.1, .s x.2]) 4) {id0 id1 : Nat} {s name text : List UInt8} {x26 : AV} {n27 i28 : Int} (ht : text.length ≤ 1000000) {ks0 : List Der} (hk0 : ks0.length ≤ 3000)
  (next:∀ v h',NSt h0 hb h' id0 id1 v (ks0++cN.flatMap fun x=>if x.1=name then [gF x.2 text] else [])→aQ (IntKind.wrap .i64 (i28+1)) fun n125=>Y12.p0 (aI h0 Q) s (.p (some ⟨id0,5,0⟩)) (.p (some ⟨id1,5,0⟩)) x26 n27 n125 h') :
  ∀ (k j:Nat) (v:AV) (hx:aA),4=j+k→NSt h0 hb hx id0 id1 v (ks0++(cN.take j).flatMap fun x=>if x.1=name then [gF x.2 text] else []) →
  Y12.p1 (aI h0 Q) s (.p (some ⟨id0,5,0⟩)) (.p (some ⟨id1,5,0⟩)) name text x26 n27 i28 va 4 (j:Int) hx:=by
 intro k
 induction k with
 | zero =>
  intro j v hx hj S
  obtain rfl:j=4:=by omega
  refine Y12.i1 ?_
  simp only [Y12.t1, ← Y12.p0.eq_1]
  exact aK (by decide) (next v hx S)
 | succ k ih =>
  intro j v hx hj S
  obtain ⟨x,hc⟩:∃ x,cN[j]? = some x:=⟨cN[j]'(by show j<4; omega),List.getElem?_eq_getElem _⟩
  have hxm:=List.mem_of_getElem? hc
  have htk:=cR hc
  refine Y12.i1 ?_
  simp only [Y12.t1, ← Y12.p2.eq_1]
  refine aM (decide_eq_true (by omega)) ?_
  have hrow:((cN.flatMap fun x=>[AV.s x.1,AV.s x.2]).drop (j * 2)).take 2=[.s x.1,.s x.2]:=by
   have:∀ j x,cN[j]? = some x→((cN.flatMap fun x=>[AV.s x.1,AV.s x.2]).drop (j * 2)).take 2=[.s x.1,.s x.2]:=by
    intro j x hjx
    have hj4:j<4:=bM hjx
    match j,hj4 with
    | 0,_=>simp [cN] at hjx ⊢; subst hjx; simp
    | 1,_=>simp [cN] at hjx ⊢; subst hjx; simp
    | 2,_=>simp [cN] at hjx ⊢; subst hjx; simp
    | 3,_=>simp [cN] at hjx ⊢; subst hjx; simp
   exact this j x hc
  refine RdI.elem (hA.ext S.low) (by omega) (by omega) ?_
  simp only [Int.toNat_natCast]
  rw [hrow]
  refine b9 fun h1 hl1 U1 R1=>?_
  refine bA R1 rfl rfl rfl fun h2 hl2 U2 R2=>?_
  have U02:Upd (fun _=>False) hx h2:=U1.trans U2 fun i hi e=>by omega
  have S2:=S.ext U02
  have nxt:∀ v' h',NSt h0 hb h' id0 id1 v' (ks0++(cN.take (j+1)).flatMap fun x=>if x.1=name then [gF x.2 text] else [])→Y12.p2 (aI h0 Q) s (.p (some ⟨id0,5,0⟩)) (.p (some ⟨id1,5,0⟩)) name text x26 n27 i28 va 4 (j:Int) h':=by
   intro v' h' S'
   refine Y12.i2 ?_
   simp only [Y12.t2, ← Y12.p1.eq_1]
   exact inc (by omega) (ih (j+1) v' h' (by omega) S')
  refine aP (aO R2 rfl rfl (aZ ?_))
  refine aG (fun e=>?_) fun e=>nxt v h2 (by
   rw [htk,List.flatMap_append]
   simp only [List.flatMap_cons,List.flatMap_nil,List.append_nil,if_neg (of_decide_eq_false e)]
   exact S2)
  have e:=of_decide_eq_true e
  obtain ⟨ho1,ho2⟩:=lD x hxm
  refine aP (aO R2 rfl rfl (aZ ?_))
  refine zQ fun h3 U3=>?_
  rw [ho1]
  simp only [aKT]
  refine bD (bC (aU ?_))
  refine b9 fun h4 hl4 U4 R4=>?_
  refine bA R4 rfl rfl rfl fun h5 hl5 U5 R5=>?_
  have U25:Upd (fun _=>False) h2 h5:=(U3.trans U4 fun _ _ h=>h).trans U5 fun i hi e=>by have:=U3.1; omega
  have S5:=S2.ext U25
  have l65:∀ hz (K:AV→Prop),Upd (fun _=>False) h5 hz→K (.ag (bF 0 6 false (cJ x.2)))→aB 5 (.p (some ⟨h3.length,5,0⟩)) hz K:=fun hz K U hK=>bB (R5.upd U fun h=>h) rfl hK
  have l1:∀ hz (K:AV→Prop),Upd (fun _=>False) h5 hz→K (shp 0 16 true)→aB 3 (bG hz 0) hz K:=fun hz K U hK=>(G.ext (S5.low.trans U fun _ _ h=>h)).seq.loadN rfl hK
  have l3:∀ hz (K:AV→Prop),Upd (fun _=>False) h5 hz→K (shp 0 17 true)→aB 3 (bG hz 8) hz K:=fun hz K U hK=>(G.ext (S5.low.trans U fun _ _ h=>h)).set.loadN rfl hK
  have l69:∀ hz (K:AV→Prop),Upd (fun _=>False) h5 hz→K v→aC (.p (some ⟨id1,5,0+4⟩)) hz K:=fun hz K U hK=>aO (S5.r1.upd U fun h=>h) rfl rfl hK
  have r0:=Upd.refl (fun _=>False) h5
  refine aP (l69 _ _ r0 (l3 _ _ r0 (l1 _ _ r0 (l65 _ _ r0 ?_))))
  refine aBH ht (aZ ?_)
  refine l65 _ _ r0 ⟨rfl,l1 _ _ r0 ⟨rfl,l3 _ _ r0 ⟨rfl,l69 _ _ r0 ⟨rfl, ?_⟩⟩⟩⟩
  refine fX (m:=false) ?_
  refine l65 _ _ r0 ⟨rfl,l1 _ _ r0 ⟨rfl,l3 _ _ r0 ⟨rfl,l69 _ _ r0 ⟨rfl, ?_⟩⟩⟩⟩
  refine eO (cs:=bF 0 6 false (cJ x.2)++bF 0 12 false (cP text)) rfl rfl fun y1 h6 hl6 U6 R6 F6=>?_
  refine l1 _ _ U6 ⟨rfl,l3 _ _ U6 ⟨rfl,l69 _ _ U6 ⟨rfl, ?_⟩⟩⟩
  have hy1:∃ a n cap,y1 = .sl a n cap:=by
   rcases R6 with ⟨rfl,_⟩ | ⟨_,_,_,_,_,rfl,_⟩ <;> exact ⟨_,_,_,rfl⟩
  refine sA hy1 fun h7 U7=>?_
  have U57:=U6.trans U7 fun _ _ h=>h
  refine l65 _ _ U57 ⟨rfl,l3 _ _ U57 ⟨rfl,l69 _ _ U57 ⟨rfl, ?_⟩⟩⟩
  refine eO (cs:=[.i .i64 0,.i .i64 16,.b true,.s [],y1]) (by obtain ⟨a,n,cap,rfl⟩:=hy1; rfl) rfl fun y2 h8 hl8 U8 R8 F8=>?_
  have U58:=U57.trans U8 fun _ _ h=>h
  refine l65 _ _ U58 ⟨rfl,l1 _ _ U58 ⟨rfl,l3 _ _ U58 ⟨rfl,l69 _ _ U58 ⟨rfl, ?_⟩⟩⟩⟩
  have hy2:∃ a n cap,y2 = .sl a n cap:=by
   rcases R8 with ⟨rfl,_⟩ | ⟨_,_,_,_,_,rfl,_⟩ <;> exact ⟨_,_,_,rfl⟩
  refine sA hy2 fun h9 U9=>?_
  have U59:=U58.trans U9 fun _ _ h=>h
  refine l65 _ _ U59 ⟨rfl,l1 _ _ U59 ⟨rfl,l69 _ _ U59 ⟨rfl, ?_⟩⟩⟩
  refine eO (cs:=[.i .i64 0,.i .i64 17,.b true,.s [],y2]) (by obtain ⟨a,n,cap,rfl⟩:=hy2; rfl) rfl fun y3 h10 hl10 U10 R10 F10=>?_
  have U510:=U59.trans U10 fun _ _ h=>h
  refine l65 _ _ U510 ⟨rfl,l1 _ _ U510 ⟨rfl,l3 _ _ U510 ⟨rfl,l69 _ _ U510 ⟨rfl, ?_⟩⟩⟩⟩
  have S10:=S5.ext U510
  have hbh5:=S5.upd.1
  have vlt:∀ i,bZ v i→i<h5.length:=fun i hi=>by obtain ⟨rows,A,_⟩:=S5.arr; exact A.rd.lt hi
  have V1:DV h10 (fun i=>hb.length≤i∧¬ bZ v i) (.mk 0 16 true [] [.mk 0 6 false (cJ x.2) [],.mk 0 12 false (cP text) []]) [.i .i64 0,.i .i64 16,.b true,.s [],y1]:=by
   have hks:DVs h10 (fun i=>hb.length≤i∧¬ bZ v i) [.mk 0 6 false (cJ x.2) [],.mk 0 12 false (cP text) []] [bF 0 6 false (cJ x.2),bF 0 12 false (cP text)]:=.cons (DV.leaf _ _ _ _ _ _) (.cons (DV.leaf _ _ _ _ _ _) .nil)
   have R6':=R6.upd (((U7.trans U8 fun _ _ h=>h).trans U9 fun _ _ h=>h).trans U10 fun _ _ h=>h) fun _ _ h=>h
   refine .mk hks (.inl (by simpa using R6')) (fun i hi=>⟨⟨by have:=F6 i hi; omega,fun hs=>by have:=F6 i hi; have:=vlt i hs; omega⟩,R6'.lt hi⟩) (by obtain ⟨a,n,cap,rfl⟩:=hy1; rfl)
  have V2:DV h10 (fun i=>hb.length≤i∧¬ bZ v i) (gF x.2 text) [.i .i64 0,.i .i64 17,.b true,.s [],y2]:=by
   have hks:=DVs.cons V1 DVs.nil
   have R8':=R8.upd (U9.trans U10 fun _ _ h=>h) fun _ _ h=>h
   have h58:=U57.1
   refine .mk hks (.inl (by simpa using R8')) (fun i hi=>⟨⟨by have:=F8 i hi; omega,fun hs=>by have:=F8 i hi; have:=vlt i hs; omega⟩,R8'.lt hi⟩) (by obtain ⟨a,n,cap,rfl⟩:=hy2; rfl)
  have hkl:(ks0++(cN.take j).flatMap fun x=>if x.1=name then [gF x.2 text] else []).length≤4000:=by
   have:∀ l:List (List UInt8 × List UInt8),(l.flatMap fun x=>if x.1=name then [gF x.2 text] else []).length≤l.length:=by
    intro l
    induction l with
    | nil=>simp
    | cons a l ih =>
     rw [List.flatMap_cons,List.length_append,List.length_cons]
     have:(if a.1=name then [gF a.2 text] else []).length≤1:=by split <;> simp
     omega
   have:=this (cN.take j)
   simp only [List.length_append,List.length_take] at *
   omega
  refine S10.push hkl R10 rfl (by obtain ⟨a,n,cap,rfl⟩:=hy2; rfl) V2 fun v' h11 U11 R11 hv' fin=>?_
  have id65:¬ bZ v h3.length:=fun hs=>by
   obtain ⟨rows,A,_⟩:=S2.arr
   have:=A.rd.lt hs; have:=U3.1; omega
  have lo:∀ g,g<h0.length→¬ bZ v g:=fun g hg hs=>by have:=S.new g hs; have:=S.ub.1; omega
  have G10:=G.ext S10.low
  have G11:CG h11:=by
   have hu:Upd (fun _=>False) h0 h11:=S10.low.trans U11 fun i hi hs=>(lo i hi hs)
   exact G.ext hu
  refine bB ((R5.upd U510 fun h=>h).upd U11 id65) rfl ⟨rfl, ?_⟩
  refine G11.seq.loadN rfl ⟨rfl,G11.set.loadN rfl ⟨rfl, ?_⟩⟩
  refine aP (cM R11 rfl (by simp) hv'.1 hv'.2.1 hv'.2.2 fun h12 hl12 U12 R12=>?_)
  refine nxt v' h12 ?_
  have S12:=fin h12 hl12 U12 R12
  rw [htk,List.flatMap_append]
  simp only [List.flatMap_cons,List.flatMap_nil,List.append_nil,if_pos e]
  rw [List.append_assoc] at S12
  exact S12
theorem aEA (part:List UInt8):(kidsOf part).length≤4:=by
 have:∀ l:List (List UInt8 × List UInt8),(l.flatMap fun x=>if x.1=(oB part 61).1 then [gF x.2 (oB part 61).2.1] else []).length≤l.length:=by
  intro l
  induction l with
  | nil=>simp
  | cons a l ih =>
   rw [List.flatMap_cons,List.length_append,List.length_cons]
   have:(if a.1=(oB part 61).1 then [gF a.2 (oB part 61).2.1] else []).length≤1:=by split <;> simp
   omega
 exact this cN
theorem zL {part:List UInt8} (hp:part.length≤1000):∀ s∈kidsOf part, ∀ k∈s.kids, ∀ x∈k.kids,x.data.length≤100000:=by
 intro s hs k hk x hx
 unfold kidsOf at hs
 obtain ⟨a,ha,hs⟩:=List.mem_flatMap.1 hs
 split at hs
 ·simp only [List.mem_singleton] at hs
  subst hs
  simp only [gF,Der.kids,List.mem_singleton] at hk
  subst hk
  simp only [Der.kids,List.mem_cons,List.not_mem_nil,or_false] at hx
  rcases hx with rfl | rfl
  ·have := (lD a ha).2
   simp only [Der.data]; omega
  ·have h1 := pR (oB part 61).2.1
   have h2:(oB part 61).2.1.length≤part.length:=by unfold oB; split <;> simp
   simp only [Der.data]; omega
 ·cases hs
theorem jV : ∀ (cur s : List UInt8), ∀ x ∈ bO cur s, x.length ≤ cur.length + s.length
 | cur,[],x,hx=>by simp [bO] at hx; subst hx; simp
 | cur, [c], x, hx => by
  unfold bO at hx
  split at hx
  ·simp at hx; rcases hx with rfl | rfl <;> simp
  ·simp at hx; subst hx; simp
 | cur, c :: d :: r, x, hx => by
  unfold bO at hx
  split at hx
  ·have := jV (cur ++ [c, d]) r x hx
   simp at this ⊢; omega
  ·split at hx
   ·rcases List.mem_cons.1 hx with rfl | hx
    ·simp
    ·have := jV [] (d :: r) x hx
     simp at this ⊢; omega
   ·have := jV (cur ++ [c]) (d :: r) x hx
    simp at this ⊢; omega
def aIL (h:aA) (Q:AV→aA→Prop) (r:Der × Int):Prop:=∀ h' cs,Upd (fun _=>False) h h'→DV h' (fun i=>h.length≤i) r.1 cs→Q (.tu [.ag cs,.i .i64 r.2]) h'
theorem wL {h0 hb hx:aA} {id0 id1:Nat} {v:AV} {ks:List Der} (S:NSt h0 hb hx id0 id1 v ks) {bad:Bool} (hq:aIL h0 Q (if bad=true then (Der.zero,5) else (gQ ks,0))) :
  Y12.p3 (aI h0 Q) (.p (some ⟨id0,5,0⟩)) (.p (some ⟨id1,5,0⟩)) bad hx:=by
 refine Y12.i3 ?_
 simp only [Y12.t3]
 have hid0:=S.n0
 cases bad with
 | true =>
  refine aM rfl ?_
  refine bA S.r0 rfl rfl rfl fun h1 hl1 U1 R1=>bB R1 rfl ?_
  exact .inl (hq h1 z5 (S.low.trans U1 fun i hi e=>by omega) (DV.zero _ _))
 | false =>
  refine aK rfl (bB S.r1 rfl ?_)
  have V:=S.val
  refine bA S.r0 rfl rfl V.cells' fun h1 hl1 U1 R1=>bB R1 rfl ?_
  refine .inl (hq h1 _ (S.low.trans U1 fun i hi e=>by omega) ?_)
  have S1:DV h1 (fun i=>h0.length≤i) (gQ ks) [.i .i64 0,.i .i64 16,.b true,.s [],v]:=by
   obtain ⟨rows,A,D⟩:=S.arr
   have hl0:=S.l0
   have hb0:=S.ub.1
   have A1:=A.upd U1 fun i hi e=>by have:=S.new i hi; omega
   exact .mk (D.upd U1 fun i hi _=>⟨by omega,by omega⟩) (.inl A1.rd) (fun i hi=>⟨by have:=S.new i hi; omega,A1.rd.lt hi⟩) (Arr.cell A).2.2
  exact S1
theorem aGC {h0 hb : aA} (G : CG h0) {id0 id1 : Nat} {s : List UInt8} (hs : s.length ≤ 512) {x26 : AV} (P26 : Rd 1 hb x26 ((bO [] s).map .s) (bO [] s).length) (hid1 : ¬ bZ x26 id1) (hne : s ≠ [])
  (hq:aIL h0 Q (bK s)) :
  ∀ (r:List (List UInt8)) (i:Nat) (v:AV) (hx:aA),(bO [] s).drop i=r→i≤(bO [] s).length→NSt h0 hb hx id0 id1 v (((bO [] s).take i).flatMap kidsOf) →
  Y12.p0 (aI h0 Q) s (.p (some ⟨id0,5,0⟩)) (.p (some ⟨id1,5,0⟩)) x26 ((bO [] s).length:Int) (i:Int) hx:=by
 have hpl:=gY [] s
 have hpm:=jV [] s
 have fl:∀ l:List (List UInt8),(l.flatMap kidsOf).length≤4 * l.length:=by
  intro l
  induction l with
  | nil=>simp
  | cons a l ih =>
   have:=aEA a
   rw [List.flatMap_cons,List.length_append,List.length_cons]; omega
 intro r
 induction r with
 | nil =>
  intro i v hx hr hi S
  have hle:=cA hr
  refine Y12.i0 ?_
  simp only [Y12.t0, ← Y12.p3.eq_1]
  refine aK (decide_eq_false (by omega)) ?_
  rw [List.take_of_length_le hle] at S
  have hsh:wK (gQ ((bO [] s).flatMap kidsOf)):=by
   refine ⟨?_,fun t ht k hk x hx=>?_⟩
   ·have := fl (bO [] s)
    show ((bO [] s).flatMap kidsOf).length≤4000
    omega
   ·have ht : t ∈ (bO [] s).flatMap kidsOf := ht
    obtain ⟨part,hp,ht⟩:=List.mem_flatMap.1 ht
    exact zL (by have:=hpm part hp; simp at this; omega) t ht k hk x hx
  refine bB S.r1 rfl ?_
  refine aJM (G.ext S.low) S.val hsh ?_
  have hnf:bK s=if cZ (gQ ((bO [] s).flatMap kidsOf))=some s then (gQ ((bO [] s).flatMap kidsOf),0) else (.zero,5):=by
   unfold bK
   rw [if_neg (by omega),if_neg hne]
  rw [hnf] at hq
  cases hN:cZ (gQ ((bO [] s).flatMap kidsOf)) with
  | none =>
   rw [hN,if_neg (by simp)] at hq
   simp only [aBV]
   refine bD (aZ (bC (aU (aM rfl ?_))))
   exact wL S (bad:=true) (by rw [if_pos rfl]; exact hq)
  | some t =>
   rw [hN] at hq
   simp only [aBV]
   refine bD (aZ (bC (aU (aK rfl ?_))))
   refine wL S ?_
   by_cases hts:t=s
   ·subst hts
    rw [if_pos rfl] at hq
    rw [if_neg (by simp)]; exact hq
   ·rw [if_neg (by simpa using hts)] at hq
    rw [if_pos (by simpa using hts)]; exact hq
 | cons part r ih =>
  intro i v hx hr hi S
  have hlt:=cG hr
  have hnx:=bU hr
  have hpi:=b5 hr
  have hpp:=hpm part (List.mem_of_getElem? hpi)
  simp only [List.length_nil,Nat.zero_add] at hpp
  have htk:=cR hpi
  refine Y12.i0 ?_
  simp only [Y12.t0, ← Y12.p1.eq_1]
  refine aM (decide_eq_true (by omega)) ?_
  have P1:=P26.upd S.upd fun j hj e=>hid1 (e ▸ hj)
  refine P1.cell (by decide) hlt (by rw [Nat.mul_one,List.getElem?_map,hpi] <;> rfl) (aZ ?_)
  refine aPH (by omega) ?_
  refine bD (aZ (bC (aZ (jD (aX ?_)))))
  obtain ⟨va,g1,g2⟩:=G.att
  refine (g1.upd S.low fun h=>h).load1 ((g2.ext S.low).len ?_)
  have hk0:=fl ((bO [] s).take i)
  have htl:(oB part 61).2.1.length≤part.length:=by unfold oB; split <;> simp
  have htk2:((bO [] s).take i).length≤(bO [] s).length:=by rw [List.length_take]; omega
  refine aGV (ks0:=((bO [] s).take i).flatMap kidsOf) G g1 g2 (by omega) (by omega) (fun v' h' S'=>?_) 4 0 v hx rfl (by simpa using S)
  refine inc (by omega) (ih (i+1) v' h' hnx (by omega) ?_)
  rw [htk,List.flatMap_append]
  simpa [kidsOf] using S'
theorem kZ {s:List UInt8} (G:CG h) (hs:s.length≤9223372036854775807) (hq:aIL h Q (bK s)):C Y12.id [.s s] h Q:=by
 refine Y12.call ?_
 simp only [Y12.t, ← Y12.p0.eq_1]
 refine b9 fun h1 hl1 U1 R1=>?_
 refine aG (fun e=>?_) fun e=>?_
 ·have e : 512 < s.length := by have := of_decide_eq_true e; omega
  refine bA R1 rfl rfl rfl fun h2 hl2 U2 R2=>bB R2 rfl (.inl ?_)
  unfold bK at hq
  rw [if_pos e] at hq
  exact hq h2 z5 (U1.trans U2 fun i hi e=>by omega) (DV.zero _ _)
 ·have e : s.length ≤ 512 := by have := of_decide_eq_false e; omega
  refine (G.ext U1).seq.loadN rfl ?_
  refine sA ⟨none,0,none,rfl⟩ fun h2 U2=>?_
  have U02:=U1.trans U2 fun _ _ h=>h
  refine b9 fun h3 hl3 U3 R3=>?_
  refine bA R3 rfl rfl rfl fun h4 hl4 U4 R4=>?_
  have U24:Upd (fun _=>False) h2 h4:=U3.trans U4 fun i hi e=>by omega
  have U04:=U02.trans U24 fun _ _ h=>h
  have hh1:=U2.1
  refine aG (fun e2=>?_) fun e2=>?_
  ·have e2 := of_decide_eq_true e2
   unfold bK at hq
   rw [if_neg (by omega),if_pos e2] at hq
   refine bB R4 rfl ?_
   refine bA ((R1.upd U2 fun h=>h).upd U24 fun h=>h) rfl rfl rfl fun h5 hl5 U5 R5=>bB R5 rfl (.inl ?_)
   exact hq h5 _ (U04.trans U5 fun i hi e=>by omega) (DV.leaf _ _ _ _ _ _)
  ·have e2 := of_decide_eq_false e2
   refine aBJ (by omega) fun v h5 N5=>?_
   have hrd:=N5.stk.rd
   rw [List.length_map] at hrd
   refine hrd.len ?_
   have hlt:h2.length<h4.length:=by omega
   have U45:=N5.upd
   refine aGC (hb:=h5) G e hrd (fun hi=>by have:=N5.new _ hi; omega) e2 hq (bO [] s) 0 _ h5 rfl (by omega) ⟨U04.trans U45 fun _ _ h=>h,Upd.refl _ _,Nat.le_refl _,by omega,by have:=U45.1; omega,by have:=U45.1; omega,by omega,((R1.upd U2 fun h=>h).upd U24 fun h=>h).upd U45 fun h=>h,R4.upd U45 fun h=>h,⟨[],Arr.nil _ _,.nil⟩,fun i hi=>hi.elim⟩
def uC:List (List UInt8)→List UInt8
 | []=>[]
 | p :: r=>if kN p [67,78,61]=true then cP (p.drop 3) else uC r
def aAD (s:List UInt8):List UInt8:=if (bK s).2=0 then uC (bO [] s) else []
theorem aJ8 {s : List UInt8} (G : CG h) (hs : s.length ≤ 9223372036854775807) (hq : Q (.s (aAD s)) h) : C Y51.id [.s s] h Q := by
 refine Y51.call ?_
 simp only [Y51.t, ← Y51.p0.eq_1]
 refine kZ G hs fun h1 cs U1 D1=>?_
 refine bD (bC (aU ?_))
 refine b9 fun h2 hl2 U2 R2=>?_
 refine bA R2 rfl D1.len D1.cells' fun h3 hl3 U3 R3=>?_
 have U03:Upd (fun _=>False) h h3:=(U1.trans U2 fun _ _ h=>h).trans U3 fun i hi e=>by have:=U1.1; omega
 unfold aAD at hq
 refine aG (fun e=>?_) fun e=>?_
 ·have e : (bK s).2 ≠ 0 := by simpa using e
  rw [if_neg e] at hq
  exact aV rfl U03.ext hq
 ·have e : (bK s).2 = 0 := by simpa using e
  rw [if_pos e] at hq
  have hs5:s.length≤512:=by
   apply Classical.byContradiction
   intro hh
   unfold bK at e
   rw [if_pos (by omega)] at e
   cases e
  refine aBJ (by omega) fun v h4 N4=>?_
  have hrd:=N4.stk.rd
  rw [List.length_map] at hrd
  refine hrd.len ?_
  have hpm:=jV [] s
  have U04:=U03.trans N4.upd fun _ _ h=>h
  have go:∀ (r:List (List UInt8)) (i:Nat),(bO [] s).drop i=r→i≤(bO [] s).length→Q (.s (uC r)) h→Y51.p0 (aI h Q) v ((bO [] s).length:Int) (i:Int) h4:=by
   have hpl:=gY [] s
   intro r
   induction r with
   | nil =>
    intro i hr hi hq
    have:=cA hr
    refine Y51.i0 ?_
    simp only [Y51.t0]
    exact aK (decide_eq_false (by omega)) (aV rfl U04.ext hq)
   | cons p r ih =>
    intro i hr hi hq
    have hlt:=cG hr
    have hpi:=b5 hr
    have hpp:=hpm p (List.mem_of_getElem? hpi)
    simp only [List.length_nil,Nat.zero_add] at hpp
    refine Y51.i0 ?_
    simp only [Y51.t0, ← Y51.p0.eq_1]
    refine aM (decide_eq_true (by omega)) ?_
    refine hrd.cell (by decide) hlt (by rw [Nat.mul_one,List.getElem?_map,hpi] <;> rfl) (aZ ?_)
    refine aAS (by omega) ?_
    refine bD (aZ (bC (aX ?_)))
    unfold uC at hq
    refine aG (fun e=>?_) fun e=>?_
    ·rw [if_pos e] at hq
     rw [if_pos e]
     exact aBH (by simp; omega) (aZ (aV rfl U04.ext hq))
    ·rw [if_neg (by rw [e]; simp)] at hq
     exact inc (by omega) (ih (i+1) (bU hr) (by omega) hq)
  exact go _ 0 rfl (by omega) hq
end
end Go.Proofs.YtcdkpkkdolmfdaaGreatDoor
namespace Go.Proofs.YtcdkpkkdolmfdaaGreatDoor
open Go.GAM Go.RowKit
section
variable {h:aA} {Q:AV→aA→Prop}
def iV (t:List UInt8):Bool:=decide (t=[67,78])||(decide (t=[79])||(decide (t=[79,85])||decide (t=[67])))
theorem aLL {t:List UInt8} (hq:∀ r,Q (.tu [.s r,.b (iV t)]) h):C Y75.id [.s t] h Q:=by
 refine Y75.call ?_
 simp only [Y75.t]
 have fin:∀ r b,b=iV t→aI h Q (.tu [.s r,.b b]) h:=by
  intro r b hb
  subst hb
  exact aV rfl (Ext.refl _) (hq r)
 unfold iV at fin
 refine aG (fun e=>fin _ _ (by rw [e] <;> rfl)) fun e=>aG (fun e1=>fin _ _ (by rw [e,e1] <;> rfl)) fun e1=>aG (fun e2=>fin _ _ (by rw [e,e1,e2] <;> rfl)) fun e2=>aG (fun e3=>fin _ _ (by rw [e,e1,e2,e3] <;> rfl)) fun e3=>fin _ _ (by rw [e,e1,e2,e3] <;> rfl)
end
end Go.Proofs.YtcdkpkkdolmfdaaGreatDoor
namespace Go.Proofs.YtcdkpkkdolmfdaaGreatDoor
open Go.GAM Go.RowKit
section
variable {h:aA} {Q:AV→aA→Prop}
def prs (l:List (List UInt8 × List UInt8)):List AV:=l.flatMap fun a=>[.s a.1,.s a.2]
theorem aKX:∀ (l:List (List UInt8 × List UInt8)) (i:Nat) (a),l[i]? = some a→((prs l).drop (i * 2)).take 2=[.s a.1,.s a.2]
 | b :: l,0,a,h=>by cases h; rfl
 | b :: l, i + 1, a, h => by
  rw [show (i+1) * 2=2+i * 2 by omega, ← List.drop_drop]
  exact aKX l i a (by simpa using h)
end
end Go.Proofs.YtcdkpkkdolmfdaaGreatDoor
namespace Go.Proofs.YtcdkpkkdolmfdaaGreatDoor
open Go.GAM Go.RowKit
abbrev Att:=List UInt8 × List UInt8
def tV (c:UInt8):Bool:=decide (c=61) || !fQ c
def dX:List UInt8→Option (List UInt8 × List UInt8)
 | []=>some ([],[])
 | [c]=>if c=44 then some ([],[c]) else if tV c=true∨c=92 then none else some ([c],[])
 | c :: d :: r => if c = 44 then some ([], c :: d :: r) else if tV c = true then none else
   if c=92 then (if d∈sps then (dX r).map fun p=>(d :: p.1,p.2) else none) else (dX (d :: r)).map fun p=>(c :: p.1,p.2)
def fS : Nat → List UInt8 → Option (List Att)
 | 0,_=>none
 | n + 1, s => if iV (s.takeWhile (· ≠ 61)) = false ∨ s.dropWhile (· ≠ 61) = [] then none else match dX ((s.dropWhile (· ≠ 61)).drop 1) with
  | none=>none
  | some (v,[])=>some [(s.takeWhile (· ≠ 61),v)]
  | some (v,_ :: r)=>(fS n r).map ((s.takeWhile (· ≠ 61),v) :: ·)
def jJ (s:List UInt8):Option (List Att):=if s=[] then some [] else fS (s.length+1) s
def eG (a:Att):List UInt8:=(a.1++[61])++b3 sps a.2
def okA (a:Att):Prop:=iV a.1=true∧a.2.all fQ=true
def gA (l:List Att):List UInt8:=Lib.join (l.map eG) [44]
theorem oS (a:Att):gA [a]=eG a:=by unfold gA; simp [Lib.join_cons,Lib.joinTail]
theorem jP (a b:Att) (l:List Att):gA (a :: b :: l)=eG a++44 :: gA (b :: l):=by
 unfold gA; simp [Lib.join_cons,Lib.joinTail]
theorem aIC {c:UInt8} (h:c∈sps):fQ c=true:=by
 simp only [sps,List.mem_cons,List.not_mem_nil,or_false] at h
 rcases h with rfl | rfl | rfl <;> rfl
theorem iC {c:UInt8}:c∈sps↔c=92∨c=44∨c=61:=by simp [sps]
theorem jF (c:UInt8) (v:List UInt8):b3 sps (c :: v)=(if c∈sps then [92,c] else [c])++b3 sps v:=rfl
theorem pV (c:UInt8) (X:List UInt8) (h:c ∉ sps) (ht:fQ c=true):dX (c :: X)=(dX X).map fun p=>(c :: p.1,p.2):=by
 rw [iC] at h
 have h1:c≠92:=fun e=>h (.inl e)
 have h2:c≠44:=fun e=>h (.inr (.inl e))
 have h3:c≠61:=fun e=>h (.inr (.inr e))
 have hb:tV c=false:=by unfold tV; rw [decide_eq_false h3,ht] <;> rfl
 cases X with
 | nil=>unfold dX; rw [if_neg h2,if_neg (by rw [hb]; simp [h1])] <;> rfl
 | cons d r=>rw [dX,if_neg h2,if_neg (by rw [hb]; simp),if_neg h1]
theorem sN (c:UInt8) (X:List UInt8) (h:c∈sps):dX (92 :: c :: X)=(dX X).map fun p=>(c :: p.1,p.2):=by
 rw [dX,if_neg (by decide),if_neg (by decide),if_pos rfl,if_pos h]
theorem lV:∀ (v r:List UInt8),v.all fQ=true→(r=[]∨∃ r',r=44 :: r')→dX (b3 sps v++r)=some (v,r)
 | [], r, _, hr => by
  rcases hr with rfl | ⟨r',rfl⟩
  ·rfl
  ·cases r' <;> rfl
 | c :: v, r, hv, hr => by
  simp only [List.all_cons,Bool.and_eq_true] at hv
  rw [jF]
  by_cases h:c∈sps
  ·rw [if_pos h]
   show dX (92 :: c :: (b3 sps v++r))=_
   rw [sN c _ h,lV v r hv.2 hr] <;> rfl
  ·rw [if_neg h]
   show dX (c :: (b3 sps v++r))=_
   rw [pV c _ h hv.1,lV v r hv.2 hr] <;> rfl
theorem nU : ∀ (s : List UInt8) (v r : List UInt8), dX s = some (v, r) → s = b3 sps v ++ r ∧ v.all fQ = true ∧ (r = [] ∨ ∃ r', r = 44 :: r')
 | [], v, r, h => by
  unfold dX at h; cases h
  exact ⟨rfl,rfl,.inl rfl⟩
 | [c], v, r, h => by
  unfold dX at h
  split at h
  ·rename_i e; subst e; cases h
   exact ⟨rfl,rfl,.inr ⟨[],rfl⟩⟩
  ·rename_i e
   split at h
   ·cases h
   ·rename_i e2
    cases h
    have hb:¬ tV c=true:=fun e=>e2 (.inl e)
    have h92:c≠92:=fun e=>e2 (.inr e)
    unfold tV at hb
    simp only [Bool.or_eq_true,decide_eq_true_eq,Bool.not_eq_true',not_or] at hb
    have ht:fQ c=true:=by simpa using hb.2
    have hs:c ∉ sps:=fun h=>by
     rcases iC.1 h with h | h | h
     ·exact h92 h
     ·exact e h
     ·exact hb.1 h
    refine ⟨?_,by simp [ht],.inl rfl⟩
    rw [jF,if_neg hs] <;> rfl
 | c :: d :: r0, v, r, h => by
  rw [dX] at h
  split at h
  ·rename_i e; subst e; cases h
   exact ⟨rfl,rfl,.inr ⟨_,rfl⟩⟩
  ·rename_i e
   split at h
   ·cases h
   ·rename_i hb
    unfold tV at hb
    simp only [Bool.or_eq_true,decide_eq_true_eq,Bool.not_eq_true',not_or] at hb
    have ht:fQ c=true:=by simpa using hb.2
    split at h
    ·rename_i e92
     subst e92
     split at h
     ·rename_i hd
      cases hs:dX r0 with
      | none=>rw [hs] at h; cases h
      | some p =>
       obtain ⟨v',r'⟩:=p
       rw [hs] at h; cases h
       obtain ⟨h1,h2,h3⟩:=nU r0 v' r' hs
       refine ⟨?_,by simp [h2,aIC hd],h3⟩
       rw [jF,if_pos hd]
       show 92 :: d :: r0=92 :: d :: (b3 sps v'++r')
       rw [h1]
     ·cases h
    ·rename_i h92
     cases hs:dX (d :: r0) with
     | none=>rw [hs] at h; cases h
     | some p =>
      obtain ⟨v',r'⟩:=p
      rw [hs] at h; cases h
      obtain ⟨h1,h2,h3⟩:=nU (d :: r0) v' r' hs
      have hns:c ∉ sps:=fun h=>by
       rcases iC.1 h with h | h | h
       ·exact h92 h
       ·exact e h
       ·exact hb.1 h
      refine ⟨?_,by simp [h2,ht],h3⟩
      rw [jF,if_neg hns]
      show c :: d :: r0=c :: (b3 sps v'++r')
      rw [h1]
theorem fF {t:List UInt8} (h:iV t=true):t=[67,78]∨t=[79]∨t=[79,85]∨t=[67]:=by
 unfold iV at h
 simp only [Bool.or_eq_true,decide_eq_true_eq] at h
 exact h
theorem rK {t X:List UInt8} (h:iV t=true):(t++61 :: X).takeWhile (· ≠ 61)=t∧(t++61 :: X).dropWhile (· ≠ 61)=61 :: X:=by
 rcases fF h with rfl | rfl | rfl | rfl <;> exact ⟨by simp [List.takeWhile],by simp [List.dropWhile]⟩
theorem nQ : ∀ (n : Nat) (s : List UInt8) (l : List Att), fS n s = some l → s = gA l ∧ (∀ a ∈ l, okA a) ∧ l ≠ []
 | 0,s,l,h=>by cases h
 | n + 1, s, l, h => by
  unfold fS at h
  split at h
  ·cases h
  ·rename_i e
   rw [not_or] at e
   obtain ⟨e1,e2⟩:=e
   have e1:iV (s.takeWhile (· ≠ 61))=true:=by simpa using e1
   have hs:s.takeWhile (· ≠ 61)++s.dropWhile (· ≠ 61)=s:=List.takeWhile_append_dropWhile
   obtain ⟨c,X,hX⟩:∃ c X,s.dropWhile (· ≠ 61)=c :: X:=by
    cases hd:s.dropWhile (· ≠ 61) with
    | nil=>exact absurd hd e2
    | cons c X=>exact ⟨c,X,rfl⟩
   have hc:c=61:=by
    have:=List.head?_dropWhile_not (fun x:UInt8=>decide (x≠61)) s
    rw [hX] at this
    simpa using this
   subst hc
   generalize ht:s.takeWhile (· ≠ 61)=t at *
   rw [hX] at h hs
   have one:∀ v:List UInt8,eG (t,v)=t++61 :: b3 sps v:=fun v=>by simp [eG]
   split at h
   ·cases h
   ·rename_i v hv
    cases h
    obtain ⟨h1,h2,h3⟩:=nU _ _ _ hv
    refine ⟨?_,fun a ha=>by cases List.mem_singleton.1 ha; exact ⟨e1,h2⟩,by simp⟩
    rw [oS,one, ← hs]
    have h1:X=b3 sps v++[]:=h1
    rw [h1,List.append_nil]
   ·rename_i v c r hv
    obtain ⟨h1,h2,h3⟩:=nU _ _ _ hv
    have h3:c=44:=by rcases h3 with h | ⟨r',h⟩ <;> cases h; rfl
    subst h3
    cases hr:fS n r with
    | none=>rw [hr] at h; cases h
    | some l' =>
     rw [hr] at h; cases h
     obtain ⟨g1,g2,g3⟩:=nQ n r l' hr
     refine ⟨?_,fun a ha=>?_,by simp⟩
     ·cases l' with
      | nil=>exact absurd rfl g3
      | cons b l' =>
       rw [jP,one, ← g1, ← hs]
       have h1:X=b3 sps v++44 :: r:=h1
       rw [h1,List.append_assoc] <;> rfl
     ·rcases List.mem_cons.1 ha with rfl | ha
      ·exact ⟨e1,h2⟩
      ·exact g2 a ha
theorem wG:∀ (l:List Att) (n:Nat),(∀ a∈l,okA a)→l≠[]→l.length≤n→fS n (gA l)=some l
 | [],n,_,h,_=>absurd rfl h
 | [a], n, ha, _, hn => by
  obtain ⟨n,rfl⟩:∃ m,n=m+1:=⟨n - 1,by simp at hn; omega⟩
  obtain ⟨h1,h2⟩:=ha a (by simp)
  have hv:=lV a.2 [] h2 (.inl rfl)
  rw [List.append_nil] at hv
  rw [oS,show eG a=a.1++61 :: b3 sps a.2 by simp [eG]]
  unfold fS
  rw [(rK h1).1,(rK h1).2,if_neg (by rw [h1]; simp)]
  show (match dX (b3 sps a.2) with
   | none=>none
   | some (v,[])=>some [(a.1,v)]
   | some (v,_ :: r)=>(fS n r).map ((a.1,v) :: ·))=_
  rw [hv]
 | a :: b :: l, n, ha, _, hn => by
  obtain ⟨n,rfl⟩:∃ m,n=m+1:=⟨n - 1,by simp at hn; omega⟩
  obtain ⟨h1,h2⟩:=ha a (by simp)
  have ih:=wG (b :: l) n (fun x hx=>ha x (by simp [List.mem_cons.1 hx])) (by simp) (by simp at hn ⊢; omega)
  have hv:=lV a.2 (44 :: gA (b :: l)) h2 (.inr ⟨_,rfl⟩)
  rw [jP,show eG a++44 :: gA (b :: l)=a.1++61 :: (b3 sps a.2++44 :: gA (b :: l)) by simp [eG]]
  unfold fS
  rw [(rK h1).1,(rK h1).2,if_neg (by rw [h1]; simp)]
  show (match dX (b3 sps a.2++44 :: gA (b :: l)) with
   | none=>none
   | some (v,[])=>some [(a.1,v)]
   | some (v,_ :: r)=>(fS n r).map ((a.1,v) :: ·))=_
  rw [hv]
  show (fS n (gA (b :: l))).map ((a.1,a.2) :: ·)=_
  rw [ih] <;> rfl
theorem dC (c:UInt8) (cur X:List UInt8) (h1:c≠92) (h2:c≠44):bO cur (c :: X)=bO (cur++[c]) X:=by
 cases X with
 | nil=>unfold bO; rw [if_neg h2]
 | cons d r =>
  conv=>lhs; unfold bO
  rw [if_neg h1,if_neg h2]
theorem aDU (c:UInt8) (cur X:List UInt8):bO cur (92 :: c :: X)=bO (cur++[92,c]) X:=by
 conv=>lhs; unfold bO
 rw [if_pos rfl]
theorem zY (cur X:List UInt8):bO cur (44 :: X)=cur :: bO [] X:=by
 cases X with
 | nil=>rfl
 | cons d r =>
  conv=>lhs; unfold bO
  rw [if_neg (by decide),if_pos rfl]
theorem gZ:∀ (v cur X:List UInt8),bO cur (b3 sps v++X)=bO (cur++b3 sps v) X
 | [],cur,X=>by simp [xB]
 | c :: v, cur, X => by
  rw [jF]
  by_cases h:c∈sps
  ·rw [if_pos h]
   show bO cur (92 :: c :: (b3 sps v++X))=_
   rw [aDU,gZ v,List.append_assoc]
  ·rw [if_neg h]
   show bO cur (c :: (b3 sps v++X))=_
   rw [iC,not_or,not_or] at h
   rw [dC c _ _ h.1 h.2.1,gZ v,List.append_assoc]
theorem uX {a:Att} (h:iV a.1=true) (X:List UInt8):bO [] (eG a++X)=bO (eG a) X:=by
 obtain ⟨t,v⟩:=a
 show bO [] (((t++[61])++b3 sps v)++X)=bO ((t++[61])++b3 sps v) X
 rcases fF h with rfl | rfl | rfl | rfl
 ·show bO [] (67 :: 78 :: 61 :: (b3 sps v ++ X)) = _
  rw [dC _ _ _ (by decide) (by decide),dC _ _ _ (by decide) (by decide),dC _ _ _ (by decide) (by decide),gZ] <;> rfl
 ·show bO [] (79 :: 61 :: (b3 sps v ++ X)) = _
  rw [dC _ _ _ (by decide) (by decide),dC _ _ _ (by decide) (by decide),gZ] <;> rfl
 ·show bO [] (79 :: 85 :: 61 :: (b3 sps v ++ X)) = _
  rw [dC _ _ _ (by decide) (by decide),dC _ _ _ (by decide) (by decide),dC _ _ _ (by decide) (by decide),gZ] <;> rfl
 ·show bO [] (67 :: 61 :: (b3 sps v ++ X)) = _
  rw [dC _ _ _ (by decide) (by decide),dC _ _ _ (by decide) (by decide),gZ] <;> rfl
theorem kF:∀ l:List Att,(∀ a∈l,okA a)→l≠[]→bO [] (gA l)=l.map eG
 | [],_,h=>absurd rfl h
 | [a], ha, _ => by
  have:=uX (ha a (by simp)).1 []
  rw [List.append_nil] at this
  rw [oS,this] <;> rfl
 | a :: b :: l, ha, _ => by
  rw [jP,uX (ha a (by simp)).1,zY,kF (b :: l) (fun x hx=>ha x (by simp [List.mem_cons.1 hx])) (by simp)] <;> rfl
theorem pM:∀ v:List UInt8,cP (b3 sps v)=v
 | []=>rfl
 | c :: v => by
  have ih:=pM v
  rw [jF]
  by_cases h:c∈sps
  ·rw [if_pos h]
   show cP (92 :: c :: b3 sps v)=_
   rw [cP,if_pos rfl,ih]
  ·rw [if_neg h]
   show cP (c :: b3 sps v)=_
   rw [iC,not_or] at h
   cases hX:b3 sps v with
   | nil=>rw [hX] at ih; rw [← ih] <;> rfl
   | cons d r=>rw [cP,if_neg h.1, ← hX,ih]
theorem aMP {a:Att} (h:iV a.1=true):oB (eG a) 61=(a.1,b3 sps a.2,true):=by
 obtain ⟨t,v⟩:=a
 have key:Lib.indexByte (eG (t,v)) 61=(t.length:Int):=by
  show Lib.indexByte ((t++[61])++b3 sps v) 61=_
  rcases fF h with rfl | rfl | rfl | rfl <;> simp [Lib.indexByte]
 unfold oB
 rw [key,if_pos (by omega)]
 have e:eG (t,v)=t++61 :: b3 sps v:=by simp [eG]
 rw [e]
 simp
def iQ (t:List UInt8):List UInt8:=cN.foldr (fun x n=>if x.1=t then x.2 else n) []
theorem qY {t:List UInt8} (h:iV t=true):(t,iQ t)∈cN:=by
 rcases fF h with rfl | rfl | rfl | rfl <;> decide +kernel
theorem aOK {x:Att} (h:x∈cN):iV x.1=true:=by
 simp only [cN,List.mem_cons,List.not_mem_nil,or_false] at h
 rcases h with rfl | rfl | rfl | rfl <;> rfl
theorem aLN {x:Att} (h:x∈cN):(g8 (.mk 0 6 false (cJ x.2) [])).2=true∧kR (g8 (.mk 0 6 false (cJ x.2) [])).1=x.1:=by
 simp only [cN,List.mem_cons,List.not_mem_nil,or_false] at h
 rcases h with rfl | rfl | rfl | rfl <;> exact ⟨by kernel_rfl,by kernel_rfl⟩
theorem aL1:∀ t:List UInt8,iV t=true→∀ X,(cN.flatMap fun x=>if x.1=t then [gF x.2 X] else [])=[gF (iQ t) X]:=by
 intro t ht X
 rcases fF ht with rfl | rfl | rfl | rfl <;> rfl
theorem zB {a:Att} (h:iV a.1=true):kidsOf (eG a)=[gF (iQ a.1) (b3 sps a.2)]:=by
 unfold kidsOf
 rw [aMP h]
 exact aL1 a.1 h _
theorem aF1 {x:Att} (h:x∈cN) (X:List UInt8):rO (gF x.2 X)=if (cP X).all fQ=true then some (eG (x.1,cP X)) else none:=by
 obtain ⟨h1,h2⟩:=aLN h
 show qF (.mk 0 6 false (cJ x.2) []) (.mk 0 12 false (cP X) [])=_
 unfold qF
 rw [h1,h2]
 have hd:lF (.mk 0 12 false (cP X) [])=if (cP X).all fQ=true then (cP X,true) else ([],false):=by
  unfold lF
  show (if (true||_)=true∧(cP X).all fQ=true then _ else _)=_
  rw [Bool.true_or]
  simp only [true_and]
  rfl
 rw [hd]
 have hne:x.1≠[]:=by
  simp only [cN,List.mem_cons,List.not_mem_nil,or_false] at h
  rcases h with rfl | rfl | rfl | rfl <;> decide
 split
 ·rw [if_pos ⟨rfl,rfl,hne⟩] <;> rfl
 ·rw [if_neg (by rintro ⟨_,h,_⟩; cases h)]
theorem wR:∀ l:List Att,(∀ a∈l,okA a)→iR ((l.map eG).flatMap kidsOf)=some (l.map eG)
 | [],_=>rfl
 | a :: l, ha => by
  have ih:=wR l fun x hx=>ha x (by simp [hx])
  obtain ⟨h1,h2⟩:=ha a (by simp)
  rw [List.map_cons,List.flatMap_cons,zB h1]
  show iR (gF (iQ a.1) (b3 sps a.2) :: (l.map eG).flatMap kidsOf)=_
  unfold iR
  have:=aF1 (qY h1) (b3 sps a.2)
  rw [pM,if_pos h2] at this
  rw [show rO (gF (iQ a.1) (b3 sps a.2))=some (eG a) from this,ih]
theorem aDV {l:List Att} (h:∀ a∈l,okA a):cZ (gQ ((l.map eG).flatMap kidsOf))=some (gA l):=by
 unfold cZ
 show (if true=true then (iR ((l.map eG).flatMap kidsOf)).map (fun l=>Lib.join l [44]) else none)=_
 rw [if_pos rfl,wR l h] <;> rfl
theorem aB1 : ∀ (ks : List Der) (xs : List (List UInt8)), iR ks = some xs → (∀ k ∈ ks, ∃ x X, x ∈ cN ∧ k = gF x.2 X) → ∃ l : List Att, xs = l.map eG ∧ ∀ a ∈ l, okA a
 | [],xs,h,_=>by unfold iR at h; cases h; exact ⟨[],rfl,by simp⟩
 | k :: ks, xs, h, hk => by
  obtain ⟨x,X,hx,rfl⟩:=hk k (by simp)
  unfold iR at h
  rw [aF1 hx] at h
  split at h
  ·cases h
  ·rename_i y hy
   split at hy
   ·rename_i ht
    cases hy
    split at h
    ·cases h
    ·rename_i l' hl'
     cases h
     obtain ⟨l,rfl,hl⟩:=aB1 ks l' hl' fun k hk'=>hk k (by simp [hk'])
     refine ⟨(x.1,cP X) :: l,rfl,fun a ha=>?_⟩
     rcases List.mem_cons.1 ha with rfl | ha
     ·exact ⟨aOK (x:=x) hx,ht⟩
     ·exact hl a ha
   ·cases hy
theorem yN {s : List UInt8} (hne : s ≠ []) (hl : s.length ≤ 512) : (∃ l, fS (s.length + 1) s = some l ∧ s = gA l ∧ (∀ a ∈ l, okA a) ∧ l ≠ [] ∧ (bK s).2 = 0) ∨ (fS (s.length + 1) s = none ∧ (bK s).2 = 5) := by
 cases hs:fS (s.length+1) s with
 | some l =>
  obtain ⟨h1,h2,h3⟩:=nQ _ _ _ hs
  refine .inl ⟨l,rfl,h1,h2,h3, ?_⟩
  unfold bK
  rw [if_neg (by omega),if_neg hne,if_pos (by rw [h1,kF l h2 h3]; exact aDV h2)]
 | none =>
  refine .inr ⟨rfl, ?_⟩
  unfold bK
  rw [if_neg (by omega),if_neg hne]
  split
  ·rename_i h
   exfalso
   unfold cZ at h
   have h:((iR ((bO [] s).flatMap kidsOf)).map fun l=>Lib.join l [44])=some s:=h
   cases hk:iR ((bO [] s).flatMap kidsOf) with
   | none=>rw [hk] at h; cases h
   | some xs =>
    rw [hk] at h
    have h:Lib.join xs [44]=s:=Option.some.inj h
    obtain ⟨l,rfl,hl'⟩:=aB1 _ _ hk fun k hk'=>by
     obtain ⟨p,hp,hp2⟩:=List.mem_flatMap.1 hk'
     unfold kidsOf at hp2
     obtain ⟨x,hx,hx2⟩:=List.mem_flatMap.1 hp2
     split at hx2
     ·exact ⟨x,_,hx,List.mem_singleton.1 hx2⟩
     ·cases hx2
    have hl0:l≠[]:=by
     rintro rfl
     exact hne (by rw [← h]; exact Lib.join_nil _)
    have h:gA l=s:=h
    have hlen:l.length≤s.length+1:=by
     have:=gY [] s
     rw [← h,kF l hl' hl0] at this
     rw [← h]; simpa using this
    have:=wG l (s.length+1) hl' hl0 hlen
    rw [h,hs] at this
    cases this
  ·rfl
end Go.Proofs.YtcdkpkkdolmfdaaGreatDoor
namespace Go.Proofs.YtcdkpkkdolmfdaaGreatDoor
open Go.GAM Go.RowKit
theorem aGQ {c:UInt8} (X:List UInt8) (h:c≠44) (hb:tV c=true):dX (c :: X)=none:=by
 cases X with
 | nil=>unfold dX; rw [if_neg h,if_pos (.inl hb)]
 | cons d r=>rw [dX,if_neg h,if_pos hb]
theorem aAL {d:UInt8} (X:List UInt8) (h:d ∉ sps):dX (92 :: d :: X)=none:=by
 rw [dX,if_neg (by decide),if_neg (by decide),if_pos rfl,if_neg h]
theorem lX {c:UInt8} {n:Nat} (hn:n<256):decide ((c.toNat:Int)=(n:Int))=decide (c=UInt8.ofNat n):=by
 rw [decide_eq_decide]
 constructor
 ·intro h
  have:c.toNat=n:=by omega
  rw [← this]; simp
 ·rintro rfl
  simp; omega
theorem aMO (a b:List Att):prs (a++b)=prs a++prs b:=by unfold prs; rw [List.flatMap_append]
section
variable {h0:aA} {Q:AV→aA→Prop} {s:List UInt8} {x4:AV} {done:List Att} {t:List UInt8} {h:aA}
theorem aM8 {j:Nat} {v r:List UInt8} {c:UInt8} (hs:s.length≤512) (hj:s.drop j=c :: r) (hv:v.length≤512) (hk:Y1.p4 Q s x4 (j+1:Nat) t (v++[c]) h):Y1.p8 Q s x4 j t v h:=by
 have hlt:=cG hj
 refine Y1.i8 ?_
 simp only [Y1.t8, ← Y1.p4.eq_1]
 refine inc (by omega) (qC (lo:=j) (hi:=j+1) (by omega) (by omega) ?_)
 have e:(s.take (j+1)).drop j=[c]:=by
  rw [cR (b5 hj),List.drop_left' (by rw [List.length_take]; omega)]
 rw [e]
 refine ⟨by simp; omega, ?_⟩
 exact inc (by omega) hk
theorem aO7 (hs : s.length ≤ 512) : ∀ (k : Nat) (r : List UInt8) (j : Nat) (v : List UInt8), r.length ≤ k → s.drop j = r → j ≤ s.length → v.length ≤ j →
  (dX r=none→Q (.tu [.sl none 0 none,.b false]) h)→(∀ v' r',dX r=some (v',r')→r'=s.drop (s.length - r'.length)→Y1.p5 Q s x4 (s.length - r'.length:Nat) t (v++v') false h)→Y1.p4 Q s x4 j t v h:=by
 intro k
 induction k with
 | zero =>
  intro r j v hr hd hj hv hf hk
  have:r=[]:=List.eq_nil_of_length_eq_zero (by omega)
  subst this
  have hlen:=cA hd
  obtain rfl:j=s.length:=by omega
  refine Y1.i4 ?_
  simp only [Y1.t4, ← Y1.p5.eq_1]
  have:=hk [] [] rfl (by simp)
  rw [List.append_nil] at this
  exact aK (by simp) this
 | succ k ih =>
  intro r j v hr hd hj hv hf hk
  cases r with
  | nil =>
   have hlen:=cA hd
   obtain rfl:j=s.length:=by omega
   refine Y1.i4 ?_
   simp only [Y1.t4, ← Y1.p5.eq_1]
   have:=hk [] [] rfl (by simp)
   rw [List.append_nil] at this
   exact aK (by simp) this
  | cons c r =>
   have hlt:=cG hd
   have hn:=bU hd
   have hlr:r.length=s.length - (j+1):=by rw [← hn,List.length_drop]
   refine Y1.i4 ?_
   simp only [Y1.t4, ← Y1.p5.eq_1]
   refine aM (by simp; omega) (cW hd ?_)
   rw [show ((44:Int))=((44:Nat):Int) from rfl,lX (by omega)]
   by_cases h44:c=44
   ·subst h44
    have e1:dX (44 :: r)=some ([],44 :: r):=by cases r <;> rfl
    have:=hk [] (44 :: r) e1 (by rw [List.length_cons,hlr,show s.length - (s.length - (j+1)+1)=j by omega,hd])
    rw [List.append_nil,List.length_cons,hlr,show s.length - (s.length - (j+1)+1)=j by omega] at this
    exact this
   ·rw [decide_eq_false (show ¬ c = UInt8.ofNat 44 from h44)]
    show Y1.p5 Q s x4 j t v true h
    have bad:tV c=true→Y1.p6 Q s x4 j t v c.toNat true h:=fun hb=>by
     refine Y1.i6 ?_
     simp only [Y1.t6]
     exact aM rfl (hf (aGQ r h44 hb))
    refine Y1.i5 ?_
    simp only [Y1.t5, ← Y1.p6.eq_1]
    refine aM rfl (cW hd ?_)
    rw [show ((61:Int))=((61:Nat):Int) from rfl,lX (by omega)]
    refine aG (fun e=>bad (by unfold tV; rw [show decide (c=61)=true from e] <;> rfl)) fun e61=>aG (fun e=>bad ?_) fun e32=>?_
    ·have e := of_decide_eq_true e
     unfold tV fQ
     rw [decide_eq_false (show ¬ 32≤c.toNat by omega)]; simp
    ·have e32 := of_decide_eq_false e32
     by_cases h126:126<c.toNat
     ·rw [decide_eq_true (show (126 : Int) < (c.toNat : Int) by omega)]
      refine bad ?_
      unfold tV fQ
      rw [decide_eq_false (show ¬ c.toNat≤126 by omega)]; simp
     ·rw [decide_eq_false (show ¬ (126 : Int) < (c.toNat : Int) by omega)]
      have ht:fQ c=true:=by
       unfold fQ
       rw [decide_eq_true (show 32≤c.toNat by omega),decide_eq_true (show c.toNat≤126 by omega)] <;> rfl
      have h61:c≠61:=of_decide_eq_false e61
      refine Y1.i6 ?_
      simp only [Y1.t6, ← Y1.p7.eq_1, ← Y1.p8.eq_1]
      refine aK rfl ?_
      rw [show ((92:Int))=((92:Nat):Int) from rfl,lX (by omega)]
      refine aG (fun e=>?_) fun e=>?_
      ·have e : c = 92 := of_decide_eq_true e
       subst e
       have fail:dX (92 :: r)=none→Y1.p7 Q s x4 (j+1:Nat) t v true h:=fun hb=>by
        refine Y1.i7 ?_
        simp only [Y1.t7]
        exact aM rfl (hf hb)
       refine inc (by omega) (aG (fun e=>fail ?_) fun e=>?_)
       ·have e := of_decide_eq_true e
        have:r=[]:=List.eq_nil_of_length_eq_zero (by omega)
        subst this; rfl
       ·have e := of_decide_eq_false e
        cases r with
        | nil=>simp at hlr; omega
        | cons d r =>
         have hn2:=bU hn
         have good:d∈sps→Y1.p7 Q s x4 (j+1:Nat) t v false h:=fun hd2=>by
          refine Y1.i7 ?_
          simp only [Y1.t7, ← Y1.p8.eq_1]
          refine aK rfl (aM8 hs hn (by omega) ?_)
          refine ih r (j+2) (v++[d]) (by simp at hr; omega) hn2 (by omega) (by simp; omega) (fun hx=>hf ?_) fun v' r' hx hr'=>?_
          ·rw [sN d r hd2,hx] <;> rfl
          ·have := hk (d :: v') r' (by rw [sN d r hd2, hx] <;> rfl) hr'
           rw [List.append_assoc]; exact this
         have badE:d ∉ sps→Y1.p7 Q s x4 (j+1:Nat) t v true h:=fun hd2=>fail (aAL r hd2)
         refine cW hn ?_
         rw [show ((44:Int))=((44:Nat):Int) from rfl,lX (by omega)]
         refine aG (fun e1=>?_) fun e1=>?_
         ·refine cW hn ?_
          rw [show ((61:Int))=((61:Nat):Int) from rfl,lX (by omega)]
          refine aG (fun e2=>?_) fun e2=>?_
          ·refine cW hn ?_
           rw [lX (by omega)]
           have e1:d≠44:=by simpa using e1
           have e2:d≠61:=by simpa using e2
           by_cases h92:d=92
           ·rw [decide_eq_true (show d = UInt8.ofNat 92 from h92)]
            exact good (iC.2 (.inl h92))
           ·rw [decide_eq_false (show ¬ d = UInt8.ofNat 92 from h92)]
            refine badE fun h=>?_
            rcases iC.1 h with h | h | h
            ·exact h92 h
            ·exact e1 h
            ·exact e2 h
          ·have e2 : d = 61 := by simpa using e2
           exact good (iC.2 (.inr (.inr e2)))
         ·have e1 : d = 44 := by simpa using e1
          exact good (iC.2 (.inr (.inl e1)))
      ·have e : c ≠ 92 := of_decide_eq_false e
       have hns:c ∉ sps:=fun h=>by
        rcases iC.1 h with h | h | h
        ·exact e h
        ·exact h44 h
        ·exact h61 h
       refine aM8 hs hd (by omega) (ih r (j+1) (v++[c]) (by simp at hr; omega) hn (by omega) (by simp; omega) (fun hx=>hf ?_) fun v' r' hx hr'=>?_)
       ·rw [pV c r hns ht,hx] <;> rfl
       ·have := hk (c :: v') r' (by rw [pV c r hns ht, hx] <;> rfl) hr'
        rw [List.append_assoc]; exact this
theorem aOT {a:Nat} (hs:s.length≤512):∀ (r:List UInt8) (e:Nat),s.drop e=r→e≤s.length→Y1.p2 Q s x4 a (e+(r.takeWhile (· ≠ 61)).length:Nat) false h→Y1.p1 Q s x4 a e h:=by
 intro r
 induction r with
 | nil =>
  intro e hr he hk
  have:=cA hr
  refine Y1.i1 ?_
  simp only [Y1.t1, ← Y1.p2.eq_1]
  exact aK (by simp; omega) hk
 | cons c r ih =>
  intro e hr he hk
  have hlt:=cG hr
  refine Y1.i1 ?_
  simp only [Y1.t1, ← Y1.p2.eq_1]
  refine aM (by simp; omega) (cW hr ?_)
  rw [show ((61:Int))=((61:Nat):Int) from rfl,lX (by omega)]
  by_cases h61:c=61
  ·rw [decide_eq_true (show c = UInt8.ofNat 61 from h61)]
   rw [List.takeWhile_cons_of_neg (by simpa using h61)] at hk
   exact hk
  ·rw [decide_eq_false (show ¬ c = UInt8.ofNat 61 from h61)]
   rw [List.takeWhile_cons_of_pos (by simpa using h61)] at hk
   refine Y1.i2 ?_
   simp only [Y1.t2, ← Y1.p1.eq_1]
   refine aM rfl (inc (by omega) (ih (e+1) (bU hr) (by omega) ?_))
   rw [List.length_cons] at hk
   rw [show e+1+(r.takeWhile (· ≠ 61)).length=e+((r.takeWhile (· ≠ 61)).length+1) by omega]
   exact hk
theorem aO3 (hs : s.length ≤ 512) : ∀ (n a : Nat) (done : List Att) (x4 : AV) (h : aA), s.length - a < n → a ≤ s.length → done.length ≤ a → fY 2 h0 h x4 (prs done) done.length →
  (∀ l,fS n (s.drop a)=some l→∀ w h',Upd (fun _=>False) h0 h'→RdI 2 h' w (prs (done++l)) (done++l).length→Q (.tu [w,.b true]) h') →
  (fS n (s.drop a)=none→∀ h',Upd (fun _=>False) h0 h'→Q (.tu [.sl none 0 none,.b false]) h')→Y1.p0 Q s x4 a h:=by
 intro n
 induction n with
 | zero=>intro a done x4 h hn; omega
 | succ n ih =>
  intro a done x4 h hn ha hdl A hok hf
  refine Y1.i0 ?_
  simp only [Y1.t0, ← Y1.p1.eq_1]
  refine aOT hs (s.drop a) a rfl ha ?_
  have hTR:(s.drop a).takeWhile (· ≠ 61)++(s.drop a).dropWhile (· ≠ 61)=s.drop a:=List.takeWhile_append_dropWhile
  unfold fS at hok hf
  generalize hT:(s.drop a).takeWhile (· ≠ 61)=T at *
  generalize hR:(s.drop a).dropWhile (· ≠ 61)=R at *
  have hR2:R=s.drop (a+T.length):=by
   rw [← List.drop_drop, ← hTR]; simp
  have hTl:a+T.length≤s.length:=by
   have:=congrArg List.length hTR
   simp at this; omega
  have hT2:(s.take (a+T.length)).drop a=T:=by
   rw [List.drop_take,show a+T.length - a=T.length by omega, ← hTR]; simp
  have fail:(iV T=false∨R=[])→∀ x6:Int,Y1.p3 Q s x4 x6 T true h:=fun hb x6=>by
   refine Y1.i3 ?_
   simp only [Y1.t3]
   rw [if_pos hb] at hf
   exact aM rfl (hf rfl h A.upd)
  refine Y1.i2 ?_
  simp only [Y1.t2, ← Y1.p3.eq_1]
  refine aK rfl (qC (lo:=a) (hi:=a+T.length) (by omega) hTl ?_)
  rw [hT2]
  refine aLL fun o=>bD (aZ (bC (aX ?_)))
  cases hb:iV T with
  | false=>exact fail (.inl hb) _
  | true =>
   show Y1.p3 Q s x4 (a+T.length:Nat) T (decide ((s.length:Int)≤((a+T.length:Nat):Int))) h
   by_cases hend:s.length≤a+T.length
   ·rw [decide_eq_true (show (s.length : Int) ≤ ((a + T.length : Nat) : Int) by omega)]
    exact fail (.inr (by rw [hR2,List.drop_of_length_le hend])) _
   ·rw [decide_eq_false (show ¬ (s.length : Int) ≤ ((a + T.length : Nat) : Int) by omega)]
    have hRne:R≠[]:=fun h=>by
     rw [hR2] at h
     have:=cA h
     omega
    rw [if_neg (by rw [hb]; simp [hRne]),hR2,List.drop_drop] at hok hf
    refine Y1.i3 ?_
    simp only [Y1.t3, ← Y1.p4.eq_1]
    refine aK rfl (inc (by omega) (aO7 hs (s.length+1) (s.drop (a+T.length+1)) (a+T.length+1) [] (by simp; omega) rfl (by omega) (by simp) (fun hx=>?_) fun v' r' hx hr'=>?_))
    ·rw [hx] at hf
     exact hf rfl h A.upd
    ·have hd1 : done.length + 1 ≤ 1000 := by omega
     refine Y1.i5 ?_
     simp only [Y1.t5, ← Y1.p0.eq_1]
     refine aK rfl (A.build (ns:=[.s T,.s ([]++v')]) (n:=1) (by omega) rfl rfl rfl (by omega) (by omega) fun w h' A'=>?_)
     have A':fY 2 h0 h' w (prs (done++[(T,v')])) (done++[(T,v')]).length:=by
      rw [aMO,List.length_append]; exact A'
     rw [hx] at hok hf
     have hl':=nU _ _ _ hx
     have hrl:r'.length≤s.length - (a+T.length+1):=by
      have:=congrArg List.length hl'.1
      simp at this; omega
     cases r' with
     | nil =>
      refine aM (by simp) ?_
      exact hok _ rfl w h' A'.upd A'.arr.rd.i
     | cons c r =>
      refine aK (by simp at hrl ⊢; omega) ?_
      have hpos:s.length - (c :: r).length+1=s.length - r.length:=by simp at hrl ⊢; omega
      refine inc (by simp; omega) ?_
      have hdrop:s.drop (s.length - (c :: r).length+1)=r:=bU hr'.symm
      refine ih _ (done++[(T,v')]) w h' (by simp at hrl ⊢; omega) (by simp at hrl ⊢; omega) (by simp at hrl ⊢; omega) A' (fun l hl w2 h2 U2 R2=>?_) fun hl h2 U2=>?_
      ·rw [hdrop] at hl
       refine hok ((T,v') :: l) ?_ w2 h2 U2 (by rw [List.append_assoc] at R2; exact R2)
       show (fS n r).map ((T,v') :: ·)=_
       rw [hl] <;> rfl
      ·rw [hdrop] at hl
       refine hf ?_ h2 U2
       show (fS n r).map ((T,v') :: ·)=_
       rw [hl] <;> rfl
theorem zP (hs:s.length≤512) (hq:∀ w h',Upd (fun _=>False) h0 h'→RdI 2 h' w (prs ((jJ s).getD [])) ((jJ s).getD []).length→Q (.tu [w,.b (jJ s).isSome]) h'):C Y1.id [.s s] h0 Q:=by
 refine Y1.call ?_
 simp only [Y1.t, ← Y1.p0.eq_1]
 refine aG (fun e=>?_) fun e=>?_
 ·have e := of_decide_eq_true e
  subst e
  exact .inl (hq _ _ (Upd.refl _ _) (.inl ⟨rfl,rfl,rfl⟩))
 ·have e := of_decide_eq_false e
  have ha:jJ s=fS (s.length+1) s:=if_neg e
  rw [ha] at hq
  refine aO3 (h0:=h0) (Q:=aI h0 Q) hs (s.length+1) 0 [] _ h0 (by omega) (by omega) (by simp) (fY.start 2 h0) (fun l hl w h' U R=>.inl ?_) fun hl h' U=>.inl ?_
  ·rw [List.drop_zero] at hl
   rw [hl] at hq
   exact hq w h' U R
  ·rw [List.drop_zero] at hl
   rw [hl] at hq
   exact hq _ h' U (.inl ⟨rfl,rfl,rfl⟩)
end
end Go.Proofs.YtcdkpkkdolmfdaaGreatDoor
namespace Go.GAM
theorem dY {id ver off o:Nat} {K:AV→Prop}:aD o (.p (some ⟨id,ver,off⟩)) K=K (.p (some ⟨id,ver,off+o⟩)):=rfl
theorem bL {l:List UInt8} {K:List UInt8→Prop}:asS (.s l) K=K l:=rfl
theorem aHZ {b:Bool} {K:Bool→Prop}:asB (.b b) K=K b:=rfl
theorem bY {n:Int} {K:Int→Prop}:asI .i64 (.i .i64 n) K=K n:=rfl
theorem aR {v:AV} {A:Prop}:(v=v∧A)=A:=by simp
theorem rP {h:aA} {id n o:Nat} {cs:List AV} {v:AV} {K:AV→Prop} (R:bE h id cs) (hn:n=cs.length) (hc:cs[o]? = some v):aC (.p (some ⟨id,n,o⟩)) h K=K v:=by
 refine propext ⟨fun hk=>?_,fun hk=>aO R hn hc hk⟩
 obtain ⟨b,h1,_,h2⟩:=hk
 obtain ⟨b',g1,g2,_⟩:=R
 have h1:h[id]? = some b:=h1
 rw [g1] at h1
 cases h1
 have h2:K (b.cells.getD o .u):=h2
 rw [g2,getD_some hc] at h2
 exact h2
theorem k7 {h:aA} {id n o k:Nat} {cs:List AV} {K:AV→Prop} (R:bE h id cs) (hn:n=cs.length) (hk:o+k≤cs.length):aB k (.p (some ⟨id,n,o⟩)) h K=K (.ag ((cs.drop o).take k)):=by
 obtain ⟨b,g1,g2,g3,g4⟩:=R
 refine propext ⟨fun h'=>?_,fun h'=>⟨b,g1,⟨by rw [hn]; exact g3,by rw [hn,g2]; exact Nat.le_refl _,by rw [hn]; exact hk⟩,by rw [g2]; exact h'⟩⟩
 obtain ⟨b',h1,_,h2⟩:=h'
 have h1:h[id]? = some b':=h1
 rw [g1] at h1
 cases h1
 rw [g2] at h2
 exact h2
def ptr (v:AV) (sz i o:Nat):AV:=match v with
 | .sl (some a) _ _=>.p (some ⟨a.id,a.ver,a.off+i * sz+o⟩)
 | _=>.u
theorem aKB {sz:Nat} {h:aA} {v:AV} {cs:List AV} {len:Nat} (R:RdI sz h v cs len) {k:IntKind} {n:Int} (h0:0≤n) (h1:n<len) {K:AV→Prop}:aE sz v (.i k n) h K=K (ptr v sz n.toNat 0):=by
 rcases R with ⟨rfl,rfl,rfl⟩ | ⟨rfl,_⟩ | ⟨id,ver,off,cap,b,rfl,h2,h4,h5,h6,h7⟩
 ·omega
 ·omega
 ·exact propext ⟨fun hk=>hk.2.2.2,fun hk=>⟨h0,h1,⟨b,h2,h4,by omega⟩,hk⟩⟩
theorem aIH {v:AV} {sz i o o':Nat} {h:aA} {cs:List AV} {len:Nat} (R:RdI sz h v cs len) (hi:i<len) {K:AV→Prop}:aD o' (ptr v sz i o) K=K (ptr v sz i (o+o')):=by
 rcases R with ⟨rfl,rfl,rfl⟩ | ⟨rfl,_⟩ | ⟨id,ver,off,cap,b,rfl,h2,h4,h5,h6,h7⟩
 ·omega
 ·omega
 ·show K _ = K _
  unfold ptr
  simp only [Nat.add_assoc]
theorem aCJ {v:AV} {sz i o:Nat} {h:aA} {cs:List AV} {len:Nat} {c:AV} (R:RdI sz h v cs len) (hi:i<len) (ho:o<sz) (hc:cs[i * sz+o]? = some c) {K:AV→Prop}:aC (ptr v sz i o) h K=K c:=by
 rcases R with ⟨rfl,rfl,rfl⟩ | ⟨rfl,_⟩ | ⟨id,ver,off,cap,b,rfl,h2,h4,h5,h6,h7⟩
 ·omega
 ·omega
 ·have e1 : (i + 1) * sz ≤ len * sz := Nat.mul_le_mul_right _ (by omega)
  rw [Nat.add_mul] at e1
  have hcell:b.cells.getD (off+i * sz+o) .u=c:=by
   rw [← h7,List.getElem?_take_of_lt (by omega),List.getElem?_drop] at hc
   exact getD_some (by rw [← hc]; congr 1; omega)
  refine propext ⟨fun hk=>?_,fun hk=>⟨b,h2,⟨h4,h5,by simp only; omega⟩,by simp only; rw [hcell]; exact hk⟩⟩
  obtain ⟨b',g1,_,g2⟩:=hk
  have g1:h[id]? = some b':=g1
  rw [h2] at g1
  cases g1
  have g2:K (b.cells.getD (off+i * sz+o) .u):=g2
  rw [hcell] at g2
  exact g2
theorem aN8 {v:AV} {sz i:Nat} {h:aA} {cs:List AV} {len:Nat} (R:RdI sz h v cs len) (hi:i<len) {K:AV→Prop}:aB sz (ptr v sz i 0) h K=K (.ag ((cs.drop (i * sz)).take sz)):=by
 rcases R with ⟨rfl,rfl,rfl⟩ | ⟨rfl,_⟩ | ⟨id,ver,off,cap,b,rfl,h2,h4,h5,h6,h7⟩
 ·omega
 ·omega
 ·have e1 : (i + 1) * sz ≤ len * sz := Nat.mul_le_mul_right _ (by omega)
  rw [Nat.add_mul] at e1
  have hcell:(b.cells.drop (off+i * sz)).take sz=(cs.drop (i * sz)).take sz:=by
   rw [← h7,List.drop_take,List.drop_drop,List.take_take,Nat.min_eq_left (by omega)]
  refine propext ⟨fun hk=>?_,fun hk=>⟨b,h2,⟨h4,h5,by simp only; omega⟩,by simp only [Nat.add_zero]; rw [hcell]; exact hk⟩⟩
  obtain ⟨b',g1,_,g2⟩:=hk
  have g1:h[id]? = some b':=g1
  rw [h2] at g1
  cases g1
  have g2:K (.ag ((b.cells.drop (off+i * sz+0)).take sz)):=g2
  rw [Nat.add_zero,hcell] at g2
  exact g2
theorem RdI.upd {sz:Nat} {M:Nat→Prop} {h h':aA} {v:AV} {cs:List AV} {len:Nat} (R:RdI sz h v cs len) (U:Upd M h h') (hM:∀ id,bZ v id→¬ M id):RdI sz h' v cs len:=by
 rcases R with h1 | h1 | ⟨id,ver,off,cap,b,rfl,h2,h3⟩
 ·exact .inl h1
 ·exact .inr (.inl h1)
 ·exact .inr (.inr ⟨id,ver,off,cap,b,rfl,(U.2 id (bM h2) (hM id rfl)).trans h2,h3⟩)
theorem RdI.plen {sz:Nat} {h:aA} {v:AV} {cs:List AV} {len:Nat} (R:RdI sz h v cs len) {K:Int→Prop}:bP v K=K (len:Int):=by
 rcases R with ⟨rfl,rfl,rfl⟩ | ⟨rfl,_,a,c,rfl⟩ | ⟨id,ver,off,cap,b,rfl,h2⟩ <;> rfl
theorem Stk.app1 {ty : Option TypeId} {bytes : Nat} {h : aA} {v x y : AV} {l : List AV} (S : Stk h v l) (R1 : Rd 1 h y [x] 1) (hx : x.cellOK = true) (hlen : (l.length + 1) * bytes ≤ 140737488355328) (hl2 : l.length + 1 ≤ 9223372036854775807) {K : AV → aA → Prop}
  (hk:∀ v' h',Upd (bZ v) h h'→Stk h' v' (l++[x])→(∀ i,bZ v' i→bZ v i∨h.length≤i)→K v' h'):bN ty 1 bytes v y h K:=by
 refine ⟨Nat.one_pos,R1.news ?_⟩
 rcases S with ⟨rfl,rfl⟩ | ⟨id,b,rfl,g1,g2,g3,g4,g5,g6,g7⟩
 ·refine ⟨by simpa using hlen, by omega, ?_⟩
  rw [if_neg (by decide)]
  exact hk _ _ ((Upd.app _ _).mono fun _ _ h=>h.elim) (.inr ⟨h.length,bR [x] 1 false ty,by simp [bR],by simp,rfl,by simp [bR],by simp [bR],by simp [bR],rfl,rfl⟩) fun i hi=>.inr (by have e:h.length=i:=hi; omega)
 ·have hid := bM g1
  refine ⟨hlen,by omega,b,g1,g2,⟨g5,Nat.le_refl _,by simp only; omega⟩, ?_⟩
  by_cases hfull:l.length=b.cells.length
  ·cases hex : b.ex with
   | true =>
    refine .inr (.inl ⟨Nat.one_pos,.inr ⟨rfl,rfl,rfl,by simp only; omega⟩, ?_⟩)
    refine hk _ _ ((Upd.app _ _).mono fun _ _ h=>h.elim) (.inr ⟨h.length,bR (l++[x]) 1 false ty, ?_, ?_,rfl,by simp [bR],by simp only [bR,List.length_append]; exact List.take_of_length_le (by simp),by simp [bR],rfl,rfl⟩) fun i hi=>.inr (by have e:h.length=i:=hi; omega)
    ·simp [bR,g4,g3]
    ·simp [g4]
   | false =>
    refine .inr (.inr (.inr (.inl ⟨Nat.one_pos,g6,rfl,rfl,by omega,rfl,rfl,g7,by simp [hx], ?_⟩)))
    have hcl:b.cells=l:=by rw [hfull,List.take_length] at g4; exact g4
    refine hk _ _ ((Upd.set _ _ _).mono fun i _ h=>h.symm) (.inr ⟨id,{ b with cells:=b.cells++[x],ty:=jU b.ty ty }, ?_,by simp [hid,hex],g2,by simp; omega, ?_,by simp; omega,g6,g7⟩) fun i hi=>.inl hi
    ·simp
    ·simp only [hcl]
     rw [List.take_of_length_le (by simp)]
  ·refine .inr (.inr (.inl ⟨Nat.one_pos, g6, rfl, by simp only; omega, .inl rfl, by simp [hx], ?_⟩))
   refine hk _ _ ((Upd.set _ _ _).mono fun i _ h=>h.symm) (.inr ⟨id,{ b with cells:=wr b.cells (0+l.length * 1) [x],floor:=b.cells.length }, ?_,show (h.set id _)[id]? = some _ from List.getElem?_set_self hid,g2, ?_, ?_, ?_,g6,g7⟩) fun i hi=>.inl hi
   ·simp [wr]
   ·simp [wr]; omega
   ·simp only [wr, Nat.zero_add, Nat.mul_one, List.length_append, List.length_cons, List.length_nil]
    apply List.ext_getElem?
    intro i
    by_cases h1:i<l.length
    ·rw [List.getElem?_take_of_lt (by omega), List.getElem?_set_ne (by omega), List.getElem?_append_left h1]
     conv=>rhs; rw [← g4]
     rw [List.getElem?_take_of_lt h1]
    ·by_cases h2 : i = l.length
     ·subst h2
      rw [List.getElem?_take_of_lt (by omega),List.getElem?_set_self (by omega),List.getElem?_append_right (by omega)]
      simp
     ·rw [List.getElem?_eq_none (by simp; omega),List.getElem?_eq_none (by simp; omega)]
   ·simp [wr]
theorem eT.app1 {ty:Option TypeId} {bytes:Nat} {h0 h:aA} {v x y:AV} {l:List AV} (S:eT h0 h v l) (R1:Rd 1 h y [x] 1) (hx:x.cellOK=true) (hlen:(l.length+1) * bytes≤140737488355328) (hl2:l.length+1≤9223372036854775807) {K:AV→aA→Prop}
  (hk:∀ v' h',eT h0 h' v' (l++[x])→Upd (bZ v) h h'→(∀ i,bZ v' i→bZ v i∨h.length≤i)→K v' h'):bN ty 1 bytes v y h K:=
 S.stk.app1 R1 hx hlen hl2 fun v' h' U S' F=>hk v' h' ⟨S.upd.trans U fun i hi hs=>absurd (S.new i hs) (by omega),S',fun i hi=>by
  rcases F i hi with h | h
  ·exact S.new i h
  ·exact Nat.le_trans S.upd.1 h⟩ U F
end Go.GAM
namespace Go.GAM
inductive Ev (α:Type) where
 | ok (a:α)
 | no (c:Nat)
deriving Inhabited
def hP {α:Type} (c:Bool) (n:Nat) (x:Ev α):Ev α:=bif c then x else .no n
structure CB where
 b:ABlk
 n:Nat
inductive Tr where
 | e
 | n (v:Option CB) (l r:Tr)
structure HS where
 t:Tr
 n:Nat
end Go.GAM
namespace Go.GAM
abbrev EvS:=Ev (AV × HS)
end Go.GAM
namespace Go.GAM
section
variable {P:Program}
abbrev aO5:=FuncId→List AV→HS→EvS
end
end Go.GAM
namespace Go.GAM
section
variable {P:Program} {RC:aO5} {RA:bX} {nt:Nat}
end
end Go.GAM
namespace Go.GAM
end Go.GAM
namespace Go.GAM
open Go.RowKit
section
variable {w:World}
end
end Go.GAM
namespace Go.Proofs.YtcdkpkkdolmfdaaGreatDoor
open Go.GAM Go.RowKit
def qZ (d:Der):Bool:=isS 0 3 false d
def iO (d:Der):Bool:=isS 0 1 false d&&decide (d.data.length=1)
def fA (d:Der):Bool:=isS 0 16 true d
def pU (n:Nat):UInt8:=if n<10 then UInt8.ofNat (48+n) else UInt8.ofNat (87+n)
def iT (l:List UInt8):List UInt8:=l.flatMap fun c=>[pU (c.toNat / 16),pU (c.toNat % 16)]
def altOid:List UInt8:=[50,46,53,46,50,57,46,49,55]
def basOid:List UInt8:=[50,46,53,46,50,57,46,49,57]
def eL (d:Der):Option (List UInt8 × List UInt8):=match d.kids with
 | [a,b]=>if (fA d&&(isS 0 4 false b&&(g8 a).2))=true then some ((g8 a).1,b.data) else none
 | [a,t,b]=>if (fA d&&(iO t&&(isS 0 4 false b&&(g8 a).2)))=true then some ((g8 a).1,b.data) else none
 | _=>none
def dL:List (List UInt8)→List Der→List (List UInt8)
 | ns,[]=>ns
 | ns,y :: r=>if (isS 2 2 false y&&decide (ns.length<16))=true then dL (ns++[gX y.data]) r else dL ns r
def aCE (ks:List Der):Bool:=match ks with
 | []=>false
 | k :: _=>iO k && !decide (k.data=[0])
def gP (s:List UInt8):Option (List Der):=match nV s with
 | .ok v=>if fA v=true then some v.kids else none
 | .error _=>none
def eJ : List Der → Bool → Bool → List (List UInt8) × Bool → Option (List (List UInt8) × Bool)
 | [],_,_,x=>some x
 | d :: r, nm, bs, x => match eL d with
  | none=>none
  | some (t, s) =>
   if t=altOid∧nm=false then (match gP s with
    | some ks=>eJ r true bs (dL x.1 ks,x.2)
    | none=>none)
   else if t=basOid∧bs=false then (match gP s with
    | some ks=>eJ r nm true (x.1,aCE ks)
    | none=>none)
   else eJ r nm bs x
def aHX (a:Der):Bool:=isS 2 0 true a&&(match a.kids with
 | [v]=>(aGW v).2&&decide ((aGW v).1=2)
 | _=>false)
def jL (e:Der):Option (Int × Int):=if fA e=true then (match e.kids with
 | [p,q]=>if ((dQ p).2&&(dQ q).2)=true then some ((dQ p).1,(dQ q).1) else none
 | _=>none) else none
def aBX (g : Der) : Option (List UInt8) := if fA g = true then (match g.kids with
 | [p, q] => if (fA p && qZ q) = true then (match q.data with
  | c :: r=>if c=0 then some r else none
  | []=>none) else none
 | _=>none) else none
def wM : List Der → Option (List (List UInt8) × Bool)
 | []=>some ([],false)
 | [x] => if isS 2 3 true x = true then (match x.kids with
  | [k]=>if fA k=true then eJ k.kids false false ([],false) else none
  | _=>none) else none
 | _=>none
def cH (l : List Der) : Option dP := match l with
 | a :: b :: c :: d :: e :: f :: g :: x =>
  if (aHX a&&(isS 0 2 false b&&(!decide (b.data=[])&&fA c)))=true then
   match cZ d,cZ f,jL e,aBX g,wM x with
   | some i,some s,some t,some k,some n=>some ⟨iT b.data,i,s,t.1,t.2,n.1,n.2,k⟩
   | _,_,_,_,_=>none
  else none
 | _=>none
def sL (s : List UInt8) : Except Int dP := if 65535 < s.length then .error 3 else match nV s with
 | .error e=>.error e
 | .ok d => if fA d = true then (match d.kids with
  | [a, b, c] => if (fA a && (fA b && qZ c)) = true then (match cH a.kids with
   | some c=>.ok c
   | none=>.error 2) else .error 2
  | _=>.error 2) else .error 2
def mV (c:UInt8):Option Nat:=if 48≤c.toNat∧c.toNat≤57 then some (c.toNat - 48) else if 97≤c.toNat∧c.toNat≤102 then some (c.toNat - 87) else none
def eW : List UInt8 → Option (List UInt8)
 | []=>some []
 | a :: b :: r => match mV a, mV b, eW r with
  | some x,some y,some l=>some (UInt8.ofNat (16 * x+y) :: l)
  | _,_,_=>none
 | [_]=>none
def pB (l:List UInt8):Bool:=match l with
 | a :: b :: _=>(decide (a.toNat=0)&&decide (b.toNat<128))||(decide (a.toNat=255)&&decide (128≤b.toNat))
 | _=>false
def cB (s:List UInt8):Option (List UInt8):=if s=[]∨s.length % 2=1∨40<s.length then none else match eW s with
 | none=>none
 | some l=>if pB l=true then none else some l
def eE (ks:List Der):Der:=.mk 0 16 true [] ks
def dH (c t:Int) (s:List UInt8):Der:=.mk c t false s []
def mO (o:List UInt8):Der:=dH 0 6 (cJ o)
def kO:List UInt8:=[49,46,50,46,56,52,48,46,49,48,48,52,53,46,52,46,51,46,50]
def mH:Der:=eE [mO kO]
def iM (o s:List UInt8):Der:=eE [mO o,dH 0 4 s]
def rB (names:List (List UInt8)):Der:=eE (names.map fun n=>dH 2 2 n)
def pK:Der:=eE [dH 0 1 [255]]
def nC (names:List (List UInt8)):Except Int (List Der):=if names=[] then .ok [] else match eS (rB names) with
 | .error e=>.error e
 | .ok s=>.ok [iM altOid s]
def lT (auth:Bool):Except Int (List Der):=if auth=true then (match eS pK with
 | .error e=>.error e
 | .ok s=>.ok [iM basOid s]) else .ok []
def jZ (number:List UInt8) (iss sub f u:Der) (key:List UInt8):List Der:=
 [.mk 2 0 true [] [dH 0 2 [2]],dH 0 2 number,mH,iss,eE [f,u],sub,eE [mH,dH 0 3 (0 :: key)]]
def eD (ext:List Der):List Der:=if ext=[] then [] else [.mk 2 3 true [] [eE ext]]
def aH7 (number:List UInt8) (iss sub f u:Der) (key:List UInt8) (ext:List Der):Der:=
 eE [eE (jZ number iss sub f u key++eD ext),mH,dH 0 3 (0 :: (key++[0,0,0,0,0,0,0,0]).take 8)]
def qD (y m d r:Nat):Der:=if y<2050 then dH 0 23 (jS y m d r) else dH 0 24 (gU (y / 100)++jS y m d r)
def kB (n:Int) (t:Der):Prop:=∃ k y m d:Nat,n=(k:Int)∧k≤253402300799∧aAQ (k / 86400) y m d∧t=qD y m d (k % 86400)
def dZ (c:dP):Int:=
 if c.frm<0∨253402300799<c.til∨c.til<c.frm then 4 else
 if (bK c.issuer).2≠0∨(bK c.subject).2≠0 then 5 else
 if c.names.any (fun n=>!decide (gX n=n))=true then 5 else
 if cB c.serial=none then 2 else
 if 16<c.names.length∨1024<c.key.length then 3 else 0
def iL (c:dP) (f u:Der):Except Int (List UInt8):=if dZ c≠0 then .error (dZ c) else match nC c.names,lT c.auth with
 | .error e,_=>.error e
 | .ok _,.error e=>.error e
 | .ok a,.ok b=>eS (aH7 ((cB c.serial).getD []) (bK c.issuer).1 (bK c.subject).1 f u c.key (a++b))
end Go.Proofs.YtcdkpkkdolmfdaaGreatDoor
namespace Go.Proofs.YtcdkpkkdolmfdaaGreatDoor
open Go.GAM Go.RowKit
theorem sF {c:UInt8} {x:Nat} (h:mV c=some x):pU x=c∧x<16:=by
 unfold mV at h
 have hc:UInt8.ofNat c.toNat=c:=by simp
 split at h
 ·rename_i e
  cases h
  refine ⟨?_,by omega⟩
  unfold pU
  rw [if_pos (by omega),show 48+(c.toNat - 48)=c.toNat by omega,hc]
 ·split at h
  ·rename_i e
   cases h
   refine ⟨?_,by omega⟩
   unfold pU
   rw [if_neg (by omega),show 87+(c.toNat - 87)=c.toNat by omega,hc]
  ·cases h
theorem pI:∀ (s l:List UInt8),eW s=some l→iT l=s
 | [],l,h=>by unfold eW at h; cases h; rfl
 | [_],l,h=>by unfold eW at h; cases h
 | a :: b :: r, l, h => by
  unfold eW at h
  split at h
  ·rename_i x y l' hx hy hl
   cases h
   have ih:=pI r l' hl
   obtain ⟨g1,g2⟩:=sF hx
   obtain ⟨g3,g4⟩:=sF hy
   have e:(UInt8.ofNat (16 * x+y)).toNat=16 * x+y:=lK (by omega)
   show [pU ((UInt8.ofNat (16 * x+y)).toNat / 16),pU ((UInt8.ofNat (16 * x+y)).toNat % 16)]++iT l'=_
   rw [e,show (16 * x+y) / 16=x by omega,show (16 * x+y) % 16=y by omega,g1,g3,ih] <;> rfl
  ·cases h
theorem s6 {s l : List UInt8} (h : cB s = some l) : iT l = s ∧ l ≠ [] := by
 unfold cB at h
 split at h
 ·cases h
 ·rename_i e
  split at h
  ·cases h
  ·rename_i l' hl
   split at h
   ·cases h
   ·cases h
    have:=pI s l hl
    refine ⟨this, ?_⟩
    rintro rfl
    exact e (.inl this.symm)
theorem yW {s:List UInt8} (h:(bK s).2=0):cZ (bK s).1=some s:=by
 unfold bK at *
 by_cases h1:512<s.length
 ·rw [if_pos h1] at h; cases h
 rw [if_neg h1] at *
 by_cases h2:s=[]
 ·rw [if_pos h2] at *; subst h2; rfl
 rw [if_neg h2] at *
 by_cases h3:cZ (gQ ((bO [] s).flatMap kidsOf))=some s
 ·rw [if_pos h3] at *; exact h3
 ·rw [if_neg h3] at h; cases h
theorem yO {n:Int} {t:Der} (h:kB n t):dQ t=(n,true):=by
 obtain ⟨k,y,m,d,rfl,hk,D,rfl⟩:=h
 obtain ⟨t,s,h1,_,h2⟩:=aCG hk D
 unfold iW bF at h1
 unfold qD
 by_cases hy:y<2050
 ·rw [if_pos hy] at *
  simp only [List.cons.injEq,AV.i.injEq,AV.s.injEq,true_and,and_true] at h1
  obtain ⟨rfl,rfl⟩:=h1
  exact h2
 ·rw [if_neg hy] at *
  simp only [List.cons.injEq,AV.i.injEq,AV.s.injEq,true_and,and_true] at h1
  obtain ⟨rfl,rfl⟩:=h1
  exact h2
theorem aMK:g8 (mO altOid)=(altOid,true):=by kernel_rfl
theorem aMT:g8 (mO basOid)=(basOid,true):=by kernel_rfl
theorem aET (s:List UInt8):eL (iM altOid s)=some (altOid,s):=by
 show (if (true&&(true&&(g8 (mO altOid)).2))=true then some ((g8 (mO altOid)).1,s) else none)=_
 rw [aMK] <;> rfl
theorem aFB (s:List UInt8):eL (iM basOid s)=some (basOid,s):=by
 show (if (true&&(true&&(g8 (mO basOid)).2))=true then some ((g8 (mO basOid)).1,s) else none)=_
 rw [aMT] <;> rfl
theorem rF:∀ (ns acc:List (List UInt8)),acc.length+ns.length≤16→(∀ n∈ns,gX n=n)→dL acc (ns.map fun n=>dH 2 2 n)=acc++ns
 | [],acc,_,_=>by simp [dL]
 | n :: ns, acc, h, hl => by
  simp only [List.length_cons] at h
  rw [List.map_cons]
  unfold dL
  have e:isS 2 2 false (dH 2 2 n)=true:=rfl
  rw [e,decide_eq_true (show acc.length<16 by omega),if_pos (show (true&&true)=true from rfl)]
  show dL (acc++[gX n]) _=_
  rw [hl n (by simp),rF ns (acc++[n]) (by simp; omega) fun x hx=>hl x (by simp [hx]),List.append_assoc] <;> rfl
theorem oV {ks:List Der} {s:List UInt8} (h:eS (eE ks) = .ok s):gP s=some ks:=by
 unfold gP
 rw [(pO h).2.2.1] <;> rfl
theorem aK4 {names : List (List UInt8)} {auth : Bool} {a b : List Der} (ha : nC names = .ok a) (hb : lT auth = .ok b) (hl : ∀ n ∈ names, gX n = n) (h16 : names.length ≤ 16) : wM (eD (a ++ b)) = some (names, auth) := by
 have hadd:=rF names [] (by simpa using h16) hl
 rw [List.nil_append] at hadd
 have hab:(altOid=basOid)=False:=eq_false (by decide)
 have hba:(basOid=altOid)=False:=eq_false (by decide)
 unfold nC at ha
 unfold lT at hb
 cases auth with
 | false =>
  rw [if_neg (by decide)] at hb
  cases hb
  split at ha
  ·rename_i e; subst e; cases ha; rfl
  ·split at ha
   ·cases ha
   ·rename_i s hs
    cases ha
    show eJ [iM altOid s] false false ([],false)=_
    unfold eJ
    rw [aET]
    simp only
    rw [if_pos (by simp),oV hs]
    simp only
    rw [hadd] <;> rfl
 | true =>
  rw [if_pos rfl] at hb
  split at hb
  ·cases hb
  ·rename_i t ht
   cases hb
   have hau:aCE [dH 0 1 [255]]=true:=by decide
   split at ha
   ·rename_i e; subst e; cases ha
    show eJ [iM basOid t] false false ([],false)=_
    unfold eJ
    rw [aFB]
    simp only
    rw [if_neg (by simp [hba]),if_pos (by simp),oV (ks:=[dH 0 1 [255]]) ht]
    simp only
    rw [hau] <;> rfl
   ·split at ha
    ·cases ha
    ·rename_i s hs
     cases ha
     show eJ [iM altOid s,iM basOid t] false false ([],false)=_
     unfold eJ
     rw [aET]
     simp only
     rw [if_pos (by simp),oV hs]
     simp only
     rw [hadd]
     unfold eJ
     rw [aFB]
     simp only
     rw [if_neg (by simp [hba]),if_pos (by simp),oV (ks:=[dH 0 1 [255]]) ht]
     simp only
     rw [hau] <;> rfl
theorem round {c : dP} {f u : Der} {s : List UInt8} (hf : kB c.frm f) (hu : kB c.til u) (h : iL c f u = .ok s) : sL s = .ok c := by
 unfold iL at h
 split at h
 ·cases h
 ·rename_i hc
  have hc:dZ c=0:=by simpa using hc
  unfold dZ at hc
  split at hc
  ·cases hc
  ·split at hc
   ·cases hc
   ·rename_i hn
    split at hc
    ·cases hc
    ·rename_i hlow
     split at hc
     ·cases hc
     ·rename_i hser
      split at hc
      ·cases hc
      ·rename_i hlen
       rw [not_or] at hn hlen
       have hi:(bK c.issuer).2=0:=by simpa using hn.1
       have hs:(bK c.subject).2=0:=by simpa using hn.2
       have hl:∀ n∈c.names,gX n=n:=by simpa using hlow
       cases hx:cB c.serial with
       | none=>exact absurd hx hser
       | some num =>
        rw [hx] at h
        obtain ⟨g1,g2⟩:=s6 hx
        split at h
        ·cases h
        ·cases h
        ·rename_i a b ha hb
         obtain ⟨_,e1,e2,_⟩:=pO h
         unfold sL
         rw [if_neg (by omega),e2]
         simp only [Option.getD_some]
         rw [if_pos (show fA (aH7 num (bK c.issuer).1 (bK c.subject).1 f u c.key (a++b))=true from rfl)]
         have hk:(aH7 num (bK c.issuer).1 (bK c.subject).1 f u c.key (a++b)).kids=[eE (jZ num (bK c.issuer).1 (bK c.subject).1 f u c.key++eD (a++b)),mH,dH 0 3 (0 :: (c.key++[0,0,0,0,0,0,0,0]).take 8)]:=rfl
         rw [hk]
         simp only
         rw [if_pos (show (fA (eE (jZ num (bK c.issuer).1 (bK c.subject).1 f u c.key++eD (a++b)))&&(fA mH&&qZ (dH 0 3 (0 :: List.take 8 (c.key++[0,0,0,0,0,0,0,0])))))=true from rfl)]
         rw [show (eE (jZ num (bK c.issuer).1 (bK c.subject).1 f u c.key++eD (a++b))).kids=jZ num (bK c.issuer).1 (bK c.subject).1 f u c.key++eD (a++b) from rfl]
         have ht:jL (eE [f,u])=some (c.frm,c.til):=by
          show (if ((dQ f).2&&(dQ u).2)=true then some ((dQ f).1,(dQ u).1) else none)=_
          rw [yO hf,yO hu] <;> rfl
         have hcon:cH (jZ num (bK c.issuer).1 (bK c.subject).1 f u c.key++eD (a++b))=some c:=by
          unfold jZ cH
          simp only [List.cons_append,List.nil_append]
          rw [if_pos (by
           show (aHX _&&(isS 0 2 false (dH 0 2 num)&&(!decide (num=[])&&true)))=true
           rw [decide_eq_false g2] <;> rfl),yW hi,yW hs,ht,aK4 ha hb hl (by omega)]
          show some _=_
          show some (dP.mk (iT num) c.issuer c.subject c.frm c.til c.names c.auth c.key)=_
          rw [g1]
         rw [hcon]
end Go.Proofs.YtcdkpkkdolmfdaaGreatDoor
namespace Go.Proofs.YtcdkpkkdolmfdaaGreatDoor
open Go.GAM Go.RowKit
theorem aGF : ∀ f, (∀ lvl n s d r n', lP f lvl n s = .ok (d, r, n') → n' = n + d.sz) ∧ (∀ lvl n s ks n', kM f lvl n s = .ok (ks, n') → n' = n + szs ks) := by
 intro f
 induction f with
 | zero =>
  refine ⟨fun lvl n s d r n' h=>?_,fun lvl n s ks n' h=>?_⟩
  ·unfold lP at h; cases h
  ·unfold kM at h; cases h
 | succ f ih =>
  refine ⟨fun lvl n s d r n' h=>?_,fun lvl n s ks n' h=>?_⟩
  ·unfold lP at h
   cases s with
   | nil=>cases h
   | cons c s =>
    simp only at h
    split at h
    ·cases h
    split at h
    ·cases h
    split at h
    ·cases h
    split at h
    ·cases h
    ·split at h
     ·cases h
     ·split at h
      ·cases h
       simp only [Der.sz,szs]
      ·split at h
       ·cases h
       ·rename_i ks n2 hk
        cases h
        have:=ih.2 _ _ _ _ _ hk
        simp only [Der.sz]; omega
  ·unfold kM at h
   cases s with
   | nil=>cases h; simp [szs]
   | cons c s =>
    simp only at h
    split at h
    ·cases h
    ·rename_i d t n1 hv
     split at h
     ·cases h
     ·rename_i ks' n2 hk
      cases h
      have h1:=ih.1 _ _ _ _ _ _ hv
      have h2:=ih.2 _ _ _ _ _ hk
      simp only [szs]; omega
def Fit (d:Der):Prop:=(cT d).length≤65535∧d.sz≤256∧wfV d
theorem Fit.of {s : List UInt8} {d : Der} (h : nV s = .ok d) : Fit d := by
 have h1:=aEI h
 have h2:=h
 unfold nV at h2
 unfold eS at h1
 split at h1
 ·cases h1
 ·rename_i hc
  have hc:(d6 1 0 d).1=0:=by simpa using hc
  split at h1
  ·cases h1
  ·rename_i hb
   refine ⟨by omega, ?_,(aD8 d.sz).1 d 1 0 (Nat.le_refl _) hc⟩
   split at h2
   ·cases h2
   ·split at h2
    ·cases h2
    ·rename_i d' r n hv
     split at h2
     ·cases h2
      have g1:=(aGF _).1 _ _ _ _ _ _ hv
      have g2:=(oQ _).1 _ _ _ _ _ _ hv
      omega
     ·cases h2
theorem aCQ {c t:Int} {m:Bool} {s:List UInt8} {ks:List Der}:s.length+(cC ks).length≤(cT (.mk c t m s ks)).length:=by
 unfold cT
 simp only [List.length_append,List.length_cons]; omega
theorem vJ:∀ {ks:List Der} {k:Der},k∈ks→(cT k).length≤(cC ks).length
 | [],_,h=>by cases h
 | a :: r, k, h => by
  unfold cC
  rw [List.length_append]
  rcases List.mem_cons.1 h with rfl | h
  ·omega
  ·have:=vJ h; omega
theorem Fit.data {d:Der} (h:Fit d):d.data.length≤65535:=by
 obtain ⟨c,t,m,s,ks⟩:=d
 have:=aCQ (c:=c) (t:=t) (m:=m) (s:=s) (ks:=ks)
 have:=h.1
 show s.length≤65535
 omega
theorem Fit.kid {d k:Der} (h:Fit d) (hk:k∈d.kids):Fit k:=by
 obtain ⟨c,t,m,s,ks⟩:=d
 have hk:k∈ks:=hk
 obtain ⟨h1,h2,h3⟩:=h
 have:=aCQ (c:=c) (t:=t) (m:=m) (s:=s) (ks:=ks)
 have:=vJ hk
 have g:=oO hk
 unfold wfV at h3
 refine ⟨by omega, ?_,uB h3.2.2.2 hk⟩
 simp only [Der.sz] at h2; omega
theorem Fit.few {d:Der} (h:Fit d):d.kids.length≤256:=by
 obtain ⟨c,t,m,s,ks⟩:=d
 have:=oW ks
 have:=h.2.1
 simp only [Der.sz] at this
 show ks.length≤256
 omega
theorem Fit.names {d:Der} (h:Fit d):wK d:=⟨by have:=h.few; omega,fun s hs k hk x hx=>by
 have:=(((h.kid hs).kid hk).kid hx).data; omega⟩
end Go.Proofs.YtcdkpkkdolmfdaaGreatDoor
namespace Go.GAM
theorem aPX {h:aA} {id n:Nat} {cs:List AV} {K:AV→Prop} (G:jO h id cs) (hn:n=cs.length):aB n (bG h id) h K=K (.ag cs):=by
 refine propext ⟨fun hk=>?_,fun hk=>G.loadN hn hk⟩
 rw [G.var] at hk
 obtain ⟨b,h1,rfl,h3,h4⟩:=G
 obtain ⟨b',g1,g2,g3⟩:=hk
 have g1:h[id]? = some b':=g1
 rw [h1] at g1
 cases g1
 subst hn
 simpa using g3
theorem aW {h:aA} {id:Nat} {a b c:AV} {K:AV→Prop} (G:jO h id [a,b,c]):aB 3 (bG h id) h K=K (.ag [a,b,c]):=aPX (n:=3) G rfl
end Go.GAM
namespace Go.Proofs.YtcdkpkkdolmfdaaGreatDoor
open Go.GAM Go.RowKit
structure CG2 (h:aA):Prop where
 g:CG h
 bits:jO h 1 [.i .i64 0,.i .i64 3,.b false]
 ver:jO h 2 [.i .i64 2,.i .i64 0,.b true]
 int:jO h 3 [.i .i64 0,.i .i64 2,.b false]
 host:jO h 4 [.i .i64 2,.i .i64 2,.b false]
 tru:jO h 5 [.i .i64 0,.i .i64 1,.b false]
 ext:jO h 6 [.i .i64 2,.i .i64 3,.b true]
 oct:jO h 9 [.i .i64 0,.i .i64 4,.b false]
theorem CG2.up {h h':aA} (G:CG2 h) (U:Upd (fun _=>False) h h'):CG2 h':=
 ⟨G.g.ext U,G.bits.upd U fun h=>h,G.ver.upd U fun h=>h,G.int.upd U fun h=>h,G.host.upd U fun h=>h,G.tru.upd U fun h=>h,G.ext.upd U fun h=>h,G.oct.upd U fun h=>h⟩
structure KL (h:aA) (F:Nat→Prop) (v:AV) (ks:List Der) (rows:List (List AV)):Prop where
 dv:DVs h F ks rows
 sl:kW 5 h v rows.flatten rows.length
 sf:∀ i,bZ v i→F i
theorem KL.up {h h':aA} {F:Nat→Prop} {v:AV} {ks:List Der} {rows:List (List AV)} (L:KL h F v ks rows) (U:Upd (fun _=>False) h h'):KL h' F v ks rows:=
 ⟨L.dv.upd U fun i hF hi=>⟨fun h=>h,hF⟩,L.sl.upd U fun _ _ _ h=>h,L.sf⟩
theorem KL.rd {h:aA} {F:Nat→Prop} {v:AV} {ks:List Der} {rows:List (List AV)} (L:KL h F v ks rows):RdI 5 h v rows.flatten ks.length:=by
 rw [L.dv.length]; exact L.sl.i
structure KAt (hb:aA) (F:Nat→Prop) (v:AV) (i:Nat) (k:Der) (r:List AV):Prop where
 dv:DV hb F k r
 idx:∀ (h:aA),Upd (fun _=>False) hb h→∀ K:AV→Prop,aE 5 v (.i .i64 (i:Int)) h K=K (ptr v 5 i 0)
 ld:∀ (h:aA),Upd (fun _=>False) hb h→∀ K:AV→Prop,aB 5 (ptr v 5 i 0) h K=K (.ag r)
 fa:∀ (o:Nat) (K:AV→Prop),aD o (ptr v 5 i 0) K=K (ptr v 5 i o)
 f3:∀ (h:aA),Upd (fun _=>False) hb h→∀ K:AV→Prop,aC (ptr v 5 i 3) h K=K (.s k.data)
 f4:∃ w rs,r[4]? = some w∧KL hb F w k.kids rs∧∀ (h:aA),Upd (fun _=>False) hb h→∀ K:AV→Prop,aC (ptr v 5 i 4) h K=K w
theorem KL.at {hb:aA} {F:Nat→Prop} {v:AV} {ks:List Der} {rows:List (List AV)} (L:KL hb F v ks rows) {i:Nat} {k:Der} (hk:ks[i]? = some k):∃ r,KAt hb F v i k r:=by
 obtain ⟨r,hr,D⟩:=L.dv.get hk
 have hi:i<ks.length:=bM hk
 have hrow:=j4 rows i r L.dv.len5 hr
 have hl5:=D.len
 have cell:∀ (o:Nat) (c:AV),o<5→r[o]? = some c→rows.flatten[i * 5+o]? = some c:=by
  intro o c ho hc
  rw [← hrow,List.getElem?_take_of_lt ho,List.getElem?_drop] at hc
  exact hc
 have hd3:=D.dat
 obtain ⟨w,rs,g1,g2,g3,g4,g5⟩:=D.kidsLen
 refine ⟨r,D,fun h U K=>?_,fun h U K=>?_,fun o K=>?_,fun h U K=>?_,w,rs,g1,⟨g2,g3,fun i hi=>(g5 i hi).1⟩,fun h U K=>?_⟩
 ·exact aKB ((L.up U).rd) (by omega) (by omega)
 ·rw [aN8 ((L.up U).rd) hi,hrow]
 ·rw [aIH (L.rd) hi,Nat.zero_add]
 ·exact aCJ ((L.up U).rd) hi (by omega) (cell 3 _ (by omega) hd3)
 ·exact aCJ ((L.up U).rd) hi (by omega) (cell 4 _ (by omega) g1)
theorem KAt.row {hb:aA} {F:Nat→Prop} {v:AV} {i:Nat} {k:Der} {r:List AV} (A:KAt hb F v i k r):r.length=5:=A.dv.len
section
variable {h:aA} {Q:AV→aA→Prop} {id:Nat} {cs:List AV} {bad:Bool}
theorem aEO {ok:Bool} (R:bE h id cs) (hl:cs.length=9) (hb:cs[8]? = some (.b bad)) (hq:∀ h',Upd (· = id) h h'→bE h' id (cs.set 8 (.b (bad || !ok)))→Q (.b (!(bad || !ok))) h') :
  C Y33.id [.p (some ⟨id,9,0⟩),.b ok] h Q:=by
 refine Y33.call ?_
 simp only [Y33.t, ← Y33.p0.eq_1]
 have fin:∀ b,b=(bad || !ok)→aS 1 (.p (some ⟨id,9,8⟩)) (.b b) h fun h7=>Y33.p0 (aI h Q) (.p (some ⟨id,9,0⟩)) h7:=by
  intro b hb
  subst hb
  refine cM R hl.symm (by omega) rfl rfl rfl fun h' hl' U R'=>?_
  refine Y33.i0 ?_
  simp only [Y33.t0]
  refine b8 (aP (aO (v:=.b (bad || !ok)) R' (by rw [List.length_set]; exact hl.symm) (by rw [List.getElem?_set_self (by omega)]) (aX (.inl (hq h' U R')))))
 refine b8 (aP (aO R hl.symm hb (aX (aG (fun e=>?_) fun e=>?_))))
 ·exact b8 (aP (fin _ (by rw [e] <;> rfl)))
 ·exact b8 (aP (fin _ (by rw [e] <;> rfl)))
def txt:Option (List UInt8)→List UInt8
 | some t=>t
 | none=>[]
theorem aFJ {d:Der} {r:List AV} {F:Nat→Prop} (G:CG h) (D:DV h F d r) (hs:wK d) (hid:∀ i,F i→i≠id) (R:bE h id cs) (hl:cs.length=9) (hb:cs[8]? = some (.b bad))
  (hq:∀ h',Upd (· = id) h h'→bE h' id (cs.set 8 (.b (bad||(cZ d).isNone)))→Q (.s (txt (cZ d))) h') :
  C Y86.id [.p (some ⟨id,9,0⟩),.ag r] h Q:=by
 refine Y86.call ?_
 simp only [Y86.t]
 refine D.box fun h1 hl1 U1 R1 D1=>?_
 refine bB R1 D1.len.symm ?_
 refine aJM (G.ext U1) D1 hs ?_
 have fin:∀ (ok:Bool) (t:List UInt8),ok = !(cZ d).isNone→t=txt (cZ d)→C Y33.id [.p (some ⟨id,9,0⟩),.b ok] h1 fun v11 h12=>asB v11 fun c13=>aI h Q (.s t) h12:=by
  intro ok t ho ht
  refine aEO (R.upd U1 fun h=>h) hl hb fun h' U2 R2=>aX (.inl ?_)
  subst ht ho
  rw [Bool.not_not] at R2
  exact hq h' ((U1.mono fun _ _ h=>h.elim).trans U2 fun _ _ h=>h) R2
 cases hn:cZ d with
 | none=>exact bD (aZ (bC (aU (fin _ _ (by rw [hn] <;> rfl) (by rw [hn] <;> rfl)))))
 | some t=>exact bD (aZ (bC (aU (fin _ _ (by rw [hn] <;> rfl) (by rw [hn] <;> rfl)))))
end
end Go.Proofs.YtcdkpkkdolmfdaaGreatDoor
namespace Go.Proofs.YtcdkpkkdolmfdaaGreatDoor
open Go.GAM Go.RowKit
def pc (ser iss sub:List UInt8) (frm til:Int) (nv:AV) (au:Bool) (key:List UInt8) (bad:Bool):List AV:=[.s ser,.s iss,.s sub,.i .i64 frm,.i .i64 til,nv,.b au,.s key,.b bad]
abbrev sκ:List UInt8→AV:=fun x=>AV.s x
section
variable {hb:aA} {id mid:Nat} {ser iss sub key:List UInt8} {frm til:Int} {Q:AV→aA→Prop}
def sC (hb:aA) (id:Nat) (ser iss sub key:List UInt8) (frm til:Int) (Q:AV→aA→Prop) (res:Option (List (List UInt8) × Bool)):Prop:=
 ∀ h' nv au bad,Upd (fun _=>False) hb h'→bE h' id (pc ser iss sub frm til nv au key bad)→bad=res.isNone→(∀ x,res=some x→au=x.2∧RdI 1 h' nv (x.1.map .s) x.1.length∧∀ i,bZ nv i→hb.length≤i)→Q (.tu []) h'
structure ESt (hb:aA) (id mid:Nat) (ser iss sub key:List UInt8) (frm til:Int) (h:aA) (kv:List (List UInt8 × AV)) (nm bs:Bool) (ns:List (List UInt8)) (au:Bool) (nv:AV):Prop where
 r:bE h id (pc ser iss sub frm til nv au key false)
 m:lO sκ h mid kv
 sa:(lkM kv altOid).getD (.b false) = .b nm
 sb:(lkM kv basOid).getD (.b false) = .b bs
 sx:∀ t, ∃ b,(lkM kv t).getD (.b false) = .b b
 s:eT hb h nv (ns.map .s)
 ni:∀ i,bZ nv i→i≠id∧i≠mid
 il:hb.length≤id
 ml:hb.length≤mid
 ne:mid≠id
variable {h:aA} {kv:List (List UInt8 × AV)} {nm bs:Bool} {ns:List (List UInt8)} {au:Bool} {nv:AV}
theorem ESt.up {h':aA} (S:ESt hb id mid ser iss sub key frm til h kv nm bs ns au nv) (U:Upd (fun _=>False) h h'):ESt hb id mid ser iss sub key frm til h' kv nm bs ns au nv:=
 ⟨S.r.upd U fun h=>h,S.m.upd U fun h=>h,S.sa,S.sb,S.sx,⟨S.s.upd.trans U fun _ _ h=>h,S.s.stk.upd U fun _ _ h=>h,S.s.new⟩,S.ni,S.il,S.ml,S.ne⟩
theorem ESt.u (S:ESt hb id mid ser iss sub key frm til h kv nm bs ns au nv):Upd (fun _=>False) hb h:=S.s.upd
theorem aL6 {h:aA} {v:AV} {l:List AV} (S:Stk h v l):v.parts=[v]∧v.sizeOK=true∧v.cellOK=true:=by
 rcases S with ⟨rfl,_⟩ | ⟨_,_,rfl,_⟩ <;> exact ⟨rfl,rfl,rfl⟩
theorem nM (S:ESt hb id mid ser iss sub key frm til h kv nm bs ns au nv) {ok:Bool} {K:AV→aA→Prop}
  (h1:ok=true→∀ h',Upd (· = id) h h'→ESt hb id mid ser iss sub key frm til h' kv nm bs ns au nv→K (.b true) h')
  (h2:ok=false→∀ h',Upd (· = id) h h'→Upd (fun _=>False) hb h'→bE h' id (pc ser iss sub frm til nv au key true)→K (.b false) h'):C Y33.id [.p (some ⟨id,9,0⟩),.b ok] h K:=by
 refine aEO S.r rfl rfl fun h' U R=>?_
 have U':Upd (fun _=>False) hb h':=S.u.own U S.il
 cases ok with
 | true=>exact h1 rfl h' U ⟨R,S.m.upd U S.ne,S.sa,S.sb,S.sx,⟨U',S.s.stk.upd U fun i hi e=>(S.ni i hi).1 e,S.s.new⟩,S.ni,S.il,S.ml,S.ne⟩
 | false=>exact h2 rfl h' U U' R
variable {v:AV} {l:List Der} {rows:List (List AV)} {F:Nat→Prop} (G:CG2 hb) (L:KL hb F v l rows) (hF:∀ i,F i→i<hb.length) (hfit:∀ k∈l,Fit k) (hl:l.length≤256)
theorem aAY {r:List Der} {d:Der} {x:List (List UInt8) × Bool} (hq:sC hb id ser iss sub key frm til Q (eJ (d :: r) nm bs x)) (hx:eL d=none) {h':aA} (U:Upd (fun _=>False) hb h') (R:bE h' id (pc ser iss sub frm til nv au key true)):Q (.tu []) h':=by
 unfold eJ at hq
 rw [hx] at hq
 exact hq h' nv au true U R rfl fun x h=>by cases h
theorem aHJ {r:List Der} {d:Der} {t s:List UInt8} {x:List (List UInt8) × Bool} (hq:sC hb id ser iss sub key frm til Q (eJ (d :: r) nm bs x)) (hx:eL d=some (t,s)) (ht:(t=altOid∧nm=false)∨(t=basOid∧bs=false)) (hi:gP s=none) {h':aA} (U:Upd (fun _=>False) hb h') (R:bE h' id (pc ser iss sub frm til nv au key true)):Q (.tu []) h':=by
 unfold eJ at hq
 rw [hx] at hq
 simp only at hq
 have hne:altOid≠basOid:=by decide
 rcases ht with ⟨h1,h2⟩ | ⟨h1,h2⟩
 ·rw [if_pos ⟨h1, h2⟩, hi] at hq
  exact hq h' nv au true U R rfl fun x h=>by cases h
 ·rw [if_neg (by rintro ⟨h3, _⟩; exact hne (h3.symm.trans h1)), if_pos ⟨h1, h2⟩, hi] at hq
  exact hq h' nv au true U R rfl fun x h=>by cases h
theorem ESt.names (S:ESt hb id mid ser iss sub key frm til h kv nm bs ns au nv) {h':aA} {ns':List (List UInt8)} {nv':AV} (N:eT hb h' nv' (ns'.map .s)) (R:bE h' id (pc ser iss sub frm til nv' au key false)) (M:lO sκ h' mid kv) (ni:∀ i,bZ nv' i→i≠id∧i≠mid) :
  ESt hb id mid ser iss sub key frm til h' kv nm bs ns' au nv':=⟨R,M,S.sa,S.sb,S.sx,N,ni,S.il,S.ml,S.ne⟩
theorem aNX (G : CG2 hb) {w : AV} {ks : List Der} {rs : List (List AV)} {hc : aA} {lo : Nat} {F2 : Nat → Prop} (K2 : KL hc F2 w ks rs) (hF2 : ∀ i, F2 i → lo ≤ i ∧ i < hc.length) (hid : id < lo) (hmid : mid < lo) (hlo : lo ≤ hc.length) (hfk : ∀ k ∈ ks, Fit k) (hkl : ks.length ≤ 256) {n i : Nat} :
  ∀ (r : List Der) (j : Nat) (h : aA) (nv : AV) (ns : List (List UInt8)), ks.drop j = r → ns.length + r.length ≤ 10000 → Upd (fun a => a < lo) hc h → ESt hb id mid ser iss sub key frm til h kv nm bs ns au nv → (∀ i, bZ nv i → i < lo ∨ hc.length ≤ i) →
   (∀ h' nv',ESt hb id mid ser iss sub key frm til h' kv nm bs (dL ns r) au nv'→Y0.p10 Q (.p (some ⟨id,9,0⟩)) (.mp (some mid)) v n i h') →
   Y0.p7 Q (.p (some ⟨id,9,0⟩)) (.mp (some mid)) v n i w (ks.length:Nat) (j:Nat) h:=by
 intro r
 induction r with
 | nil =>
  intro j h nv ns hr hn U S hnv hq
  have:=cA hr
  refine Y0.i7 ?_
  simp only [Y0.t7, ← Y0.p10.eq_1]
  exact aK (by simp; omega) (hq h nv S)
 | cons d r ih =>
  intro j h nv ns hr hn U S hnv hq
  have hlt:=cG hr
  have hj:=b5 hr
  have hfd:=hfk d (List.mem_of_getElem? hj)
  have K2':KL h F2 w ks rs:=⟨K2.dv.upd U fun a ha _=>⟨fun e=>by have:=hF2 a ha; omega,ha⟩,K2.sl.upd U fun a ha _ e=>by have:=hF2 a (K2.sf a ha); omega,K2.sf⟩
  obtain ⟨rr,A⟩:=K2'.at hj
  have nxt:∀ h' nv' ns',dL ns' r=dL ns (d :: r)→ns'.length≤ns.length+1→Upd (fun a=>a<lo) hc h'→ESt hb id mid ser iss sub key frm til h' kv nm bs ns' au nv'→(∀ i,bZ nv' i→i<lo∨hc.length≤i)→Y0.p9 Q (.p (some ⟨id,9,0⟩)) (.mp (some mid)) v n i w (ks.length:Nat) (j:Nat) h':=by
   intro h' nv' ns' he hl U' S' hnv'
   refine Y0.i9 ?_
   simp only [Y0.t9, ← Y0.p7.eq_1]
   refine inc (by omega) (ih (j+1) h' nv' ns' (bU hr) (by simp at hn; omega) U' S' hnv' ?_)
   rw [he]; exact hq
  refine Y0.i7 ?_
  simp only [Y0.t7, ← Y0.p8.eq_1]
  refine aM (by simp; omega) ?_
  simp only [A.idx h (Upd.refl _ _),A.ld h (Upd.refl _ _)]
  refine b9 fun h1 hl1 U1 R1=>?_
  refine bA R1 rfl A.dv.len A.dv.cells' fun h2 hl2 U2 R2=>?_
  have U02:Upd (fun _=>False) h h2:=U1.own U2 (Nat.le_refl _)
  have S2:=S.up U02
  have D2:=A.dv.ext U02
  have Uc2:Upd (fun a=>a<lo) hc h2:=U.trans (U02.mono fun _ _ h=>h.elim) fun _ _ h=>h
  simp only [aW (G.up S2.u).host]
  refine bB R2 A.dv.len.symm ?_
  refine dI D2 (aX ?_)
  have off:(isS 2 2 false d&&decide (ns.length<16))=false→Y0.p8 Q (.p (some ⟨id,9,0⟩)) (.mp (some mid)) (.p (some ⟨h.length,5,0⟩)) v n i w (ks.length:Nat) (j:Nat) false h2:=by
   intro e
   refine Y0.i8 ?_
   simp only [Y0.t8, ← Y0.p9.eq_1]
   refine aK rfl (nxt h2 nv ns ?_ (by omega) Uc2 S2 hnv)
   conv=>rhs; unfold dL
   rw [e] <;> rfl
  refine aG (fun e=>?_) fun e=>off (by rw [e] <;> rfl)
  have hnl:(ns.map AV.s).length=ns.length:=List.length_map ..
  refine b8 (aP (aP (aO S2.r rfl rfl ?_)))
  refine S2.s.stk.rd.len ?_
  rw [hnl]
  by_cases h16:ns.length<16
  ·rw [decide_eq_true (show (ns.length : Int) < 16 by omega)]
   refine Y0.i8 ?_
   simp only [Y0.t8, ← Y0.p9.eq_1]
   refine aM rfl ?_
   have hd3:=A.dv.dat
   refine b8 (aP (aP (aO S2.r rfl rfl ?_)))
   refine aP (aO R2 A.dv.len.symm hd3 (aZ ?_))
   refine aEZ (by have:=hfd.data; omega) (aZ ?_)
   refine aO S2.r rfl rfl ⟨rfl, ?_⟩
   refine eO (cs:=[.s (gX d.data)]) (len:=1) rfl rfl fun y h3 hl3 U3 R3 F3=>?_
   have S3:=S2.up U3
   refine aO (R2.upd U3 fun h=>h) A.dv.len.symm hd3 (aZ ⟨rfl, ?_⟩)
   refine aO S3.r rfl rfl ⟨rfl, ?_⟩
   refine S3.s.app1 R3 rfl (by rw [hnl]; omega) (by rw [hnl]; omega) fun nv' h4 N4 U4 F4=>?_
   have hrid:¬ bZ nv h.length:=fun e=>by
    have:=Rd.lt S.s.stk.rd e
    omega
   refine aO ((R2.upd U3 fun h=>h).upd U4 hrid) A.dv.len.symm hd3 (aZ ⟨rfl, ?_⟩)
   have np:=aL6 N4.stk
   have hidnv:¬ bZ nv id:=fun e=>(S.ni id e).1 rfl
   have hmidnv:¬ bZ nv mid:=fun e=>(S.ni mid e).2 rfl
   have hlen3:h.length≤h3.length:=Nat.le_trans U02.1 U3.1
   have Uc3:Upd (fun a=>a<lo) hc h3:=Uc2.trans (U3.mono fun _ _ h=>h.elim) fun _ _ h=>h
   have Uc4:Upd (fun a=>a<lo) hc h4:=Uc3.trans U4 fun a ha e=>by have:=hnv a e; omega
   refine b8 (aP (aP (cM (S3.r.upd U4 hidnv) rfl (by show 5<9; omega) np.1 np.2.1 np.2.2 fun h5 hl5 U5 R5=>?_)))
   have hni:∀ a,bZ nv' a→a≠id∧a≠mid:=fun a e=>by
    rcases F4 a e with h | h
    ·exact S.ni a h
    ·have:=U.1; omega
   refine nxt h5 nv' (ns++[gX d.data]) ?_ (by simp) (Uc4.trans U5 fun a ha e=>by omega) (S3.names ⟨N4.upd.own U5 S.il, ?_,N4.new⟩ R5 ((S3.m.upd U4 hmidnv).upd U5 S.ne) hni) fun a e=>?_
   ·conv => rhs; unfold dL
    rw [e,decide_eq_true h16] <;> rfl
   ·rw [List.map_append]
    exact N4.stk.upd U5 fun a ha e=>(hni a ha).1 e
   ·rcases F4 a e with h | h
    ·exact hnv a h
    ·have:=U.1; omega
  ·rw [decide_eq_false (show ¬ (ns.length : Int) < 16 by omega)]
   exact off (by rw [e,decide_eq_false h16] <;> rfl)
theorem lW:∀ (r:List Der) (ns:List (List UInt8)),ns.length≤16→(dL ns r).length≤16
 | [],ns,h=>by unfold dL; exact h
 | y :: r, ns, h => by
  unfold dL
  split
  ·rename_i e
   rw [Bool.and_eq_true,decide_eq_true_eq] at e
   exact lW r _ (by simp; omega)
  ·exact lW r ns h
theorem aJ4 {d:Der} {r:List Der} {t s:List UInt8} {x:List (List UInt8) × Bool} (hx:eL d=some (t,s)) (h1:¬ (t=altOid∧nm=false)) (h2:¬ (t=basOid∧bs=false)):eJ (d :: r) nm bs x=eJ r nm bs x:=by
 conv=>lhs; unfold eJ
 rw [hx]
 simp only
 rw [if_neg h1,if_neg h2]
theorem aII {d:Der} {r ks:List Der} {s:List UInt8} {x:List (List UInt8) × Bool} (hx:eL d=some (altOid,s)) (hi:gP s=some ks):eJ (d :: r) false bs x=eJ r true bs (dL x.1 ks,x.2):=by
 conv=>lhs; unfold eJ
 rw [hx]
 simp only
 rw [if_pos (by simp),hi]
theorem aJ6 {d:Der} {r ks:List Der} {s:List UInt8} {x:List (List UInt8) × Bool} (hx:eL d=some (basOid,s)) (hi:gP s=some ks):eJ (d :: r) nm false x=eJ r nm true (x.1,aCE ks):=by
 have hne:¬ basOid=altOid:=by decide
 conv=>lhs; unfold eJ
 rw [hx]
 simp only
 rw [if_neg (by rintro ⟨h,_⟩; exact hne h),if_pos (by simp),hi]
def Nx (hb : aA) (id mid : Nat) (ser iss sub key : List UInt8) (frm til : Int) (Q : AV → aA → Prop) (v : AV) (n i : Nat) (r : List Der) : Prop :=
 ∀ (h' : aA) (kv' : List (List UInt8 × AV)) (nm' bs' : Bool) (ns' : List (List UInt8)) (au' : Bool) (nv' : AV), ESt hb id mid ser iss sub key frm til h' kv' nm' bs' ns' au' nv' → ns'.length ≤ 16 → sC hb id ser iss sub key frm til Q (eJ r nm' bs' (ns', au')) →
  Y0.p0 Q (.p (some ⟨id,9,0⟩)) (.mp (some mid)) v n (i+1:Nat) h'
section
variable {n i:Nat} {r:List Der} {d:Der} {t s:List UInt8} (nx:Nx hb id mid ser iss sub key frm til Q v n i r) (hn:n≤300) (hi:i≤300)
include nx hn hi
theorem aAE (S:ESt hb id mid ser iss sub key frm til h kv nm bs ns au nv) (h16:ns.length≤16) (hq:sC hb id ser iss sub key frm til Q (eJ r nm bs (ns,au))):Y0.p10 Q (.p (some ⟨id,9,0⟩)) (.mp (some mid)) v n i h:=by
 refine Y0.i10 ?_
 simp only [Y0.t10, ← Y0.p0.eq_1]
 exact inc (by omega) (nx h kv nm bs ns au nv S h16 hq)
theorem aL0 (G:CG2 hb) {F2:Nat→Prop} {d2:Der} {cs2:List AV} {rid2:Nat} (S:ESt hb id mid ser iss sub key frm til h kv nm true ns au nv) (h16:ns.length≤16) (D2:DV h F2 d2 cs2) (R2:bE h rid2 cs2) (hr2:rid2≠id) (hF2:∀ a,F2 a→a≠id) (hf2:Fit d2)
  (hq:sC hb id ser iss sub key frm til Q (eJ r nm true (ns,aCE d2.kids))):Y0.p5 Q (.p (some ⟨id,9,0⟩)) (.mp (some mid)) basOid (.p (some ⟨rid2,5,0⟩)) v n i false h:=by
 have fin:∀ (b:Bool) (h:aA),b=aCE d2.kids→ESt hb id mid ser iss sub key frm til h kv nm true ns au nv→aS 1 (.p (some ⟨id,9,6⟩)) (.b b) h fun h'=>Y0.p6 Q (.p (some ⟨id,9,0⟩)) (.mp (some mid)) v n i h':=by
  intro b h hb' S
  refine cM S.r rfl (by show 6<9; omega) rfl rfl rfl fun h' hl' U R'=>?_
  refine Y0.i6 ?_
  simp only [Y0.t6, ← Y0.p10.eq_1]
  refine aAE nx hn hi (au:=b) ⟨R',S.m.upd U S.ne,S.sa,S.sb,S.sx,⟨S.u.own U S.il,S.s.stk.upd U fun a ha e=>(S.ni a ha).1 e,S.s.new⟩,S.ni,S.il,S.ml,S.ne⟩ h16 ?_
  rw [hb']; exact hq
 obtain ⟨w,rs,g1,g2,g3,g4,g5⟩:=D2.kidsLen
 have K2:KL h F2 w d2.kids rs:=⟨g2,g3,fun i hi=>(g5 i hi).1⟩
 refine Y0.i5 ?_
 simp only [Y0.t5]
 refine aK rfl (jX (n:=true) (by decide) (aM rfl ?_))
 refine aP (aO R2 D2.len.symm g1 ?_)
 rw [K2.rd.plen]
 cases hk:d2.kids with
 | nil =>
  refine aK (by simp) (b8 (aP (aP (fin _ h (by rw [hk] <;> rfl) S))))
 | cons k kr =>
  rw [hk] at K2
  obtain ⟨rk,A⟩:=K2.at (i:=0) (k:=k) rfl
  have hfk:Fit k:=hf2.kid (by rw [hk]; simp)
  have i0:∀ (h':aA),Upd (fun _=>False) h h'→∀ K:AV→Prop,aE 5 w (.i .i64 0) h' K=K (ptr w 5 0 0):=A.idx
  refine aM (by simp) ?_
  simp only [aW (G.up S.u).tru]
  refine aP (aO R2 D2.len.symm g1 ?_)
  simp only [i0 h (Upd.refl _ _),A.ld h (Upd.refl _ _)]
  refine dI A.dv (aX ?_)
  simp only [i0 h (Upd.refl _ _),aR]
  refine ⟨trivial, ?_⟩
  refine aO R2 D2.len.symm g1 ?_
  refine ⟨rfl, ?_⟩
  refine aO R2 D2.len.symm g1 ?_
  refine ⟨rfl, ?_⟩
  refine aG (fun e=>?_) fun e=>b8 (aP (aP (fin _ h (by
   rw [hk]
   show false=(iO k&&_)
   unfold iO
   rw [e] <;> rfl) S)))
  refine aP (aO R2 D2.len.symm g1 ?_)
  simp only [i0 h (Upd.refl _ _),A.fa,A.f3 h (Upd.refl _ _),bL]
  refine aG (fun e2=>?_) fun e2=>b8 (aP (aP (fin _ h (by
   rw [hk]
   show false=(iO k&&_)
   unfold iO
   have e2:=of_decide_eq_false e2
   rw [e,decide_eq_false (show ¬ k.data.length=1 by omega)] <;> rfl) S)))
  refine aP (aO R2 D2.len.symm g1 ?_)
  simp only [i0 h (Upd.refl _ _),A.fa,A.f3 h (Upd.refl _ _),bL]
  refine b8 (aP (aP (fin _ h (by
   rw [hk]
   show (!decide (k.data=[0]))=(iO k && !decide (k.data=[0]))
   unfold iO
   have e2:=of_decide_eq_true e2
   rw [e,decide_eq_true (show k.data.length=1 by omega)] <;> rfl) S)))
theorem aLX (G:CG2 hb) {F2:Nat→Prop} {d2:Der} {cs2:List AV} {rid2 lo:Nat} (S:ESt hb id mid ser iss sub key frm til h kv true bs ns au nv) (h16:ns.length≤16) (D2:DV h F2 d2 cs2) (R2:bE h rid2 cs2) (hF2:∀ a,F2 a→lo≤a) (hid:id<lo) (hmid:mid<lo) (hlo:lo≤h.length) (hnv:∀ a,bZ nv a→a<lo) (hf2:Fit d2)
  (hq:sC hb id ser iss sub key frm til Q (eJ r true bs (dL ns d2.kids,au))):Y0.p5 Q (.p (some ⟨id,9,0⟩)) (.mp (some mid)) altOid (.p (some ⟨rid2,5,0⟩)) v n i false h:=by
 obtain ⟨w,rs,g1,g2,g3,g4,g5⟩:=D2.kidsLen
 refine Y0.i5 ?_
 simp only [Y0.t5, ← Y0.p7.eq_1]
 refine aK rfl (jX (n:=false) (by decide) (aK rfl ?_))
 refine aP (aO R2 D2.len.symm g1 ?_)
 have K2:KL h (fun a=>F2 a∧a<h.length) w d2.kids rs:=by
  refine ⟨?_,g3,fun i hi=>⟨(g5 i hi).1,(g5 i hi).2⟩⟩
  exact g2.upd (Upd.refl (fun _=>False) h) fun a ha hlt=>⟨fun h=>h,ha,hlt⟩
 rw [K2.rd.plen]
 have hkl:=hf2.few
 exact aNX G K2 (lo:=lo) (fun a ha=>⟨hF2 a ha.1,ha.2⟩) hid hmid hlo (fun k hk=>hf2.kid hk) hkl d2.kids 0 h nv ns rfl (by omega) (Upd.refl _ _) S (fun a ha=>.inl (hnv a ha)) fun h' nv' S'=>aAE nx hn hi S' (lW _ _ h16) hq
end
end
end Go.Proofs.YtcdkpkkdolmfdaaGreatDoor
namespace Go.Proofs.YtcdkpkkdolmfdaaGreatDoor
open Go.GAM Go.RowKit
theorem aIU (t:List UInt8):aB7 prog 9 (sκ t)=true:=by
 unfold aB7; rw [show prog.underlying 9=some .string from Tryz.underlying9]
section
variable {hb:aA} {id mid:Nat} {ser iss sub key:List UInt8} {frm til:Int} {Q:AV→aA→Prop} {h:aA} {kv:List (List UInt8 × AV)} {nm bs:Bool} {ns:List (List UInt8)} {au:Bool} {nv:AV}
variable {v:AV} {n i:Nat} {r:List Der} {d:Der} {t s:List UInt8} (nx:Nx hb id mid ser iss sub key frm til Q v n i r) (hn:n≤300) (hi:i≤300) (G:CG2 hb)
variable {F:Nat→Prop} {w0:AV} {j:Nat} {last:Der} {rl cs:List AV} {rid:Nat}
theorem ESt.seen (S:ESt hb id mid ser iss sub key frm til h kv nm bs ns au nv) {t:List UInt8} {h':aA} (U:Upd (· = mid) h h') (M:lO sκ h' mid (upM kv t (.b true))) :
  ESt hb id mid ser iss sub key frm til h' (upM kv t (.b true)) (nm||decide (t=altOid)) (bs||decide (t=basOid)) ns au nv:=by
 have key:∀ (o:List UInt8) (b:Bool),(lkM kv o).getD (.b false) = .b b→(lkM (upM kv t (.b true)) o).getD (.b false) = .b (b||decide (t=o)):=by
  intro o b hb'
  rw [aKZ]
  by_cases e:o=t
  ·rw [if_pos e,decide_eq_true e.symm,Bool.or_true] <;> rfl
  ·rw [if_neg e,decide_eq_false (fun h=>e h.symm),Bool.or_false]; exact hb'
 refine ⟨S.r.upd U fun e=>S.ne e.symm,M,key _ _ S.sa,key _ _ S.sb,fun o=>?_,⟨S.u.own U S.ml,S.s.stk.upd U fun a ha e=>(S.ni a ha).2 e,S.s.new⟩,S.ni,S.il,S.ml,S.ne⟩
 obtain ⟨b,hb'⟩:=S.sx o
 exact ⟨_,key o b hb'⟩
include nx hn hi G
theorem aNK (S : ESt hb id mid ser iss sub key frm til h kv nm bs ns au nv) (h16 : ns.length ≤ 16) (A : KAt hb F w0 j last rl) (hj : j ≤ 300) (R : bE h rid cs) (hcl : cs.length = 5) (hw : cs[4]? = some w0) (hri : rid ≠ id) (hrm : rid ≠ mid) (hs : last.data = s) (hfl : Fit last)
  (hx:eL d=some (t,s)) (ht:(t=altOid∧nm=false)∨(t=basOid∧bs=false)) (hq:sC hb id ser iss sub key frm til Q (eJ (d :: r) nm bs (ns,au))) :
  Y0.p4 Q (.p (some ⟨id,9,0⟩)) (.mp (some mid)) (.p (some ⟨rid,5,0⟩)) ((j+1:Nat):Int) t v n i false h:=by
 have hne:altOid≠basOid:=by decide
 refine Y0.i4 ?_
 simp only [Y0.t4, ← Y0.p5.eq_1]
 refine aK rfl (aHT S.m aKJ (aIU t) rfl fun h1 hl1 U1 M1=>?_)
 have S1:=S.seen U1 M1
 have R1:=R.upd U1 hrm
 refine aP (aO R1 hcl.symm hw ?_)
 refine aJ (n:=(j:Int)) (by rw [aL (by omega) (by omega)]; omega) ?_
 simp only [A.idx h1 S1.u,A.fa,A.f3 h1 S1.u,bL]
 have fail:gP s=none→∀ h' rid2,Upd (fun _=>False) hb h'→bE h' id (pc ser iss sub frm til nv au key true)→Y0.p5 Q (.p (some ⟨id,9,0⟩)) (.mp (some mid)) t rid2 v n i true h':=by
  intro hin h' rid2 U' R'
  refine Y0.i5 ?_
  simp only [Y0.t5]
  exact aM rfl (aHJ hq hx ht hin U' R')
 rw [hs]
 refine aCL ?_
 cases hd:nV s with
 | error e =>
  intro h2 U2
  have hin:gP s=none:=by unfold gP; rw [hd]
  have S2:=S1.up U2
  refine bD (bC (aU ?_))
  refine b9 fun h3 hl3 U3 R3=>?_
  refine bA R3 rfl rfl rfl fun h4 hl4 U4 R4=>?_
  have U24:Upd (fun _=>False) h2 h4:=U3.own U4 (Nat.le_refl _)
  refine aK (decide_eq_false (aA2 hd)) ?_
  refine nM (S2.up U24) (fun e=>by cases e) fun _ h5 V5 U5 R5=>aX ?_
  exact fail hin h5 _ U5 R5
 | ok d2 =>
  intro cs2 h2 U2 D2
  have hf2:=Fit.of hd
  have S2:=S1.up U2
  refine bD (bC (aU ?_))
  refine b9 fun h3 hl3 U3 R3=>?_
  refine bA R3 rfl D2.len D2.cells' fun h4 hl4 U4 R4=>?_
  have U24:Upd (fun _=>False) h2 h4:=U3.own U4 (Nat.le_refl _)
  have S4:=S2.up U24
  have D4:=D2.ext U24
  refine aM rfl ?_
  simp only [aW (G.up S4.u).g.seq]
  refine bB R4 D2.len.symm ?_
  refine dI D4 (aX ?_)
  refine nM S4 (fun e h5 U5 S5=>aX ?_) fun e h5 V5 U5 R5=>aX ?_
  ·have hin : gP s = some d2.kids := by
    unfold gP; rw [hd]; simp only
    rw [if_pos (show fA d2=true from e)]
   have hidlt:id<h1.length:=S1.r.lt
   have hmlt:mid<h1.length:=M1.lt
   have hl12:=U2.1
   have D5:DV h5 (fun i=>h1.length≤i) d2 cs2:=D4.upd U5 fun a ha _=>⟨by omega,ha⟩
   have R5:=R4.upd U5 (by omega)
   show Y0.p5 Q (.p (some ⟨id,9,0⟩)) (.mp (some mid)) t (.p (some ⟨h2.length,5,0⟩)) v n i false h5
   rcases ht with ⟨rfl,hnm⟩ | ⟨rfl,hbs⟩
   ·subst hnm
    rw [aII hx hin] at hq
    have S5':ESt hb id mid ser iss sub key frm til h5 (upM kv altOid (.b true)) true bs ns au nv:=by
     have:=S5
     rw [decide_eq_false hne,Bool.or_false,decide_eq_true rfl] at this
     exact this
    exact aLX nx hn hi G S5' h16 D5 R5 (lo:=h1.length) (fun a ha=>ha) hidlt hmlt (by have:=U24.1; have:=U5.1; omega) (fun a ha=>Rd.lt S1.s.stk.rd ha) hf2 hq
   ·subst hbs
    rw [aJ6 hx hin] at hq
    have S5':ESt hb id mid ser iss sub key frm til h5 (upM kv basOid (.b true)) nm true ns au nv:=by
     have:=S5
     rw [decide_eq_false (fun h=>hne h.symm),Bool.or_false,decide_eq_true rfl] at this
     exact this
    exact aL0 nx hn hi G S5' h16 D5 R5 (by omega) (fun a ha=>by omega) hf2 hq
  ·have hin : gP s = none := by
    unfold gP; rw [hd]; simp only
    rw [if_neg (show ¬ fA d2=true by rw [show fA d2=false from e]; decide)]
   exact fail hin h5 _ U5 R5
theorem aOL (S:ESt hb id mid ser iss sub key frm til h kv nm bs ns au nv) (h16:ns.length≤16) (A:KAt hb F w0 j last rl) (hj:j≤300) (R:bE h rid cs) (hcl:cs.length=5) (hw:cs[4]? = some w0) (hri:rid≠id) (hrm:rid≠mid) (hs:last.data=s) (hfl:Fit last)
  (hx:eL d=some (t,s)) (hq:sC hb id ser iss sub key frm til Q (eJ (d :: r) nm bs (ns,au))) :
  Y0.p3 Q (.p (some ⟨id,9,0⟩)) (.mp (some mid)) (.p (some ⟨rid,5,0⟩)) ((j+1:Nat):Int) t v n i false h:=by
 have skip:¬ (t=altOid∧nm=false)→¬ (t=basOid∧bs=false)→Y0.p4 Q (.p (some ⟨id,9,0⟩)) (.mp (some mid)) (.p (some ⟨rid,5,0⟩)) ((j+1:Nat):Int) t v n i true h:=by
  intro h1 h2
  refine Y0.i4 ?_
  simp only [Y0.t4, ← Y0.p10.eq_1]
  rw [aJ4 hx h1 h2] at hq
  exact aM rfl (aAE nx hn hi S h16 hq)
 have go:(t=altOid∧nm=false)∨(t=basOid∧bs=false)→Y0.p4 Q (.p (some ⟨id,9,0⟩)) (.mp (some mid)) (.p (some ⟨rid,5,0⟩)) ((j+1:Nat):Int) t v n i false h:=
  fun ht=>aNK nx hn hi G S h16 A hj R hcl hw hri hrm hs hfl hx ht hq
 have hne:altOid≠basOid:=by decide
 refine Y0.i3 ?_
 simp only [Y0.t3, ← Y0.p4.eq_1]
 refine aK rfl (aGG S.m aKJ (aIU t) (z:=.b false) (by kernel_rfl) ?_)
 obtain ⟨b,hb'⟩:=S.sx t
 rw [hb']
 refine aX ?_
 by_cases h1:t=altOid
 ·subst h1
  obtain rfl:b=nm:=by have:=S.sa; rw [hb'] at this; injection this
  cases b with
  | true=>exact aM rfl (skip (by simp) fun h=>hne h.1)
  | false=>exact aK rfl (jX (n:=false) (by decide) (aK rfl (go (.inl ⟨rfl,rfl⟩))))
 ·have e1 : (!decide (t = [50, 46, 53, 46, 50, 57, 46, 49, 55])) = true := by rw [decide_eq_false (show ¬ t = [50, 46, 53, 46, 50, 57, 46, 49, 55] from h1)] <;> rfl
  by_cases h2:t=basOid
  ·subst h2
   obtain rfl:b=bs:=by have:=S.sb; rw [hb'] at this; injection this
   cases b with
   | true=>exact aM rfl (skip (fun h=>h1 h.1) (by simp))
   | false=>exact aK rfl (jX (n:=true) e1 (aM rfl (jX (n:=false) (by decide) (go (.inr ⟨rfl,rfl⟩)))))
  ·have e2 : (!decide (t = [50, 46, 53, 46, 50, 57, 46, 49, 57])) = true := by rw [decide_eq_false (show ¬ t = [50, 46, 53, 46, 50, 57, 46, 49, 57] from h2)] <;> rfl
   cases b with
   | true=>exact aM rfl (skip (fun h=>h1 h.1) fun h=>h2 h.1)
   | false=>exact aK rfl (jX (n:=true) e1 (aM rfl (jX (n:=true) e2 (skip (fun h=>h1 h.1) fun h=>h2 h.1))))
theorem aIM {ok crit : Bool} (S : ESt hb id mid ser iss sub key frm til h kv nm bs ns au nv) (h16 : ns.length ≤ 16) (A : KAt hb F w0 j last rl) (hj : j ≤ 300) (R : bE h rid cs) (hcl : cs.length = 5) (hw : cs[4]? = some w0) (hri : rid ≠ id) (hrm : rid ≠ mid) (hfl : Fit last)
  (hx:eL d=if (crit&&(isS 0 4 false last&&ok))=true then some (t,last.data) else none) (hq:sC hb id ser iss sub key frm til Q (eJ (d :: r) nm bs (ns,au))) :
  Y0.p2 Q (.p (some ⟨id,9,0⟩)) (.mp (some mid)) (.p (some ⟨rid,5,0⟩)) ((j+1:Nat):Int) t ok crit v n i h:=by
 have fail:eL d=none→∀ h',Upd (fun _=>False) hb h'→bE h' id (pc ser iss sub frm til nv au key true)→Y0.p3 Q (.p (some ⟨id,9,0⟩)) (.mp (some mid)) (.p (some ⟨rid,5,0⟩)) ((j+1:Nat):Int) t v n i true h':=by
  intro hin h' U' R'
  refine Y0.i3 ?_
  simp only [Y0.t3]
  exact aM rfl (aAY hq hin U' R')
 refine Y0.i2 ?_
 simp only [Y0.t2, ← Y0.p3.eq_1,aR,true_and]
 refine aG (fun e1=>?_) fun e1=>?_
 ·refine aG (fun e2 => ?_) fun e2 => ?_
  ·simp only [aW (G.up S.u).oct]
   refine aP (aO R hcl.symm hw ?_)
   refine aJ (n:=(j:Int)) (by rw [aL (by omega) (by omega)]; omega) ?_
   simp only [A.idx h S.u,A.ld h S.u]
   refine dI (A.dv.ext S.u) (aX ?_)
   simp only [A.idx h S.u,aR,true_and]
   refine aO R hcl.symm hw ⟨rfl, ?_⟩
   have fin:∀ (c:Bool) (h':aA),Upd (fun _=>False) hb h'→bE h' rid cs→Y0.p3 Q (.p (some ⟨id,9,0⟩)) (.mp (some mid)) (.p (some ⟨rid,5,0⟩)) ((j+1:Nat):Int) t v n i (!c) h' →
     aB 5 (ptr w0 5 j 0) h' fun v79=>AV.ag rl=v79∧aE 5 w0 (AV.i .i64 (j:Int)) h' fun v80=>ptr w0 5 j 0=v80∧aC (.p (some ⟨rid,5,0+4⟩)) h' fun v81=>w0=v81∧aB 3 (bG h' 9) h' fun v82=>AV.ag [.i .i64 0,.i .i64 4,.b false]=v82 ∧
      Y0.p3 Q (.p (some ⟨id,9,0⟩)) (.mp (some mid)) (.p (some ⟨rid,5,0⟩)) ((j+1:Nat):Int) t v n i (!c) h':=by
    intro c h' U' R' hk
    simp only [A.ld h' U',A.idx h' U',aR,true_and]
    refine aO R' hcl.symm hw ⟨rfl, ?_⟩
    simp only [aW (G.up U').oct,aR,true_and]
    exact hk
   refine nM S (fun e h5 U5 S5=>aX (fin true h5 S5.u (R.upd U5 hri) ?_)) fun e h5 V5 U5 R5=>aX (fin false h5 U5 (R.upd V5 hri) ?_)
   ·refine aOL nx hn hi G S5 h16 A hj (R.upd U5 hri) hcl hw hri hrm rfl hfl ?_ hq
    rw [hx,e1,e2,e] <;> rfl
   ·exact fail (by rw [hx,e1,e2,e] <;> rfl) h5 U5 R5
  ·refine nM S (fun e => by cases e) fun _ h5 V5 U5 R5 => aX ?_
   exact fail (by rw [hx,e2] <;> rfl) h5 U5 R5
 ·refine nM S (fun e => by cases e) fun _ h5 V5 U5 R5 => aX ?_
  exact fail (by rw [hx,e1,Bool.and_false,Bool.and_false] <;> rfl) h5 U5 R5
theorem aJK {r':List AV} (S:ESt hb id mid ser iss sub key frm til h kv nm bs ns au nv) (h16:ns.length≤16) {v1:AV} {i1:Nat} (A:KAt hb F v1 i1 d r') (R:bE h rid r') (hri:rid≠id) (hrm:rid≠mid) (hfd:Fit d)
  (hs:fA d=true) (hk:d.kids.length=2∨d.kids.length=3) (hq:sC hb id ser iss sub key frm til Q (eJ (d :: r) nm bs (ns,au))) :
  Y0.p1 Q (.p (some ⟨id,9,0⟩)) (.mp (some mid)) (.p (some ⟨rid,5,0⟩)) (d.kids.length:Nat) v n i false h:=by
 obtain ⟨w,rs,g1,K,_⟩:=A.f4
 have hcl:=A.row
 have hk0:d.kids[0]? = some (d.kids[0]'(by omega)):=List.getElem?_eq_getElem _
 generalize d.kids[0]'(by omega)=k0 at hk0
 obtain ⟨r0,A0⟩:=K.at hk0
 have hf0:Fit k0:=hfd.kid (List.mem_of_getElem? hk0)
 have a0:∀ (h':aA),Upd (fun _=>False) hb h'→∀ K:AV→Prop,aE 5 w (.i .i64 0) h' K=K (ptr w 5 0 0):=A0.idx
 refine Y0.i1 ?_
 simp only [Y0.t1, ← Y0.p2.eq_1]
 refine aK rfl (aP (aO R hcl.symm g1 ?_))
 simp only [a0 h S.u,A0.ld h S.u]
 refine aM5 (A0.dv.ext S.u) (by have:=hf0.data; omega) ?_
 refine bD (aZ (bC (aX ?_)))
 rcases hk with hk | hk
 ·have hk1 : d.kids[1]? = some (d.kids[1]'(by omega)) := List.getElem?_eq_getElem _
  generalize d.kids[1]'(by omega)=k1 at hk1
  obtain ⟨r1,A1⟩:=K.at hk1
  rw [hk]
  refine aM rfl (aIM (j:=1) nx hn hi G S h16 A1 (by omega) R hcl g1 hri hrm (hfd.kid (List.mem_of_getElem? hk1)) ?_ hq)
  have hkk:d.kids=[k0,k1]:=by
   match hd:d.kids,hk with
   | [x,y],_=>rw [hd] at hk0 hk1; simp at hk0 hk1; rw [hk0,hk1]
  unfold eL
  rw [hkk]
  simp only
  rw [hs,Bool.true_and]
 ·have hk1 : d.kids[1]? = some (d.kids[1]'(by omega)) := List.getElem?_eq_getElem _
  generalize d.kids[1]'(by omega)=k1 at hk1
  have hk2:d.kids[2]? = some (d.kids[2]'(by omega)):=List.getElem?_eq_getElem _
  generalize d.kids[2]'(by omega)=k2 at hk2
  obtain ⟨r1,A1⟩:=K.at hk1
  obtain ⟨r2,A2⟩:=K.at hk2
  have a1:∀ (h':aA),Upd (fun _=>False) hb h'→∀ K:AV→Prop,aE 5 w (.i .i64 1) h' K=K (ptr w 5 1 0):=A1.idx
  have hkk:d.kids=[k0,k1,k2]:=by
   match hd:d.kids,hk with
   | [x,y,z],_=>rw [hd] at hk0 hk1 hk2; simp at hk0 hk1 hk2; rw [hk0,hk1,hk2]
  have hx:∀ b,b=iO k1→eL d=if (b&&(isS 0 4 false k2&&(g8 k0).2))=true then some ((g8 k0).1,k2.data) else none:=by
   intro b hb'
   subst hb'
   unfold eL
   rw [hkk]
   simp only
   rw [hs,Bool.true_and]
  have go:∀ b,b=iO k1→Y0.p2 Q (.p (some ⟨id,9,0⟩)) (.mp (some mid)) (.p (some ⟨rid,5,0⟩)) (3:Int) (g8 k0).1 (g8 k0).2 b v n i h:=fun b hb'=>
   aIM (j:=2) nx hn hi G S h16 A2 (by omega) R hcl g1 hri hrm (hfd.kid (List.mem_of_getElem? hk2)) (hx b hb') hq
  rw [hk]
  refine aK rfl ?_
  simp only [aW (G.up S.u).tru]
  refine aP (aO R hcl.symm g1 ?_)
  simp only [a1 h S.u,A1.ld h S.u]
  refine dI (A1.dv.ext S.u) (aX ?_)
  simp only [a1 h S.u,aR,true_and]
  refine aO R hcl.symm g1 ⟨rfl, ?_⟩
  refine aG (fun e=>?_) fun e=>go false (by unfold iO; rw [e] <;> rfl)
  refine aP (aO R hcl.symm g1 ?_)
  rw [a1 h S.u,A1.fa,A1.f3 h S.u,bL]
  refine go _ ?_
  unfold iO
  rw [e,Bool.true_and,decide_eq_decide]; omega
end
section
variable {hb:aA} {id mid:Nat} {ser iss sub key:List UInt8} {frm til:Int} {Q:AV→aA→Prop} {v:AV} {l:List Der} {rows:List (List AV)} {F:Nat→Prop}
theorem aNG (G : CG2 hb) (L : KL hb F v l rows) (hfit : ∀ k ∈ l, Fit k) (hl : l.length ≤ 256) : ∀ (r : List Der) (i : Nat) (h : aA) (kv : List (List UInt8 × AV)) (nm bs : Bool) (ns : List (List UInt8)) (au : Bool) (nv : AV), l.drop i = r → ESt hb id mid ser iss sub key frm til h kv nm bs ns au nv → ns.length ≤ 16 →
  sC hb id ser iss sub key frm til Q (eJ r nm bs (ns,au))→Y0.p0 Q (.p (some ⟨id,9,0⟩)) (.mp (some mid)) v (l.length:Nat) (i:Nat) h:=by
 intro r
 induction r with
 | nil =>
  intro i h kv nm bs ns au nv hr S h16 hq
  have:=cA hr
  refine Y0.i0 ?_
  simp only [Y0.t0]
  refine aK (by simp; omega) (hq h nv au false S.u S.r rfl fun x hx=>?_)
  unfold eJ at hx
  cases hx
  have:=S.s.stk.rd.i
  rw [List.length_map] at this
  exact ⟨rfl,this,S.s.new⟩
 | cons d r ih =>
  intro i h kv nm bs ns au nv hr S h16 hq
  have hlt:=cG hr
  have hj:=b5 hr
  have hfd:=hfit d (List.mem_of_getElem? hj)
  have nx:Nx hb id mid ser iss sub key frm til Q v l.length i r:=fun h' kv' nm' bs' ns' au' nv' S' h16' hq'=>ih (i+1) h' kv' nm' bs' ns' au' nv' (bU hr) S' h16' hq'
  obtain ⟨r',A⟩:=L.at hj
  have hcl:=A.row
  obtain ⟨w,rs,g1,K,_⟩:=A.f4
  refine Y0.i0 ?_
  simp only [Y0.t0, ← Y0.p1.eq_1]
  refine aM (by simp; omega) ?_
  simp only [A.idx h S.u,A.ld h S.u]
  refine b9 fun h1 hl1 U1 R1=>?_
  refine bA R1 rfl hcl A.dv.cells' fun h2 hl2 U2 R2=>?_
  have U02:Upd (fun _=>False) h h2:=U1.own U2 (Nat.le_refl _)
  have S2:=S.up U02
  refine aP (aO R2 hcl.symm g1 ?_)
  rw [(K.up S2.u).rd.plen]
  simp only [aW (G.up S2.u).g.seq]
  refine bB R2 hcl.symm ?_
  refine dI (A.dv.ext S2.u) (aX ?_)
  have hri:h.length≠id:=by have:=S.r.lt; omega
  have hrm:h.length≠mid:=by have:=S.m.lt; omega
  have fail:eL d=none→∀ h',Upd (fun _=>False) hb h'→bE h' id (pc ser iss sub frm til nv au key true)→Y0.p1 Q (.p (some ⟨id,9,0⟩)) (.mp (some mid)) (.p (some ⟨h.length,5,0⟩)) (d.kids.length:Nat) v l.length i true h':=by
   intro hin h' U' R'
   refine Y0.i1 ?_
   simp only [Y0.t1]
   exact aM rfl (aAY hq hin U' R')
  have nos:fA d=false→eL d=none:=by
   intro e
   unfold eL
   split
   ·rw [e] <;> rfl
   ·rw [e] <;> rfl
   ·rfl
  refine aG (fun e=>?_) fun e=>?_
  ·refine aG (fun e2 => ?_) fun e2 => ?_
   ·refine nM S2 (fun _ h3 U3 S3 => aX ?_) fun e => by cases e
    have e2:=of_decide_eq_true e2
    exact aJK nx (by omega) (by omega) G S3 h16 A (R2.upd U3 hri) hri hrm hfd e (.inl (by omega)) hq
   ·have e2 := of_decide_eq_false e2
    refine nM S2 (fun e3 h3 U3 S3=>aX ?_) fun e3 h3 V3 U3 R3=>aX (fail ?_ h3 U3 R3)
    ·have e3 := of_decide_eq_true e3
     exact aJK nx (by omega) (by omega) G S3 h16 A (R2.upd U3 hri) hri hrm hfd e (.inr (by omega)) hq
    ·have e3 := of_decide_eq_false e3
     unfold eL
     split
     ·rename_i hk; rw [hk] at e2; exact absurd rfl e2
     ·rename_i hk; rw [hk] at e3; exact absurd rfl e3
     ·rfl
  ·refine nM S2 (fun e=>by cases e) fun _ h3 V3 U3 R3=>aX (fail (nos e) h3 U3 R3)
theorem zO {h:aA} (G:CG2 hb) (L:KL hb F v l rows) (hfit:∀ k∈l,Fit k) (hl:l.length≤256) (U:Upd (fun _=>False) hb h) (hid:hb.length≤id) (R:bE h id (pc ser iss sub frm til (.sl none 0 none) false key false))
  (hq:sC hb id ser iss sub key frm til Q (eJ l false false ([],false))):C Y0.id [.p (some ⟨id,9,0⟩),v] h Q:=by
 refine Y0.call ?_
 simp only [Y0.t, ← Y0.p0.eq_1]
 refine aDJ sκ fun h1 hl1 U1 M1=>?_
 have U01:=U.trans U1 fun _ _ h=>h
 rw [(L.up U01).rd.plen]
 have hlt:=R.lt
 have hq':sC hb id ser iss sub key frm til (aI h Q) (eJ l false false ([],false)):=fun h' nv au bad a b c d=>.inl (hq h' nv au bad a b c d)
 have S:ESt hb id h.length ser iss sub key frm til h1 [] false false [] false (.sl none 0 none):=
  ⟨R.upd U1 fun h=>h,M1,rfl,rfl,fun t=>⟨false,rfl⟩,⟨U01,.inl ⟨rfl,rfl⟩,fun i hi=>hi.elim⟩,fun i hi=>hi.elim,hid,U.1,by omega⟩
 exact aNG G L hfit hl l 0 h1 [] false false [] false _ rfl S (by simp) hq'
end
end Go.Proofs.YtcdkpkkdolmfdaaGreatDoor
namespace Go.GAM
theorem aJ3 {l:List UInt8} {k:IntKind} {lo hi:Nat} {K:List UInt8→Prop} (h:lo≤hi) (h2:hi≤l.length) (hk:K ((l.take hi).drop lo)):bW (.s l) (some (.i k lo)) (some (.i k hi)) K:=by
 refine ⟨by omega,by omega,by simpa using h,by simpa using h2, ?_⟩
 simpa using hk
end Go.GAM
namespace Go.Proofs.YtcdkpkkdolmfdaaGreatDoor
open Go.GAM Go.RowKit
abbrev vM:List UInt8:=[48,49,50,51,52,53,54,55,56,57,97,98,99,100,101,102]
theorem oH:∀ x,x<16→(vM.take (x+1)).drop x=[pU x]:=by decide
theorem aNY (c:UInt8):cI .and .u8 (c.toNat:Int) 15=((c.toNat % 16:Nat):Int):=by
 have:=aGT (x:=c.toNat) (y:=15) c.toNat_lt (by omega)
 rw [show ((15:Nat):Int)=15 from rfl] at this
 rw [this,show 15=2 ^ 4 - 1 from rfl,Nat.and_two_pow_sub_one_eq_mod]
theorem uG (l:List UInt8):(iT l).length=2 * l.length:=by
 induction l with
 | nil=>rfl
 | cons c l ih=>show (_++iT l).length=_; rw [List.length_append,ih]; simp; omega
theorem zD (l:List UInt8) (c:UInt8):iT (l++[c])=iT l++([pU (c.toNat / 16)]++[pU (c.toNat % 16)]):=by simp [iT]
theorem aCT {l p:List UInt8} {h:aA} {Q:AV→aA→Prop} (hk:Q (.b (kN l p)) h):C Y91.id [.s l,.s p] h Q:=by
 refine Y91.call ?_
 simp only [Y91.t]
 exact tE (aX (.inl hk))
def tP (hb : aA) (id : Nat) (Q : AV → aA → Prop) (res : Option dP) : Prop :=
 ∀ h' ser iss sub frm til nv au key bad, Upd (fun _ => False) hb h' → bE h' id (pc ser iss sub frm til nv au key bad) → bad = res.isNone →
  (∀ c,res=some c→c.serial=ser∧c.issuer=iss∧c.subject=sub∧c.frm=frm∧c.til=til∧c.auth=au∧c.key=key∧RdI 1 h' nv (c.names.map .s) c.names.length∧∀ i,bZ nv i→hb.length≤i)→Q (.tu []) h'
section
variable {hb h:aA} {id:Nat} {ser iss sub key:List UInt8} {frm til:Int} {nv:AV} {au bad:Bool} {Q:AV→aA→Prop}
theorem tP.fail (hq:tP hb id Q none) (U:Upd (fun _=>False) hb h) (R:bE h id (pc ser iss sub frm til nv au key true)):Q (.tu []) h:=
 hq h _ _ _ _ _ _ _ _ true U R rfl fun c h=>by cases h
theorem kV {ok:Bool} {K:AV→aA→Prop} (U:Upd (fun _=>False) hb h) (hid:hb.length≤id) (R:bE h id (pc ser iss sub frm til nv au key bad))
  (hk:∀ h',Upd (fun _=>False) hb h'→bE h' id (pc ser iss sub frm til nv au key (bad || !ok))→K (.b (!(bad || !ok))) h'):C Y33.id [.p (some ⟨id,9,0⟩),.b ok] h K:=
 aEO R rfl rfl fun h' U' R'=>hk h' (U.own U' hid) R'
variable {F:Nat→Prop} (hF:∀ i,F i→i<hb.length) (hid:hb.length≤id) (G:CG2 hb)
include hid G in
theorem aEK {w:AV} {k:Der} {r:List AV} (A:KAt hb F w 0 k r) (hk:Fit k) (U:Upd (fun _=>False) hb h) (R:bE h id (pc ser iss sub frm til (.sl none 0 none) false key false))
  (hq:tP hb id Q ((eJ k.kids false false ([],false)).map fun n=>⟨ser,iss,sub,frm,til,n.1,n.2,key⟩)):Y11.p3 Q (.p (some ⟨id,9,0⟩)) w true h:=by
 obtain ⟨w2,rs,_,K2,ld⟩:=A.f4
 have a0:∀ (h':aA),Upd (fun _=>False) hb h'→∀ K:AV→Prop,aE 5 w (.i .i64 0) h' K=K (ptr w 5 0 0):=A.idx
 refine Y11.i3 ?_
 simp only [Y11.t3]
 refine aM rfl ?_
 simp only [a0 h U,A.fa,ld h U]
 refine zO G K2 (fun x hx=>hk.kid hx) hk.few U hid R fun h' nv au bad U' R' hb' hx=>?_
 refine hq h' ser iss sub frm til nv au key bad U' R' (by rw [hb']; simp) fun c hc=>?_
 cases he:eJ k.kids false false ([],false) with
 | none=>rw [he] at hc; cases hc
 | some n =>
  rw [he] at hc
  cases hc
  obtain ⟨h1,h2,h3⟩:=hx n he
  exact ⟨rfl,rfl,rfl,rfl,rfl,h1.symm,rfl,h2,h3⟩
variable {a b c d e f g:Der} {xs:List Der} {v:AV} {rows:List (List AV)}
include hid G in
theorem aDW (L : KL hb F v (a :: b :: c :: d :: e :: f :: g :: xs) rows) (hxs : xs.length ≤ 1) (hfx : ∀ x ∈ xs, Fit x) {w : AV} {q : Der} {r : List AV} (Aq : KAt hb F w 1 q r) (hkey : q.data = 0 :: key) (U : Upd (fun _ => False) hb h) (R : bE h id (pc ser iss sub frm til (.sl none 0 none) false [] false))
  (hq:tP hb id Q ((wM xs).map fun n=>⟨ser,iss,sub,frm,til,n.1,n.2,key⟩)):Y11.p2 Q (.p (some ⟨id,9,0⟩)) v w false h:=by
 have a1:∀ (h':aA),Upd (fun _=>False) hb h'→∀ K:AV→Prop,aE 5 w (.i .i64 1) h' K=K (ptr w 5 1 0):=Aq.idx
 refine Y11.i2 ?_
 simp only [Y11.t2, ← Y11.p3.eq_1]
 refine aK rfl ?_
 simp only [a1 h U,Aq.fa,Aq.f3 h U,bL]
 rw [hkey]
 refine iD (lo:=1) (by simp) (b8 (aP (aP (cM R rfl (by show 7<9; omega) rfl rfl rfl fun h1 hl1 U1 R1=>?_))))
 have V1:=U.own U1 hid
 rw [(L.up V1).rd.plen]
 match xs,hxs,L,hfx,hq with
 | [], _, L, hfx, hq =>
  refine aK (by simp) (hq h1 ser iss sub frm til _ false key false V1 R1 rfl fun c hc=>?_)
  cases hc
  exact ⟨rfl,rfl,rfl,rfl,rfl,rfl,rfl,(Rd.i (.inl ⟨rfl,rfl,rfl⟩)),fun i hi=>hi.elim⟩
 | [x], _, L, hfx, hq =>
  obtain ⟨rx,Ax⟩:=L.at (i:=7) (k:=x) rfl
  have a7:∀ (h':aA),Upd (fun _=>False) hb h'→∀ K:AV→Prop,aE 5 v (.i .i64 7) h' K=K (ptr v 5 7 0):=Ax.idx
  have hfit:=hfx x (by simp)
  obtain ⟨wx,rsx,gx,Kx,ldx⟩:=Ax.f4
  refine aM (by simp) ?_
  simp only [aW (G.up V1).ext,a7 h1 V1,Ax.ld h1 V1]
  refine nJ (Ax.dv.ext V1) gx fun h2 U2=>?_
  have V2:=V1.trans U2 fun _ _ h=>h
  have R2:=R1.upd U2 fun h=>h
  simp only [a7 h2 V2,aR,true_and]
  refine bD (bC (aX ?_))
  refine aG (fun e=>?_) fun e=>?_
  ·rw [Bool.and_eq_true, Bool.or_eq_true, decide_eq_true_eq, decide_eq_true_eq] at e
   obtain ⟨e1,e2⟩:=e
   have e2:x.kids.length=1:=by omega
   obtain ⟨k,hk⟩:∃ k,x.kids=[k]:=by
    match x.kids,e2 with
    | [k],_=>exact ⟨k,rfl⟩
   obtain ⟨rk,Ak⟩:=Kx.at (i:=0) (k:=k) (by rw [hk] <;> rfl)
   have a0:∀ (h':aA),Upd (fun _=>False) hb h'→∀ K:AV→Prop,aE 5 wx (.i .i64 0) h' K=K (ptr wx 5 0 0):=Ak.idx
   simp only [aW (G.up V2).g.seq,a0 h2 V2,Ak.ld h2 V2]
   refine dI (Ak.dv.ext V2) (aX ?_)
   simp only [a0 h2 V2,aR,true_and]
   refine kV V2 hid R2 fun h3 V3 R3=>aX ?_
   simp only [aW (G.up V3).g.seq,a0 h3 V3,Ak.ld h3 V3,aR,true_and, ← Y11.p3.eq_1]
   have hx:wM [x]=if fA k=true then eJ k.kids false false ([],false) else none:=by
    unfold wM
    simp only [hk,e1,if_true]
   rw [hx] at hq
   cases hs:isS 0 16 true k with
   | true =>
    rw [hs] at R3
    rw [if_pos (show fA k=true from hs)] at hq
    exact aEK hid G Ak (hfit.kid (by rw [hk]; simp)) V3 R3 hq
   | false =>
    rw [hs] at R3
    rw [if_neg (show ¬ fA k=true by show ¬ isS 0 16 true k=true; rw [hs]; simp)] at hq
    refine Y11.i3 ?_
    simp only [Y11.t3]
    exact aK rfl (tP.fail hq V3 R3)
  ·refine kV V2 hid R2 fun h3 V3 R3 => aX ?_
   have hx:wM [x]=none:=by
    unfold wM
    by_cases e1:isS 2 3 true x=true
    ·rw [e1] at e
     simp only [e1,if_true]
     split
     ·rename_i k hk
      rw [hk] at e
      simp at e
     ·rfl
    ·simp only [e1,if_false]; rfl
   rw [hx] at hq
   refine Y11.i3 ?_
   simp only [Y11.t3]
   exact aK rfl (tP.fail hq V3 R3)
end
end Go.Proofs.YtcdkpkkdolmfdaaGreatDoor
namespace Go.Proofs.YtcdkpkkdolmfdaaGreatDoor
open Go.GAM Go.RowKit
theorem rN {l r:List UInt8} {k:IntKind} {lo hi:Nat} {K:List UInt8→Prop} (h:lo≤hi) (h2:hi≤l.length) (he:(l.take hi).drop lo=r) (hk:K r):bW (.s l) (some (.i k lo)) (some (.i k hi)) K:=
 aJ3 h h2 (by rw [he]; exact hk)
def gW (a b c:Der):Bool:=aHX a&&(isS 0 2 false b&&(!decide (b.data=[])&&fA c))
section
variable {a b c d e f g:Der} {xs:List Der}
theorem sG:cH (a :: b :: c :: d :: e :: f :: g :: xs)=(if gW a b c=true then (match cZ d,cZ f,jL e,aBX g,wM xs with
  | some i,some s,some t,some k,some n=>some (⟨iT b.data,i,s,t.1,t.2,n.1,n.2,k⟩:dP)
  | _,_,_,_,_=>none) else none):=rfl
theorem aPB (h:gW a b c=false):cH (a :: b :: c :: d :: e :: f :: g :: xs)=none:=by
 rw [sG,if_neg (by rw [h]; simp)]
theorem aPV (h:cZ d=none):cH (a :: b :: c :: d :: e :: f :: g :: xs)=none:=by
 rw [sG,h]
 by_cases hh:gW a b c=true
 ·rw [if_pos hh]
 ·rw [if_neg hh]
theorem aPS (h:cZ f=none):cH (a :: b :: c :: d :: e :: f :: g :: xs)=none:=by
 rw [sG,h]
 by_cases hh:gW a b c=true
 ·rw [if_pos hh]; cases cZ d <;> rfl
 ·rw [if_neg hh]
theorem aPA (h:jL e=none):cH (a :: b :: c :: d :: e :: f :: g :: xs)=none:=by
 rw [sG,h]
 by_cases hh:gW a b c=true
 ·rw [if_pos hh]; cases cZ d <;> cases cZ f <;> rfl
 ·rw [if_neg hh]
theorem aLV (h:aBX g=none):cH (a :: b :: c :: d :: e :: f :: g :: xs)=none:=by
 rw [sG,h]
 by_cases hh:gW a b c=true
 ·rw [if_pos hh]; cases cZ d <;> cases cZ f <;> cases jL e <;> rfl
 ·rw [if_neg hh]
theorem aPO {i s k:List UInt8} {t:Int × Int} (h:gW a b c=true) (h2:cZ d=some i) (h3:cZ f=some s) (h4:jL e=some t) (h5:aBX g=some k) :
  cH (a :: b :: c :: d :: e :: f :: g :: xs)=(wM xs).map fun n=>⟨iT b.data,i,s,t.1,t.2,n.1,n.2,k⟩:=by
 rw [sG,if_pos h,h2,h3,h4,h5]
 cases wM xs <;> rfl
theorem aND {e:Der} (h:e.kids.length=2):∃ p q,e.kids=[p,q]:=by
 match e.kids,h with
 | [p,q],_=>exact ⟨p,q,rfl⟩
theorem aKH {e:Der} (h:(isS 0 16 true e&&(decide ((2:Int)<0)||decide ((e.kids.length:Int)=2)))=false):jL e=none:=by
 unfold jL
 split
 ·rename_i h1
  split
  ·rename_i p q hk
   rw [show isS 0 16 true e=true from h1,hk] at h
   simp at h
  ·rfl
 ·rfl
theorem aNM {g:Der} (h:(isS 0 16 true g&&(decide ((2:Int)<0)||decide ((g.kids.length:Int)=2)))=false):aBX g=none:=by
 unfold aBX
 split
 ·rename_i h1
  split
  ·rename_i p q hk
   rw [show isS 0 16 true g=true from h1,hk] at h
   simp at h
  ·rfl
 ·rfl
theorem aEW {e:Der} (h:(isS 0 16 true e&&(decide ((2:Int)<0)||decide ((e.kids.length:Int)=2)))=true):fA e=true∧e.kids.length=2:=by
 rw [Bool.and_eq_true,Bool.or_eq_true,decide_eq_true_eq,decide_eq_true_eq] at h
 exact ⟨h.1,by omega⟩
end
section
variable {hb h:aA} {id:Nat} {Q:AV→aA→Prop} {F:Nat→Prop} (hF:∀ i,F i→i<hb.length) (hid:hb.length≤id) (G:CG2 hb)
variable {a b c d e f g:Der} {xs:List Der} {v:AV} {rows:List (List AV)} (L:KL hb F v (a :: b :: c :: d :: e :: f :: g :: xs) rows) (hfit:∀ k∈a :: b :: c :: d :: e :: f :: g :: xs,Fit k) (hxs:xs.length≤1)
 (hq:tP hb id Q (cH (a :: b :: c :: d :: e :: f :: g :: xs)))
include hid hq in
theorem mL {w:AV} {ser iss sub key:List UInt8} {frm til:Int} {nv:AV} {au:Bool} (U:Upd (fun _=>False) hb h) (R:bE h id (pc ser iss sub frm til nv au key true)) (hc:cH (a :: b :: c :: d :: e :: f :: g :: xs)=none) :
  Y11.p2 Q (.p (some ⟨id,9,0⟩)) v w true h:=by
 rw [hc] at hq
 refine Y11.i2 ?_
 simp only [Y11.t2]
 exact aM rfl (tP.fail hq U R)
include hF hid G L hfit hxs hq in
theorem aB5 {bad : Bool} (hbad : bad = !gW a b c) (U : Upd (fun _ => False) hb h) (R : bE h id (pc (iT b.data) [] [] 0 0 (.sl none 0 none) false [] bad)) :
  Y11.p1 Q (.p (some ⟨id,9,0⟩)) v (b.data.length:Nat) (b.data.length:Nat) h:=by
 obtain ⟨r3,A3⟩:=L.at (i:=3) (k:=d) rfl
 obtain ⟨r4,A4⟩:=L.at (i:=4) (k:=e) rfl
 obtain ⟨r5,A5⟩:=L.at (i:=5) (k:=f) rfl
 obtain ⟨r6,A6⟩:=L.at (i:=6) (k:=g) rfl
 have a3:∀ (h':aA),Upd (fun _=>False) hb h'→∀ K:AV→Prop,aE 5 v (.i .i64 3) h' K=K (ptr v 5 3 0):=A3.idx
 have a4:∀ (h':aA),Upd (fun _=>False) hb h'→∀ K:AV→Prop,aE 5 v (.i .i64 4) h' K=K (ptr v 5 4 0):=A4.idx
 have a5:∀ (h':aA),Upd (fun _=>False) hb h'→∀ K:AV→Prop,aE 5 v (.i .i64 5) h' K=K (ptr v 5 5 0):=A5.idx
 have a6:∀ (h':aA),Upd (fun _=>False) hb h'→∀ K:AV→Prop,aE 5 v (.i .i64 6) h' K=K (ptr v 5 6 0):=A6.idx
 obtain ⟨w4,rs4,g4,K4,ld4⟩:=A4.f4
 obtain ⟨w6,rs6,g6,K6,ld6⟩:=A6.f4
 have fd:Fit d:=hfit d (by simp)
 have fe:Fit e:=hfit e (by simp)
 have ff:Fit f:=hfit f (by simp)
 have fg:Fit g:=hfit g (by simp)
 have hne:∀ i,F i→i≠id:=fun i hi=>by have:=hF i hi; omega
 refine Y11.i1 ?_
 simp only [Y11.t1, ← Y11.p2.eq_1]
 refine aK (by simp) ?_
 simp only [a3 h U,A3.ld h U,a5 h U,A5.ld h U]
 refine aFJ (G.up U).g (A3.dv.ext U) fd.names hne R rfl rfl fun h1 U1 R1=>?_
 have V1:=U.own U1 hid
 simp only [bL,A5.ld h1 V1,a5 h1 V1,a3 h1 V1,aR,true_and]
 refine aFJ (G.up V1).g (A5.dv.ext V1) ff.names hne R1 rfl rfl fun h2 U2 R2=>?_
 have V2:=V1.own U2 hid
 simp only [bL,a5 h2 V2,A3.ld h2 V2,a3 h2 V2,aR,true_and]
 refine b8 (aP (aP (cM R2 rfl (by show 1<9; omega) rfl rfl rfl fun h3 hl3 U3 R3=>?_)))
 have V3:=V2.own U3 hid
 simp only [a5 h3 V3,aR,true_and]
 refine b8 (aP (aP (cM R3 rfl (by show 2<9; omega) rfl rfl rfl fun h4 hl4 U4 R4=>?_)))
 have V4:=V3.own U4 hid
 have R4:bE h4 id (pc (iT b.data) (txt (cZ d)) (txt (cZ f)) 0 0 (.sl none 0 none) false [] ((bad||(cZ d).isNone)||(cZ f).isNone)):=R4
 simp only [aW (G.up V4).g.seq,a4 h4 V4,A4.ld h4 V4]
 refine nJ (A4.dv.ext V4) g4 fun h5 U5=>?_
 have V5:=V4.trans U5 fun _ _ h=>h
 have R5:=R4.upd U5 fun h=>h
 simp only [a4 h5 V5,aR,true_and]
 refine bD (bC (aX ?_))
 refine kV V5 hid R5 fun h6 V6 R6=>aX ?_
 cases hB:(((bad||(cZ d).isNone)||(cZ f).isNone) || !(isS 0 16 true e&&(decide ((2:Int)<0)||decide ((e.kids.length:Int)=2)))) with
 | true =>
  rw [hB] at R6
  refine aM rfl (tP.fail ?_ V6 R6)
  rw [Bool.or_eq_true,Bool.or_eq_true,Bool.or_eq_true] at hB
  rcases hB with ((h1 | h1) | h1) | h1
  ·rw [aPB (by rw [hbad] at h1; simpa using h1)] at hq; exact hq
  ·rw [aPV (by simpa using h1)] at hq; exact hq
  ·rw [aPS (by simpa using h1)] at hq; exact hq
  ·rw [aPA (aKH (by rw [← Bool.not_eq_true']; exact h1))] at hq; exact hq
 | false =>
  rw [hB] at R6
  rw [Bool.or_eq_false_iff,Bool.or_eq_false_iff,Bool.or_eq_false_iff] at hB
  obtain ⟨⟨⟨hb0,hb1⟩,hb2⟩,hb3⟩:=hB
  have hb3:(isS 0 16 true e&&(decide ((2:Int)<0)||decide ((e.kids.length:Int)=2)))=true:=by simpa using hb3
  have hhead:gW a b c=true:=by rw [hbad] at hb0; simpa using hb0
  obtain ⟨i,hi⟩:∃ i,cZ d=some i:=by cases hn:cZ d with
   | none=>rw [hn] at hb1; cases hb1
   | some i=>exact ⟨i,rfl⟩
  obtain ⟨s,hs⟩:∃ s,cZ f=some s:=by cases hn:cZ f with
   | none=>rw [hn] at hb2; cases hb2
   | some i=>exact ⟨i,rfl⟩
  rw [hi,hs] at R6
  obtain ⟨he1,he2⟩:=aEW hb3
  obtain ⟨p,q,hpq⟩:=aND he2
  obtain ⟨rp,Ap⟩:=K4.at (i:=0) (k:=p) (by rw [hpq] <;> rfl)
  obtain ⟨rq,Aq⟩:=K4.at (i:=1) (k:=q) (by rw [hpq] <;> rfl)
  have b0:∀ (h':aA),Upd (fun _=>False) hb h'→∀ K:AV→Prop,aE 5 w4 (.i .i64 0) h' K=K (ptr w4 5 0 0):=Ap.idx
  have b1:∀ (h':aA),Upd (fun _=>False) hb h'→∀ K:AV→Prop,aE 5 w4 (.i .i64 1) h' K=K (ptr w4 5 1 0):=Aq.idx
  have fp:Fit p:=fe.kid (by rw [hpq]; simp)
  have fq:Fit q:=fe.kid (by rw [hpq]; simp)
  have htimes:jL e=if ((dQ p).2&&(dQ q).2)=true then some ((dQ p).1,(dQ q).1) else none:=by
   unfold jL; rw [if_pos he1,hpq]
  refine aK rfl ?_
  simp only [b0 h6 V6,Ap.ld h6 V6]
  refine aI3 (Ap.dv.ext V6) (by have:=fp.data; omega) ?_
  refine bD (aU (bC (aX ?_)))
  simp only [b1 h6 V6,Aq.ld h6 V6]
  refine aI3 (Aq.dv.ext V6) (by have:=fq.data; omega) ?_
  refine bD (aU (bC (aX ?_)))
  refine b8 (aP (aP (cM R6 rfl (by show 3<9; omega) rfl rfl rfl fun h7 hl7 U7 R7=>?_)))
  have V7:=V6.own U7 hid
  refine b8 (aP (aP (cM R7 rfl (by show 4<9; omega) rfl rfl rfl fun h8 hl8 U8 R8=>?_)))
  have V8:=V7.own U8 hid
  have R8:bE h8 id (pc (iT b.data) i s (dQ p).1 (dQ q).1 (.sl none 0 none) false [] false):=R8
  simp only [aW (G.up V8).g.seq,a6 h8 V8,A6.ld h8 V8]
  refine nJ (A6.dv.ext V8) g6 fun h9 U9=>?_
  have V9:=V8.trans U9 fun _ _ h=>h
  have R9:=R8.upd U9 fun h=>h
  simp only [a6 h9 V9,aR,true_and]
  refine bD (bC (aX ?_))
  have bad9:cH (a :: b :: c :: d :: e :: f :: g :: xs)=none→C Y33.id [.p (some ⟨id,9,0⟩),.b false] h9 fun x h'=>asB x fun y=>Y11.p2 Q (.p (some ⟨id,9,0⟩)) v w6 (!y) h':=fun hc=>
   kV V9 hid R9 fun h' V' R'=>aX (mL hid hq V' R' hc)
  have notimes:((dQ p).2&&(dQ q).2)=false→cH (a :: b :: c :: d :: e :: f :: g :: xs)=none:=fun hh=>aPA (by rw [htimes,hh] <;> rfl)
  refine aG (fun e1=>?_) fun e1=>bad9 (notimes (by rw [e1] <;> rfl))
  refine aG (fun e2=>?_) fun e2=>bad9 (notimes (by rw [e1,e2] <;> rfl))
  have htimes:jL e=some ((dQ p).1,(dQ q).1):=by rw [htimes,e1,e2] <;> rfl
  refine aG (fun e3=>?_) fun e3=>bad9 (aLV (aNM e3))
  obtain ⟨hg1,hg2⟩:=aEW e3
  obtain ⟨p',q',hpq'⟩:=aND hg2
  obtain ⟨rp',Ap'⟩:=K6.at (i:=0) (k:=p') (by rw [hpq'] <;> rfl)
  obtain ⟨rq',Aq'⟩:=K6.at (i:=1) (k:=q') (by rw [hpq'] <;> rfl)
  have d0:∀ (h':aA),Upd (fun _=>False) hb h'→∀ K:AV→Prop,aE 5 w6 (.i .i64 0) h' K=K (ptr w6 5 0 0):=Ap'.idx
  have d1:∀ (h':aA),Upd (fun _=>False) hb h'→∀ K:AV→Prop,aE 5 w6 (.i .i64 1) h' K=K (ptr w6 5 1 0):=Aq'.idx
  have fq':Fit q':=fg.kid (by rw [hpq']; simp)
  have hkey:aBX g=if (fA p'&&qZ q')=true then (match q'.data with
    | c :: r=>if c=0 then some r else none
    | []=>none) else none:=by unfold aBX; rw [if_pos hg1,hpq'] <;> rfl
  simp only [aW (G.up V9).g.seq,d0 h9 V9,Ap'.ld h9 V9]
  refine dI (Ap'.dv.ext V9) (aX ?_)
  simp only [d0 h9 V9,aR,true_and]
  refine aG (fun e4=>?_) fun e4=>?_
  ·simp only [aW (G.up V9).bits, d1 h9 V9, Aq'.ld h9 V9]
   refine dI (Aq'.dv.ext V9) (aX ?_)
   simp only [d1 h9 V9,d0 h9 V9,Ap'.ld h9 V9,aW (G.up V9).g.seq,aR,true_and]
   refine aG (fun e5=>?_) fun e5=>?_
   ·simp only [d1 h9 V9, Aq'.fa, Aq'.f3 h9 V9, bL]
    refine aCT (aX ?_)
    simp only [d1 h9 V9,Aq'.ld h9 V9,d0 h9 V9,Ap'.ld h9 V9,aW (G.up V9).g.seq,aW (G.up V9).bits,aR,true_and]
    refine kV V9 hid R9 fun h10 V10 R10=>aX ?_
    simp only [Aq'.f3 h10 V10,bL,d1 h10 V10,Aq'.ld h10 V10,d0 h10 V10,Ap'.ld h10 V10,aW (G.up V10).g.seq,aW (G.up V10).bits,aR,true_and]
    rw [show (fA p'&&qZ q')=true by show (isS 0 16 true p'&&isS 0 3 false q')=true; rw [e4,e5] <;> rfl,if_pos rfl] at hkey
    cases hp:kN q'.data [0] with
    | true =>
     rw [hp] at R10
     obtain ⟨key,hk⟩:∃ key,q'.data=0 :: key:=by
      unfold kN at hp
      have hp:=of_decide_eq_true hp
      cases hd:q'.data with
      | nil=>rw [hd] at hp; cases hp
      | cons x r =>
       rw [hd] at hp
       simp at hp
       exact ⟨r,by rw [hp]⟩
     rw [hk] at hkey
     simp only [if_true] at hkey
     refine aDW hid G L hxs (fun x hx=>hfit x (by simp [hx])) Aq' hk V10 R10 ?_
     rw [aPO hhead hi hs htimes hkey] at hq
     exact hq
    | false =>
     rw [hp] at R10
     refine mL hid hq V10 R10 (aLV ?_)
     rw [hkey]
     split
     ·rename_i x r hd
      split
      ·rename_i hx
       subst hx
       unfold kN at hp
       rw [hd] at hp
       simp at hp
      ·rfl
     ·rfl
   ·refine kV V9 hid R9 fun h10 V10 R10 => aX ?_
    simp only [aR,true_and,d1 h10 V10,Aq'.ld h10 V10,d0 h10 V10,Ap'.ld h10 V10,aW (G.up V10).g.seq,aW (G.up V10).bits]
    refine mL hid hq V10 R10 (aLV ?_)
    rw [hkey,if_neg (by show ¬ (isS 0 16 true p'&&isS 0 3 false q')=true; rw [e5]; simp)]
  ·refine kV V9 hid R9 fun h10 V10 R10 => aX ?_
   simp only [aR,true_and,d0 h10 V10,Ap'.ld h10 V10,aW (G.up V10).g.seq]
   refine mL hid hq V10 R10 (aLV ?_)
   rw [hkey,if_neg (by show ¬ (isS 0 16 true p'&&isS 0 3 false q')=true; rw [e4]; simp)]
end
end Go.Proofs.YtcdkpkkdolmfdaaGreatDoor
namespace Go.Proofs.YtcdkpkkdolmfdaaGreatDoor
open Go.GAM Go.RowKit
section
variable {hb h:aA} {id:Nat} {Q:AV→aA→Prop} {F:Nat→Prop} (hF:∀ i,F i→i<hb.length) (hid:hb.length≤id) (G:CG2 hb)
variable {a b c d e f g:Der} {xs:List Der} {v:AV} {rows:List (List AV)} (L:KL hb F v (a :: b :: c :: d :: e :: f :: g :: xs) rows) (hfit:∀ k∈a :: b :: c :: d :: e :: f :: g :: xs,Fit k) (hxs:xs.length≤1)
 (hq:tP hb id Q (cH (a :: b :: c :: d :: e :: f :: g :: xs)))
include hF hid G L hfit hxs hq in
theorem aD6 {bad:Bool} (hbad:bad = !gW a b c):∀ (k i:Nat) (h:aA),i+k=b.data.length→Upd (fun _=>False) hb h→bE h id (pc (iT (b.data.take i)) [] [] 0 0 (.sl none 0 none) false [] bad) →
  Y11.p1 Q (.p (some ⟨id,9,0⟩)) v (b.data.length:Nat) i h:=by
 intro k
 induction k with
 | zero =>
  intro i h hi U R
  obtain rfl:i=b.data.length:=by omega
  rw [List.take_length] at R
  exact aB5 hF hid G L hfit hxs hq hbad U R
 | succ k ih =>
  intro i h hi U R
  have hlt:i<b.data.length:=by omega
  obtain ⟨r1,A1⟩:=L.at (i:=1) (k:=b) rfl
  have a1:∀ (h':aA),Upd (fun _=>False) hb h'→∀ K:AV→Prop,aE 5 v (.i .i64 1) h' K=K (ptr v 5 1 0):=A1.idx
  have fb:Fit b:=hfit b (by simp)
  have hlen:=fb.data
  have hhl:=uG (b.data.take i)
  rw [List.length_take,Nat.min_eq_left (by omega)] at hhl
  refine Y11.i1 ?_
  simp only [Y11.t1, ← Y11.p1.eq_1]
  refine aM (by simp; omega) ?_
  simp only [a1 h U,A1.fa,A1.f3 h U,bL]
  have hc:=(b.data[i]).toNat_lt
  refine cW (i:=i) (List.drop_eq_getElem_cons hlt) ?_
  refine b8 (aP (aP (aO R rfl rfl (aZ ?_))))
  refine mN (b:=4) (by decide) (mN (b:=4) (by decide) ?_)
  have e16:(b.data[i]).toNat / 2 ^ 4=(b.data[i]).toNat / 16:=rfl
  rw [e16]
  refine aJ (n:=(((b.data[i]).toNat / 16+1:Nat):Int)) (by rw [gO (by omega) (by omega)]; omega) ?_
  refine rN (lo:=(b.data[i]).toNat / 16) (hi:=(b.data[i]).toNat / 16+1) (by omega) (by show _≤16; omega) (oH _ (by omega)) ?_
  rw [aNY]
  refine aJ (n:=(((b.data[i]).toNat % 16+1:Nat):Int)) (by rw [gO (by omega) (by omega)]; omega) ?_
  refine rN (lo:=(b.data[i]).toNat % 16) (hi:=(b.data[i]).toNat % 16+1) (by omega) (by show _≤16; omega) (oH _ (by omega)) ?_
  refine ⟨by simp,⟨by rw [hhl]; simp; omega, ?_⟩⟩
  refine b8 (aP (aP (cM R rfl (by show 0<9; omega) rfl rfl rfl fun h1 hl1 U1 R1=>?_)))
  have R1:bE h1 id (pc (iT (b.data.take i)++([pU ((b.data[i]).toNat / 16)]++[pU ((b.data[i]).toNat % 16)])) [] [] 0 0 (.sl none 0 none) false [] bad):=R1
  rw [← zD, ← List.take_succ_eq_append_getElem hlt] at R1
  exact inc (by omega) (ih (i+1) h1 (by omega) (U.own U1 hid) R1)
include hF hid G L hfit hxs hq in
theorem wB {bad:Bool} (hbad:bad = !gW a b c) (U:Upd (fun _=>False) hb h) (R:bE h id (pc [] [] [] 0 0 (.sl none 0 none) false [] bad)):Y11.p0 Q (.p (some ⟨id,9,0⟩)) v h:=by
 obtain ⟨r1,A1⟩:=L.at (i:=1) (k:=b) rfl
 have a1:∀ (h':aA),Upd (fun _=>False) hb h'→∀ K:AV→Prop,aE 5 v (.i .i64 1) h' K=K (ptr v 5 1 0):=A1.idx
 refine Y11.i0 ?_
 simp only [Y11.t0, ← Y11.p1.eq_1]
 simp only [a1 h U,A1.fa,A1.f3 h U,bL]
 exact aD6 hF hid G L hfit hxs hq hbad b.data.length 0 h (by omega) U R
include hF hid G L hfit hxs hq in
theorem aHD (U : Upd (fun _ => False) hb h) (R : bE h id (pc [] [] [] 0 0 (.sl none 0 none) false [] false)) : C Y11.id [.p (some ⟨id, 9, 0⟩), v] h Q := by
 have hq:tP hb id (aI h Q) (cH (a :: b :: c :: d :: e :: f :: g :: xs)):=fun h' ser iss sub frm til nv au key bad x1 x2 x3 x4=>.inl (hq h' ser iss sub frm til nv au key bad x1 x2 x3 x4)
 obtain ⟨r0,A0⟩:=L.at (i:=0) (k:=a) rfl
 obtain ⟨r1,A1⟩:=L.at (i:=1) (k:=b) rfl
 obtain ⟨r2,A2⟩:=L.at (i:=2) (k:=c) rfl
 have a0:∀ (h':aA),Upd (fun _=>False) hb h'→∀ K:AV→Prop,aE 5 v (.i .i64 0) h' K=K (ptr v 5 0 0):=A0.idx
 have a1:∀ (h':aA),Upd (fun _=>False) hb h'→∀ K:AV→Prop,aE 5 v (.i .i64 1) h' K=K (ptr v 5 1 0):=A1.idx
 have a2:∀ (h':aA),Upd (fun _=>False) hb h'→∀ K:AV→Prop,aE 5 v (.i .i64 2) h' K=K (ptr v 5 2 0):=A2.idx
 obtain ⟨w0,rs0,g0,K0,ld0⟩:=A0.f4
 have fa':Fit a:=hfit a (by simp)
 refine Y11.call ?_
 simp only [Y11.t, ← Y11.p0.eq_1]
 simp only [aW (G.up U).ver,a0 h U,A0.ld h U]
 refine nJ (A0.dv.ext U) g0 fun h1 U1=>?_
 have V1:=U.trans U1 fun _ _ h=>h
 have R1:=R.upd U1 fun h=>h
 simp only [a0 h1 V1,aR,true_and]
 refine bD (bC (aX ?_))
 refine kV V1 hid R1 fun h2 V2 R2=>aX ?_
 cases hB:(isS 2 0 true a&&(decide ((1:Int)<0)||decide ((a.kids.length:Int)=1))) with
 | false =>
  rw [hB] at R2
  refine aM rfl (tP.fail ?_ V2 R2)
  rw [aPB (by
   unfold gW aHX
   cases e1:isS 2 0 true a with
   | false=>rfl
   | true =>
    rw [e1] at hB
    split
    ·rename_i x hx; rw [hx] at hB; simp at hB
    ·rfl)] at hq
  exact hq
 | true =>
  rw [hB] at R2
  rw [Bool.and_eq_true,Bool.or_eq_true,decide_eq_true_eq,decide_eq_true_eq] at hB
  obtain ⟨hB1,hB2⟩:=hB
  obtain ⟨x,hx⟩:∃ x,a.kids=[x]:=by
   match a.kids,(show a.kids.length=1 by omega) with
   | [x],_=>exact ⟨x,rfl⟩
  obtain ⟨rx,Ax⟩:=K0.at (i:=0) (k:=x) (by rw [hx] <;> rfl)
  have x0:∀ (h':aA),Upd (fun _=>False) hb h'→∀ K:AV→Prop,aE 5 w0 (.i .i64 0) h' K=K (ptr w0 5 0 0):=Ax.idx
  have fx:Fit x:=fa'.kid (by rw [hx]; simp)
  have hv:aHX a=((aGW x).2&&decide ((aGW x).1=2)):=by unfold aHX; rw [hB1,hx] <;> rfl
  refine aK rfl ?_
  simp only [x0 h2 V2,Ax.ld h2 V2]
  refine aO6 (Ax.dv.ext V2) (by have:=fx.data; omega) ?_
  refine bD (aU (bC (aX ?_)))
  have bad3:∀ {hh:aA},Upd (fun _=>False) hb hh→bE hh id (pc [] [] [] 0 0 (.sl none 0 none) false [] (false || !true))→gW a b c=false→∀ (K:aA→Prop),(∀ h',Upd (fun _=>False) hb h'→bE h' id (pc [] [] [] 0 0 (.sl none 0 none) false [] true)→Y11.p0 (aI h Q) (.p (some ⟨id,9,0⟩)) v h'→K h')→C Y33.id [.p (some ⟨id,9,0⟩),.b false] hh fun y h'=>asB y fun _=>K h':=fun VV RR hh K hK=>
   kV VV hid RR fun h' V' R'=>aX (hK h' V' R' (wB hF hid G L hfit hxs hq (by rw [hh] <;> rfl) V' R'))
  refine aG (fun e1=>?_) fun e1=>?_
  ·refine aG (fun e2 => ?_) fun e2 => ?_
   ·simp only [aW (G.up V2).int, a1 h2 V2, A1.ld h2 V2]
    refine dI (A1.dv.ext V2) (aX ?_)
    simp only [a1 h2 V2,aR,true_and]
    refine aG (fun e3=>?_) fun e3=>?_
    ·simp only [a1 h2 V2, A1.fa, A1.f3 h2 V2, bL]
     refine aG (fun e4=>?_) fun e4=>?_
     ·simp only [aW (G.up V2).g.seq, a2 h2 V2, A2.ld h2 V2]
      refine dI (A2.dv.ext V2) (aX ?_)
      simp only [a2 h2 V2,A1.f3 h2 V2,bL,a1 h2 V2,A1.ld h2 V2,aW (G.up V2).int,aR,true_and]
      refine kV V2 hid R2 fun h3 V3 R3=>aX ?_
      simp only [a2 h3 V3,A2.ld h3 V3,A1.f3 h3 V3,bL,a1 h3 V3,A1.ld h3 V3,aW (G.up V3).int,aW (G.up V3).g.seq,aR,true_and]
      refine wB hF hid G L hfit hxs hq ?_ V3 R3
      unfold gW
      rw [hv,e1,e2,show isS 0 2 false b=true from e3,e4]
      first | done | rfl
     ·refine bad3 V2 R2 (by unfold gW; rw [e4]; simp) _ fun h3 V3 R3 hp => ?_
      simp only [A1.f3 h3 V3,bL,a1 h3 V3,A1.ld h3 V3,aW (G.up V3).int,aR,true_and]
      exact hp
    ·refine bad3 V2 R2 (by unfold gW; rw [show isS 0 2 false b = false from e3]; simp) _ fun h3 V3 R3 hp => ?_
     simp only [a1 h3 V3,A1.ld h3 V3,aW (G.up V3).int,aR,true_and]
     exact hp
   ·refine bad3 V2 R2 (by unfold gW; rw [hv, e2]; simp) _ fun h3 V3 R3 hp => ?_
    exact hp
  ·refine bad3 V2 R2 (by unfold gW; rw [hv, e1]; simp) _ fun h3 V3 R3 hp => ?_
   exact hp
end
end Go.Proofs.YtcdkpkkdolmfdaaGreatDoor
namespace Go.Proofs.YtcdkpkkdolmfdaaGreatDoor
open Go.GAM Go.RowKit
def aE4:List AV:=[.s [],.s [],.s [],.i .i64 0,.i .i64 0,.sl none 0 none,.b false,.s []]
def aIB (h:aA) (Q:AV→aA→Prop):Except Int dP→Prop
 | .error e=>∀ h',Upd (fun _=>False) h h'→Q (.tu [.ag aE4,.i .i64 e]) h'
 | .ok c=>∀ cs h',Upd (fun _=>False) h h'→CV h' c cs→Q (.tu [.ag cs,.i .i64 0]) h'
section
variable {h h0:aA} {id:Nat} {Q:AV→aA→Prop} {s:List UInt8}
theorem oN {e:Int} {cs:List AV} (hq:aIB h0 Q (.error e)) (U:Upd (fun _=>False) h0 h) (hid:h0.length≤id) (R:bE h id cs) (hl:cs.length=8) {K:AV→aA→Prop} (hK:∀ h',Q (.tu [.ag aE4,.i .i64 e]) h'→K (.ag aE4) h') :
  aS 8 (.p (some ⟨id,8,0⟩)) (.ag aE4) h fun h4=>aB 8 (.p (some ⟨id,8,0⟩)) h4 fun v=>K v h4:=by
 refine bA R hl.symm rfl rfl fun h1 hl1 U1 R1=>bB R1 rfl (hK h1 (hq h1 (U.own U1 hid)))
theorem aGA {v:AV} {cs:List AV} (hq:aIB h0 Q (.error 2)) (U:Upd (fun _=>False) h0 h) (hid:h0.length≤id) (R:bE h id cs) (hl:cs.length=8):Y48.p0 (aI h0 Q) (.p (some ⟨id,8,0⟩)) v true h:=by
 refine Y48.i0 ?_
 simp only [Y48.t0]
 exact aM rfl (oN hq U hid R hl fun h' hx=>.inl hx)
theorem aO8 {l:List Der} (h1:7≤l.length):∃ a b c d e f g xs,l=a :: b :: c :: d :: e :: f :: g :: xs:=by
 match l,h1 with
 | a :: b :: c :: d :: e :: f :: g :: xs,_=>exact ⟨a,b,c,d,e,f,g,xs,rfl⟩
def aIQ (o:Option dP):Except Int dP:=match o with
 | some c=>.ok c
 | none=>.error 2
theorem aGM {F:Nat→Prop} {v:AV} {x:Der} {rx cs:List AV} (G:CG2 h) (A:KAt h F v 0 x rx) (hF:∀ i,F i→i<h.length) (fx:Fit x) (h7:7≤x.kids.length) (h8:x.kids.length≤8) (hq:aIB h0 Q (aIQ (cH x.kids))) (U:Upd (fun _=>False) h0 h) (hid:h0.length≤id) (R:bE h id cs) (hl:cs.length=8) :
  Y48.p0 (aI h0 Q) (.p (some ⟨id,8,0⟩)) v false h:=by
 have hidl:=R.lt
 obtain ⟨w,rs,g,K,ld⟩:=A.f4
 have a0:∀ (h':aA),Upd (fun _=>False) h h'→∀ K:AV→Prop,aE 5 v (.i .i64 0) h' K=K (ptr v 5 0 0):=A.idx
 obtain ⟨a,b,c,d,e,f,g',xs,hks⟩:=aO8 h7
 rw [hks] at K hq h8
 refine Y48.i0 ?_
 simp only [Y48.t0]
 refine aK rfl (d3 rfl fun h1 hl1 U1 R1=>?_)
 rw [a0 h1 U1,A.fa,ld h1 U1]
 refine aHD (hb:=h) (id:=h.length) hF (Nat.le_refl _) G K (fun k hk=>fx.kid (by rw [hks]; exact hk)) (by simp at h8; omega) (fun h2 ser iss sub frm til nv au key bad U2 R2 hb' hc=>?_) U1 R1
 have hU2:Upd (fun _=>False) h0 h2:=U.trans U2 fun _ _ h=>h
 have Rr:bE h2 id cs:=R.upd U2 fun h=>h
 refine b8 (aP (aO R2 rfl rfl (aX ?_)))
 cases hs:cH (a :: b :: c :: d :: e :: f :: g' :: xs) with
 | none =>
  rw [hs] at hb' hq
  subst hb'
  exact aM rfl (oN hq hU2 hid Rr hl fun h' hx=>.inl hx)
 | some y =>
  rw [hs] at hb' hq
  subst hb'
  obtain ⟨e1,e2,e3,e4,e5,e6,e7,e8,e9⟩:=hc y hs
  subst e1 e2 e3 e4 e5 e6 e7
  refine aK rfl (b8 (aP ?_))
  obtain ⟨bl,g1,g2,g3,g4⟩:=R2
  refine ⟨bl,g1,⟨g3,by rw [g2]; exact Nat.le_refl _,by show 0+0+8≤9; omega⟩, ?_⟩
  rw [g2]
  show aS 8 _ (.ag (fT y nv)) h2 _
  have V:CV h2 y (fT y nv):=⟨nv,rfl,e8⟩
  refine bA Rr hl.symm V.len V.ok fun h3 hl3 U3 R3=>bB R3 V.len.symm (.inl (hq _ h3 (hU2.own U3 hid) ?_))
  refine ⟨nv,rfl,e8.upd U3 fun i hi e=>?_⟩
  have:=e9 i hi
  omega
end
end Go.Proofs.YtcdkpkkdolmfdaaGreatDoor
namespace Go.Proofs.YtcdkpkkdolmfdaaGreatDoor
open Go.GAM Go.RowKit
def nF (d:Der):Except Int dP:=if fA d=true then (match d.kids with
 | [a,b,c]=>if (fA a&&(fA b&&qZ c))=true then aIQ (cH a.kids) else .error 2
 | _=>.error 2) else .error 2
theorem aHV (s:List UInt8):sL s=if 65535<s.length then .error 3 else match nV s with
 | .error e=>.error e
 | .ok d=>nF d:=by
 unfold sL nF aIQ
 rfl
theorem aA3 {l:List Der} (h:l.length<7):cH l=none:=by
 unfold cH
 split
 ·simp at h; omega
 ·rfl
theorem aAM {l:List Der} (h:8<l.length):cH l=none:=by
 unfold cH
 split
 ·rename_i a b c d e f g x
  have hx:wM x=none:=by
   match x,h with
   | [],h=>simp at h
   | [_],h=>simp at h
   | _ :: _ :: _,_=>rfl
  rw [hx]
  split
  ·split
   ·rename_i h5; cases h5
   ·rfl
  ·rfl
 ·rfl
theorem aLG {s : List UInt8} {h : aA} {Q : AV → aA → Prop} (G : CG2 h) (hq : aIB h Q (sL s)) : C Y48.id [.s s] h Q := by
 refine Y48.call ?_
 simp only [Y48.t, ← Y48.p0.eq_1]
 refine b9 fun h1 hl1 U1 R1=>?_
 rw [aHV] at hq
 refine aG (fun e=>?_) fun e=>?_
 ·have e := of_decide_eq_true e
  rw [if_pos (by omega)] at hq
  exact oN hq U1 (Nat.le_refl _) R1 rfl fun h' hx=>.inl hx
 ·have e := of_decide_eq_false e
  rw [if_neg (by omega)] at hq
  refine aCL ?_
  cases hd:nV s with
  | error e =>
   rw [hd] at hq
   intro h2 U2
   refine bD (bC (aU (b9 fun h3 hl3 U3 R3=>bA R3 rfl rfl rfl fun h4 hl4 U4 R4=>?_)))
   have V4:Upd (fun _=>False) h1 h4:=(U2.then U3).own U4 (by have:=U2.1; omega)
   refine aM (by simp [aA2 hd]) ?_
   exact oN hq (U1.then V4) (Nat.le_refl _) (R1.upd V4 fun h=>h) rfl fun h' hx=>.inl hx
  | ok d =>
   rw [hd] at hq
   intro cs h2 U2 D2
   have fd:=Fit.of hd
   refine bD (bC (aU (b9 fun h3 hl3 U3 R3=>bA R3 rfl D2.len D2.cells' fun h4 hl4 U4 R4=>?_)))
   have U24:Upd (fun _=>False) h2 h4:=U3.own U4 (Nat.le_refl _)
   have V4:Upd (fun _=>False) h1 h4:=(U2.then U3).own U4 (by have:=U2.1; omega)
   have D4:=D2.ext U24
   have G4:CG2 h4:=G.up (U1.then V4)
   have R14:=R1.upd V4 fun h=>h
   refine aK rfl ?_
   simp only [aW G4.g.seq]
   refine bB R4 D2.len.symm ?_
   obtain ⟨w,rs,g1,g2,g3,g4,g5⟩:=D4.kidsLen
   refine nJ D4 g1 fun h5 U5=>?_
   have U05:Upd (fun _=>False) h h5:=(U1.then V4).then U5
   have V5:Upd (fun _=>False) h1 h5:=V4.then U5
   have K:KL h5 (fun i=>h1.length≤i∧i<h4.length) w d.kids rs:=⟨(D4.upd U5 (F':=fun i=>h1.length≤i∧i<h4.length) fun i hi hl=>⟨fun h=>h,hi,hl⟩) |> fun D5=>by
    exact (g2.upd U5 fun i hi hl=>⟨fun h=>h,hi,hl⟩),g3.upd U5 fun _ _ _ h=>h,fun i hi=>⟨(g5 i hi).1,(g5 i hi).2⟩⟩
   have R15:=R14.upd U5 fun h=>h
   have G5:=G4.up U5
   refine bD (bC (aX ?_))
   have hq:aIB h Q (nF d):=hq
   have hF:∀ i,(h1.length≤i∧i<h4.length)→i<h5.length:=fun i hi=>Nat.lt_of_lt_of_le hi.2 U5.1
   have fail:nF d = .error 2→Y48.p0 (aI h Q) (.p (some ⟨h.length,8,0⟩)) w true h5:=by
    intro hp
    rw [hp] at hq
    exact aGA hq U05 (Nat.le_refl _) R15 rfl
   cases hs:(isS 0 16 true d&&(decide ((3:Int)<0)||decide ((d.kids.length:Int)=3))) with
   | false =>
    refine aM rfl (fail ?_)
    unfold nF
    split
    ·rename_i h1
     rw [show isS 0 16 true d=true from h1] at hs
     split
     ·rename_i hk; rw [hk] at hs; simp at hs
     ·rfl
    ·rfl
   | true =>
    rw [Bool.and_eq_true,Bool.or_eq_true,decide_eq_true_eq,decide_eq_true_eq] at hs
    obtain ⟨hs1,hs2⟩:=hs
    obtain ⟨a,b,c,hk⟩:∃ a b c,d.kids=[a,b,c]:=by
     match d.kids,(show d.kids.length=3 by omega) with
     | [a,b,c],_=>exact ⟨a,b,c,rfl⟩
    have hp:nF d=if (fA a&&(fA b&&qZ c))=true then aIQ (cH a.kids) else .error 2:=by
     unfold nF
     rw [if_pos (show fA d=true from hs1),hk]
    obtain ⟨ra,A0⟩:=K.at (i:=0) (k:=a) (by rw [hk] <;> rfl)
    obtain ⟨rb,A1⟩:=K.at (i:=1) (k:=b) (by rw [hk] <;> rfl)
    obtain ⟨rc,A2⟩:=K.at (i:=2) (k:=c) (by rw [hk] <;> rfl)
    have u:=Upd.refl (fun _=>False) h5
    have a0:∀ K:AV→Prop,aE 5 w (.i .i64 0) h5 K=K (ptr w 5 0 0):=A0.idx h5 u
    have a1:∀ K:AV→Prop,aE 5 w (.i .i64 1) h5 K=K (ptr w 5 1 0):=A1.idx h5 u
    have a2:∀ K:AV→Prop,aE 5 w (.i .i64 2) h5 K=K (ptr w 5 2 0):=A2.idx h5 u
    obtain ⟨w',rs',e1,K',ld⟩:=A0.f4
    have fa:Fit a:=fd.kid (by rw [hk]; simp)
    refine aK rfl ?_
    simp only [aW G5.g.seq,aW G5.bits,a0,a1,a2,A0.ld h5 u,A1.ld h5 u,A2.ld h5 u,A0.fa,ld h5 u,K'.rd.plen,aR,true_and]
    refine dI A0.dv (aX ?_)
    simp only [aW G5.g.seq,aW G5.bits,a0,a1,a2,A0.ld h5 u,A1.ld h5 u,A2.ld h5 u,A0.fa,ld h5 u,K'.rd.plen,aR,true_and]
    refine aG (fun e=>?_) fun e=>?_
    ·have e : isS 0 16 true a = false := by simpa using e
     exact fail (by rw [hp,show fA a=false from e] <;> rfl)
    have ea:fA a=true:=show isS 0 16 true a=true by simpa using e
    refine dI A1.dv (aX ?_)
    simp only [aW G5.g.seq,aW G5.bits,a0,a1,a2,A0.ld h5 u,A1.ld h5 u,A2.ld h5 u,A0.fa,ld h5 u,K'.rd.plen,aR,true_and]
    refine aG (fun e=>?_) fun e=>?_
    ·have e : isS 0 16 true b = false := by simpa using e
     exact fail (by rw [hp,show fA b=false from e,ea] <;> rfl)
    have eb:fA b=true:=show isS 0 16 true b=true by simpa using e
    refine dI A2.dv (aX ?_)
    simp only [aW G5.g.seq,aW G5.bits,a0,a1,a2,A0.ld h5 u,A1.ld h5 u,A2.ld h5 u,A0.fa,ld h5 u,K'.rd.plen,aR,true_and]
    refine aG (fun e=>?_) fun e=>?_
    ·have e : isS 0 3 false c = false := by simpa using e
     exact fail (by rw [hp,show qZ c=false from e,ea,eb] <;> rfl)
    have ec:qZ c=true:=show isS 0 3 false c=true by simpa using e
    have hp:nF d=aIQ (cH a.kids):=by rw [hp,ea,eb,ec] <;> rfl
    rw [hp] at hq fail
    refine aG (fun e=>?_) fun e=>?_
    ·have e := of_decide_eq_true e
     exact fail (by rw [aA3 (by omega)] <;> rfl)
    have e:=of_decide_eq_false e
    by_cases e8:8<a.kids.length
    ·rw [decide_eq_true (by omega)]
     exact fail (by rw [aAM e8] <;> rfl)
    rw [decide_eq_false (by omega)]
    exact aGM G5 A0 hF fa (by omega) (by omega) hq U05 (Nat.le_refl _) R15 rfl
end Go.Proofs.YtcdkpkkdolmfdaaGreatDoor
