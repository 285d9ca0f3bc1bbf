/- Lemmas (several texts in one). -/
import Derived.Test.YtfoekpcljhbijaaGreatDoorMg6
set_option linter.unusedVariables false
set_option linter.unusedSimpArgs false
namespace Go.Proofs.YtfoekpcljhbijaaGreatDoor
open Go.GAM
theorem aB7:∀ a c:Fin 256,a.1 ^^^ c.1 * 256=a.1+c.1 * 256∧a.1 ||| c.1 * 256=a.1+c.1 * 256:=by decide +kernel
theorem aKB (a c:UInt8):a.toNat ^^^ c.toNat * 256=a.toNat+c.toNat * 256:=(aB7 ⟨_,a.toNat_lt⟩ ⟨_,c.toNat_lt⟩).1
theorem aUN (a c:UInt8):a.toNat ||| c.toNat * 256=a.toNat+c.toNat * 256:=(aB7 ⟨_,a.toNat_lt⟩ ⟨_,c.toNat_lt⟩).2
theorem aRV {x y:Nat} (h:x ^^^ y=0):x=y:=by
 have:=congrArg (· ^^^ y) h
 simpa [Nat.xor_assoc] using this
section
variable {p:List UInt8} {h h':Hd} {c:UInt8}
theorem aPL (H:Inv p h) (hp:h.part<8):(dT p).2=(false,0):=by
 have hcases:h.part=0∨h.part=1∨h.part=2∨h.part=3∨h.part=4∨h.part=5∨h.part=6∨h.part=7:=by omega
 rcases hcases with e | e | e | e | e | e | e | e <;> simp only [Inv,e] at H <;> obtain ⟨hs,H⟩:=H
 ·obtain ⟨h1, h2, _⟩ := H
  have hc:h.count=0∨h.count=1∨h.count=2:=by omega
  rcases hc with hc | hc | hc <;> rw [h1,hc] <;> decide
 ·rw [H.1]; decide
 ·obtain ⟨_, h1, h2, h3, _⟩ := H
  have:=h3 []
  rw [List.append_nil] at this
  unfold dT
  rw [if_pos this,if_pos (by omega)]
 ·obtain ⟨_, h1, h2, h3, _, h4⟩ := H
  have:=h4 []
  rw [List.append_nil] at this
  rw [this]; unfold iU
  rw [if_pos h1,if_pos (by omega)]
 ·obtain ⟨_, h1, h2, h3, h5, h4⟩ := H
  have:=h4 []
  rw [List.append_nil] at this
  rw [this]; unfold iU
  rw [if_pos h1,if_neg (by omega),if_pos (by omega)]
 ·obtain ⟨h1, h2, pos, h3, h4, h5, h6⟩ := H
  have:=h6 []
  rw [List.append_nil] at this
  rw [this]; unfold qF
  rw [if_pos h1,nT (by rw [h4]; exact h5)]
  have hl:(p.drop pos).length=h.count:=by rw [List.length_drop]; omega
  simp only
  rw [if_neg (by omega),if_neg (by simp)]
 ·obtain ⟨h1, pos, h3, h4, h6⟩ := H
  have:=h6 []
  rw [List.append_nil] at this
  rw [this]; unfold aE2
  rw [if_pos h1,nT h4]
  simp only
  rw [if_neg (by simp)]
 ·obtain ⟨h1, h2, pos, h3, h4, h6⟩ := H
  have:=h6 []
  rw [List.append_nil] at this
  rw [this]; unfold aA4
  rw [if_neg h1,if_pos (by omega)]
theorem oI (p t:List UInt8) (c:UInt8):p++[c]++t=p++([c]++t):=List.append_assoc _ _ _
theorem aKY {e : Int} (H : Inv p h) (hp : h.part < 8) (ht : dB h c = .inl e) : (dT (p ++ [c])).2 = (false, e) := by
 have hcases:h.part=0∨h.part=1∨h.part=2∨h.part=3∨h.part=4∨h.part=5∨h.part=6∨h.part=7:=by omega
 rcases hcases with e0 | e0 | e0 | e0 | e0 | e0 | e0 | e0 <;> simp only [Inv,e0] at H <;> obtain ⟨hs,H⟩:=H
 ·rw [tk0 e0] at ht
  obtain ⟨h1,h2,_⟩:=H
  split at ht
  ·cases ht
  ·rename_i hm
   cases ht
   have hb:dU (p++[c])=false:=by
    have hc:h.count=0∨h.count=1∨h.count=2:=by omega
    unfold dU
    rw [Bool.and_eq_false_iff]
    left
    rw [decide_eq_false_iff_not]
    rcases hc with hc | hc | hc <;> rw [hc] at h1 hm <;> rw [h1] <;> simp [dW] at hm ⊢ <;> exact fun h=>hm h.symm
   unfold dT
   rw [hb] <;> rfl
 ·rw [tk1 e0] at ht
  split at ht
  ·rename_i hm
   cases ht
   have hb:dU (p++[c])=false:=by
    rw [H.1]
    unfold dU
    have:(dW++[c])[3]? = some c:=rfl
    rw [this]
    simp only
    rw [decide_eq_false (show ¬ c.toNat<32 by omega),Bool.and_false]
   unfold dT
   rw [hb] <;> rfl
  ·cases ht
 ·rw [tk2 e0] at ht; cases ht
 ·rw [tk3 e0] at ht; cases ht
 ·rw [tk4 e0] at ht; cases ht
 ·rw [tk5 e0] at ht
  split at ht
  ·cases ht
  ·rename_i hc
   split at ht
   ·rename_i hm
    cases ht
    obtain ⟨h1,h2,pos,h3,h4,h5,h6⟩:=H
    have e1:(p++[c]).drop pos=h.name++[c]:=by rw [List.drop_append_of_le_length (by omega),h4]
    have hl:h.name.length=h.count:=by rw [← h4,List.length_drop]; omega
    rw [h6 [c]]; unfold qF
    rw [if_pos h1,nT (by rw [e1,rC h5,if_neg hc]),e1]
    simp only
    rw [if_pos (by rw [List.length_append,hl]; exact hm)]
   ·cases ht
 ·rw [tk6 e0] at ht; cases ht
 ·rw [tk7 e0] at ht
  split at ht
  ·rename_i h1c
   split at ht
   ·cases ht
   ·rename_i hk
    cases ht
    obtain ⟨h1,h2,pos,h3,h4,h6⟩:=H
    have h4:=h4 h1c
    obtain ⟨a,ha⟩:∃ a,p.drop pos=[a]:=by
     have hl:(p.drop pos).length=1:=by rw [List.length_drop]; omega
     exact List.length_eq_one_iff.1 hl
    rw [h6 [c]]; unfold aA4
    have e1:((p++[c]).take (pos+2)).drop pos=[a,c]:=by
     rw [List.take_of_length_le (by rw [List.length_append,List.length_singleton]; omega),List.drop_append_of_le_length (by omega),ha] <;> rfl
    have e2:(p++[c]).take pos=p.take pos:=List.take_append_of_le_length (by omega)
    rw [if_neg h1,if_neg (by rw [List.length_append,List.length_singleton]; omega),e1,e2,if_pos]
    intro hh
    apply hk
    unfold chk
    rw [if_neg (by omega),h4,ha,h1c]
    have l1:bN [a]=a.toNat:=by simp [bN]
    have l2:bN [a,c]=a.toNat ^^^ c.toNat * 256:=by rw [aKB]; simp [bN]; omega
    rw [l1, ← hh,l2]
    show ((a.toNat ^^^ c.toNat * 256) ^^^ a.toNat) ^^^ c.toNat * 256=0
    rw [Nat.xor_comm (a.toNat ^^^ c.toNat * 256) a.toNat, ← Nat.xor_assoc a.toNat,Nat.xor_self,Nat.zero_xor,Nat.xor_self]
  ·cases ht
theorem aUK (HO : vT h) (H : Inv p h) (hp : h.part < 8) (ht : dB h c = .inr h') : Inv (p ++ [c]) h' := by
 have hs:h.sum=bQ 0 p:=H.1
 have hs':bQ h.sum [c]=bQ 0 (p++[c]):=by rw [hs,aCL]
 have hpl:(p++[c]).length=p.length+1:=by simp
 have hcases:h.part=0∨h.part=1∨h.part=2∨h.part=3∨h.part=4∨h.part=5∨h.part=6∨h.part=7:=by omega
 have adv:∀ (h1:Hd) (b:Bool),(b=true→Inv (p++[c]) { h1 with part:=eG h1.flags h1.extra 6 (h1.part+1),count:=0 })→(b=false→Inv (p++[c]) h1)→Inv (p++[c]) (eV h1 b):=by
  intro h1 b ha hb
  unfold eV
  cases b with
  | true=>exact ha rfl
  | false=>exact hb rfl
 rcases hcases with e0 | e0 | e0 | e0 | e0 | e0 | e0 | e0 <;> simp only [Inv,e0] at H <;> obtain ⟨_,H⟩:=H
 ·rw [tk0 e0] at ht
  obtain ⟨h1,h2,h3⟩:=H
  split at ht
  ·rename_i hm
   cases ht
   have e1:p++[c]=dW.take (h.count+1):=by rw [List.take_add_one,hm,h1] <;> rfl
   refine adv _ _ (fun hb=>?_) fun hb=>?_
   ·have hb : h.count + 1 = 3 := by simpa using hb
    rw [hb] at e1
    show Inv (p++[c]) { h with part:=eG h.flags h.extra 6 (h.part+1),count:=0,sum:=bQ h.sum [c] }
    rw [e0]
    exact ⟨hs',e1,h3⟩
   ·have hb : ¬ h.count + 1 = 3 := by simpa using hb
    unfold Inv
    simp only [e0]
    exact ⟨hs',e1,by omega,h3⟩
  ·cases ht
 ·rw [tk1 e0] at ht
  split at ht
  ·cases ht
  ·rename_i hm
   cases ht
   refine adv _ _ (fun hb=>?_) fun hb=>by cases hb
   show Inv (p++[c]) { h with part:=eG c.toNat h.extra 6 (h.part+1),count:=0,sum:=bQ h.sum [c],flags:=c.toNat }
   rw [e0]
   refine ⟨hs',H.2,by show 0<6; decide,by rw [hpl,H.1] <;> rfl,fun t=>?_,fun t=>?_⟩
   ·rw [H.1]
    unfold dU
    have:(dW++[c]++t)[3]? = some c:=rfl
    rw [this]
    simp only
    rw [decide_eq_true (show c.toNat<32 by omega),Bool.and_true]
    apply decide_eq_true
    simp [dW]
   ·rw [H.1] <;> rfl
 ·rw [tk2 e0] at ht
  cases ht
  obtain ⟨h1,h2,h3,h4,h5⟩:=H
  have b4:∀ t,dU (p++[c]++t)=true:=fun t=>by rw [oI]; exact h4 _
  have b5:∀ t,((p++[c]++t).getD 3 0).toNat=h.flags:=fun t=>by rw [oI]; exact h5 _
  have hx:=HO.pre (by omega)
  refine adv _ _ (fun hb=>?_) fun hb=>?_
  ·have hb : h.count + 1 = 6 := by simpa using hb
   have hr:∀ t,dT (p++[c]++t)=iU (p++[c]++t) h.flags:=fun t=>by
    unfold dT
    rw [if_pos (b4 t),if_neg (by rw [List.length_append,hpl]; omega),b5]
   show Inv (p++[c]) { h with part:=eG h.flags h.extra 6 (h.part+1),count:=0,sum:=bQ h.sum [c] }
   rw [e0,gN]
   by_cases hw:h.flags &&& 4=0
   ·rw [if_neg (by simp [gD, hw]), gN, if_neg (by simp [gD, hx])]
    refine aHO (h:={ h with sum:=bQ h.sum [c] }) (f:=0) h1 hs' fun t=>?_
    rw [hr t]; unfold iU
    rw [if_neg (by simpa using hw),hpl,h3]
    have:4+h.count+1=10:=by omega
    rw [this]
   ·rw [if_pos (by simpa [gD] using hw)]
    refine ⟨hs',h1,hw,by show 0<2; decide,by rw [hpl]; show _=10+0; omega, ?_,hr⟩
    have:(p++[c]).drop 10=[]:=List.drop_of_length_le (by rw [hpl]; omega)
    show h.extra=bN ((p++[c]).drop 10)
    rw [this,hx] <;> rfl
  ·have hb : ¬ h.count + 1 = 6 := by simpa using hb
   unfold Inv
   simp only [e0]
   exact ⟨hs',h1,by omega,by rw [hpl]; omega,b4,b5⟩
 ·rw [tk3 e0] at ht
  cases ht
  obtain ⟨h1,h2,h3,h4,h5,h6⟩:=H
  have b6:∀ t,dT (p++[c]++t)=iU (p++[c]++t) h.flags:=fun t=>by rw [oI]; exact h6 _
  have ed:(p++[c]).drop 10=p.drop 10++[c]:=List.drop_append_of_le_length (by omega)
  have ex:h.extra ||| c.toNat * 2 ^ (8 * h.count)=bN ((p++[c]).drop 10):=by
   rw [ed]
   have hc:h.count=0∨h.count=1:=by omega
   rcases hc with hc | hc
   ·have : p.drop 10 = [] := List.drop_of_length_le (by omega)
    rw [this] at h5 ⊢
    rw [h5,hc]; simp [bN]
   ·obtain ⟨a, ha⟩ : ∃ a, p.drop 10 = [a] := List.length_eq_one_iff.1 (by rw [List.length_drop]; omega)
    rw [ha] at h5 ⊢
    rw [h5,hc]
    have l1:bN [a]=a.toNat:=by simp [bN]
    rw [l1]
    show a.toNat ||| c.toNat * 256=bN [a,c]
    rw [aUN]; simp [bN]; omega
  refine adv _ _ (fun hb=>?_) fun hb=>?_
  ·have hb : h.count + 1 = 2 := by simpa using hb
   show Inv (p++[c]) { h with part:=eG h.flags (h.extra ||| c.toNat * 2 ^ (8 * h.count)) 6 (h.part+1),count:=0,sum:=bQ h.sum [c],extra:=h.extra ||| c.toNat * 2 ^ (8 * h.count) }
   have et:∀ t,(p++[c]++t).take 12=p++[c]:=fun t=>by
    rw [List.take_append_of_le_length (by rw [hpl]; omega),List.take_of_length_le (by rw [hpl]; omega)]
   rw [e0,gN]
   by_cases hw:0<h.extra ||| c.toNat * 2 ^ (8 * h.count)
   ·rw [if_pos (by simpa [gD] using hw)]
    refine ⟨hs',h1,h2,hw,by rw [hpl]; show _=12+0; omega, ?_,b6⟩
    have:=et []
    rw [List.append_nil] at this
    rw [this]; exact ex
   ·rw [if_neg (by simpa [gD] using hw)]
    refine aHO (h:={ h with sum:=bQ h.sum [c],extra:=h.extra ||| c.toNat * 2 ^ (8 * h.count) }) (f:=1) h1 hs' fun t=>?_
    rw [b6 t]; unfold iU
    have e12:(p++[c]).length=12:=by rw [hpl]; omega
    have ez:bN ((p++[c]).drop 10)=0:=by omega
    rw [if_pos h2,et,ez,if_neg (by rw [List.length_append,e12]; omega),if_neg (by rw [List.length_append,e12]; omega),e12]
  ·have hb : ¬ h.count + 1 = 2 := by simpa using hb
   unfold Inv
   simp only [e0]
   exact ⟨hs',h1,h2,by omega,by rw [hpl]; omega,ex,b6⟩
 ·rw [tk4 e0] at ht
  cases ht
  obtain ⟨h1,h2,h3,h4,h5,h6⟩:=H
  have b6:∀ t,dT (p++[c]++t)=iU (p++[c]++t) h.flags:=fun t=>by rw [oI]; exact h6 _
  have et:∀ t,(p++[c]++t).take 12=p.take 12:=fun t=>by rw [oI,List.take_append_of_le_length (by omega)]
  refine adv _ _ (fun hb=>?_) fun hb=>?_
  ·have hb : h.count + 1 = h.extra := by simpa using hb
   show Inv (p++[c]) { h with part:=eG h.flags h.extra 6 (h.part+1),count:=0,sum:=bQ h.sum [c] }
   rw [e0]
   refine aHO (h:={ h with sum:=bQ h.sum [c] }) (f:=2) h1 hs' fun t=>?_
   rw [b6 t]; unfold iU
   have el:(p++[c]).length=12+h.extra:=by rw [hpl]; omega
   rw [if_pos h2,et, ← h5,if_neg (by rw [List.length_append,el]; omega),if_neg (by rw [List.length_append,el]; omega),el]
  ·have hb : ¬ h.count + 1 = h.extra := by simpa using hb
   unfold Inv
   simp only [e0]
   refine ⟨hs',h1,h2,by omega,by rw [hpl]; omega, ?_,b6⟩
   have:=et []
   rw [List.append_nil] at this
   rw [this]; exact h5
 ·rw [tk5 e0] at ht
  obtain ⟨h1,h2,pos,h3,h4,h5,h6⟩:=H
  have hl:h.name.length=h.count:=by rw [← h4,List.length_drop]; omega
  split at ht
  ·rename_i hc
   cases ht
   refine adv _ _ (fun hb=>?_) fun hb=>by cases hb
   show Inv (p++[c]) { h with part:=eG h.flags h.extra 6 (h.part+1),count:=0,sum:=bQ h.sum [c] }
   rw [e0]
   refine aQI (h:={ h with sum:=bQ h.sum [c] }) (f:=3) hs' fun t=>?_
   subst hc
   rw [oI,h6]; unfold qF
   rw [if_pos h1, ← oI,zT (by omega) (by rw [h4]; exact h5),h4]
   simp only
   rw [if_neg (by omega),if_pos trivial,hpl]
  ·rename_i hc
   split at ht
   ·cases ht
   ·rename_i hm
    cases ht
    unfold Inv
    simp only [e0]
    refine ⟨hs',h1,by omega,pos,by rw [hpl]; omega,by rw [List.drop_append_of_le_length (by omega),h4],by rw [rC h5,if_neg hc],fun t=>by rw [oI]; exact h6 _⟩
 ·rw [tk6 e0] at ht
  cases ht
  obtain ⟨h1,pos,h3,h5,h6⟩:=H
  refine adv _ _ (fun hb=>?_) fun hb=>?_
  ·have hb : c = 0 := by simpa using hb
   show Inv (p++[c]) { h with part:=eG h.flags h.extra 6 (h.part+1),count:=0,sum:=bQ h.sum [c] }
   rw [e0]
   refine aPS (h:={ h with sum:=bQ h.sum [c] }) (f:=4) hs' fun t=>?_
   subst hb
   rw [oI,h6]; unfold aE2
   rw [if_pos h1, ← oI,zT h3 h5]
   simp only
   rw [if_pos trivial,hpl]
  ·have hb : ¬ c = 0 := by simpa using hb
   unfold Inv
   simp only [e0]
   exact ⟨hs',h1,pos,by rw [hpl]; omega,by rw [List.drop_append_of_le_length h3,rC h5,if_neg hb],fun t=>by rw [oI]; exact h6 _⟩
 ·rw [tk7 e0] at ht
  obtain ⟨h1,h2,pos,h3,h4,h6⟩:=H
  split at ht
  ·rename_i h1c
   split at ht
   ·rename_i hk
    cases ht
    have h4:=h4 h1c
    obtain ⟨a,ha⟩:∃ a,p.drop pos=[a]:=List.length_eq_one_iff.1 (by rw [List.length_drop]; omega)
    refine adv _ _ (fun hb=>?_) fun hb=>by cases hb
    show Inv (p++[c]) { h with part:=eG h.flags h.extra 6 (h.part+1),count:=0,sum:=bQ h.sum [c],check:=chk h c }
    rw [e0]
    refine ⟨hs', ?_⟩
    show dT (p++[c])=(h.name,true,0)
    rw [h6 [c]]; unfold aA4
    have e1:((p++[c]).take (pos+2)).drop pos=[a,c]:=by
     rw [List.take_of_length_le (by rw [hpl]; omega),List.drop_append_of_le_length (by omega),ha] <;> rfl
    have e2:(p++[c]).take pos=p.take pos:=List.take_append_of_le_length (by omega)
    rw [if_neg h1,if_neg (by rw [hpl]; omega),e1,e2,if_neg]
    intro hh
    apply hh
    unfold chk at hk
    have l1:bN [a]=a.toNat:=by simp [bN]
    have l2:bN [a,c]=a.toNat ^^^ c.toNat * 256:=by rw [aKB]; simp [bN]; omega
    rw [if_neg (by omega),h4,ha,h1c,l1] at hk
    rw [l2]
    have hk:((bQ 0 (p.take pos)).toNat % 65536 ^^^ a.toNat) ^^^ c.toNat * 256=0:=hk
    rw [Nat.xor_assoc] at hk
    exact (aRV hk).symm
   ·cases ht
  ·rename_i h1c
   cases ht
   have h0:h.count=0:=by omega
   unfold Inv
   simp only [e0]
   refine ⟨hs',h1,by omega,pos,by rw [hpl]; omega,fun _=>?_,fun t=>by rw [oI]; exact h6 _⟩
   have e2:(p++[c]).take pos=p:=by rw [List.take_append_of_le_length (by omega),List.take_of_length_le (by omega)]
   have e3:(p++[c]).drop pos=[c]:=by rw [List.drop_append_of_le_length (by omega),List.drop_of_length_le (by omega)] <;> rfl
   unfold chk
   rw [if_pos h0,e2,e3,hs,h0]
   simp [bN]
end
end Go.Proofs.YtfoekpcljhbijaaGreatDoor
namespace Go.Infl
end Go.Infl
namespace Go.Infl
end Go.Infl
namespace Go.Infl
open Go.Huff
end Go.Infl
namespace Go.Infl
open Go.Huff
end Go.Infl
namespace Go.Infl
open Go.Huff
end Go.Infl
set_option linter.unusedSectionVars false
set_option maxRecDepth 20000
namespace Go.Proofs.YtfoekpcljhbijaaGreatDoor
open Go.GAM
abbrev u8T:TypeId:=5
section
variable [XR] {h:aA} {Q:AV→aA→Prop} {G:Nat→Prop} {w:Nat}
theorem slv {E:TypeId} {h:aA} {v:AV} {l:List UInt8} (B:iT E h v l):v.parts=[v]∧v.sizeOK=true∧v.cellOK=true:=by
 rcases B with ⟨rfl,_⟩ | ⟨id,b,rfl,_⟩ <;> exact ⟨rfl,rfl,rfl⟩
theorem aN6 {l:List Nat} {i x:Nat} (h:l[i]? = some x):(bI l)[i * 1]? = some (iN x):=by
 unfold bI
 rw [Nat.mul_one,List.getElem?_map,h] <;> rfl
theorem RdI.nat {h:aA} {v:AV} {l:List Nat} {k:IntKind} {i x:Nat} (R:RdI 1 h v (bI l) l.length) (hx:l[i]? = some x) {K:AV→Prop} (hk:K (iN x)):aU 1 v (.i k (i:Int)) h fun a=>aD a h K:=by
 have hi:=(List.getElem?_eq_some_iff.1 hx).1
 obtain ⟨p,P,hp⟩:=R.at hi
 have e:((bI l).drop (i * 1)).take 1=[iN x]:=by
  have hl:i<(bI l).length:=by rw [bB]; exact hi
  rw [Nat.mul_one,List.drop_eq_getElem_cons hl]
  have:=aN6 hx
  rw [Nat.mul_one,List.getElem?_eq_getElem hl] at this
  rw [Option.some.inj this] <;> rfl
 rw [e] at P
 exact hp k h _ (Upd.refl _ _) (P.load1 hk)
end
end Go.Proofs.YtfoekpcljhbijaaGreatDoor
namespace Go.Proofs.YtfoekpcljhbijaaGreatDoor
open Go.GAM
section
variable [XR] {h:aA} {Q:AV→aA→Prop} {v:AV} {l:List Nat}
end
end Go.Proofs.YtfoekpcljhbijaaGreatDoor
namespace Go.Proofs.YtfoekpcljhbijaaGreatDoor
open Go.GAM
section
variable [XR] {h:aA} {Q:AV→aA→Prop}
end
section
variable [XR] {h:aA} {Q:AV→aA→Prop} {G:Nat→Prop} {w:Nat}
end
end Go.Proofs.YtfoekpcljhbijaaGreatDoor
namespace Go.Proofs.YtfoekpcljhbijaaGreatDoor
open Go.GAM
abbrev yW:AV:=.sl none 0 none
section
variable [XR] {h:aA} {Q:AV→aA→Prop} {F:Nat→Prop} {s:List UInt8} {i sb bm mb:Nat} {kv:List (List UInt8 × AV)}
end
end Go.Proofs.YtfoekpcljhbijaaGreatDoor
namespace Go.Infl
open Go.Huff
end Go.Infl
namespace Go.Proofs.YtfoekpcljhbijaaGreatDoor
open Go.GAM
section
variable [XR] {Q:AV→aA→Prop} {s:List UInt8} {sb bm mb:Nat} {h0:aA}
end
end Go.Proofs.YtfoekpcljhbijaaGreatDoor
namespace Go.Proofs.YtfoekpcljhbijaaGreatDoor
open Go.GAM
theorem iT.str {E:TypeId} {h:aA} {v:AV} {l:List UInt8} (B:iT E h v l) {K:List UInt8→Prop} (hk:K l):cJ v h K:=by
 refine Byt.str (l:=l) ?_ hk
 rcases B with ⟨rfl,rfl⟩ | ⟨id,b,rfl,h1,h2,h3,h4,h5⟩
 ·exact .inl ⟨rfl,rfl,rfl⟩
 ·have e : b.cells.length = l.length := by rw [h2]; simp
  refine .inr ⟨id,_,0,none,b,rfl,h1,.inl h3,h4,by show l.length≤_; omega,by omega, ?_⟩
  rw [List.drop_zero,Nat.mul_one, ← e,List.take_length,h2]
section
variable [XR] {Q:AV→aA→Prop} {s:List UInt8} {h:aA}
end
end Go.Proofs.YtfoekpcljhbijaaGreatDoor
namespace Go.Infl
open Go.Huff
end Go.Infl
namespace Go.Proofs.YtfoekpcljhbijaaGreatDoor
open Go.GAM
end Go.Proofs.YtfoekpcljhbijaaGreatDoor
namespace Go.Proofs.YtfoekpcljhbijaaGreatDoor
open Go.GAM
@[reducible] def xr0:XR:=⟨aNF xY⟩
abbrev p1 (id:Nat):AV:=.p (some ⟨id,1,0⟩)
theorem aP6 (a b:UInt8):(decide ((a.toNat:Int)=(b.toNat:Int)))=decide (a=b):=by
 by_cases h:a=b
 ·subst h; simp
 ·have : a.toNat ≠ b.toNat := fun e => h (UInt8.toNat.inj e)
  simp [h,this]
  omega
section
variable {Hb:aA} {g sb ab nb fb mb:Nat} {rec:Loop} {s:List UInt8} {a:Nat}
variable [XR] {X:Exit→aA→Prop}
end
end Go.Proofs.YtfoekpcljhbijaaGreatDoor
namespace Go.Proofs.YtfoekpcljhbijaaGreatDoor
open Go.GAM Go.RowKit
def aQ1 (x:Nat) (l:List UInt8):Nat:=l.foldl (fun x c=>x * 256+c.toNat) x
theorem aPF (l:List UInt8):aQ1 0 l.reverse=bN l:=by
 unfold aQ1
 rw [List.foldl_reverse]
 induction l with
 | nil=>rfl
 | cons c l ih=>rw [List.foldr_cons,ih]; simp [bN]; omega
section
variable [XR] {h:aA} {Q:AV→aA→Prop} {l s:List UInt8}
theorem aFR (hl:l.length≤7):∀ (k i x:Nat),i+k=l.length→x<256 ^ i→Q (iN (aQ1 x (l.drop i))) h→Y41.p0 Q l (x:Int) (i:Int) h:=by
 intro k
 induction k with
 | zero =>
  intro i x hi hx hq
  refine Y41.i0 ?_
  simp only [Y41.t0]
  rw [List.drop_of_length_le (by omega)] at hq
  exact aG (decide_eq_false (by omega)) hq
 | succ k ih =>
  intro i x hi hx hq
  obtain ⟨c,hc⟩:∃ c,l[i]? = some c:=⟨_,List.getElem?_eq_getElem (by omega)⟩
  rw [kJ hc] at hq
  have hcl:=c.toNat_lt
  have hp:256 ^ (i+1)≤256 ^ 7:=Nat.pow_le_pow_right (by decide) (by omega)
  have hp7:256 ^ 7=72057594037927936:=by decide
  have hx1:x * 256+c.toNat<256 ^ (i+1):=by rw [Nat.pow_succ]; omega
  refine Y41.i0 ?_
  simp only [Y41.t0, ← Y41.p0.eq_1]
  refine aN (decide_eq_true (by omega)) (aT (n:=((x * 256:Nat):Int)) (by rw [aY (by omega) (by omega)]; omega) (eQ hc ?_))
  refine aT (n:=((x * 256+c.toNat:Nat):Int)) (by rw [aY (n:=(c.toNat:Int)) (by omega) (by omega),aY (by omega) (by omega)]; omega) ?_
  refine aT (n:=((i+1:Nat):Int)) (by rw [aY (by omega) (by omega)]; omega) ?_
  exact ih (i+1) _ (by omega) hx1 hq
theorem aF6 (hl:l.length≤7) (hq:Q (iN (aQ1 0 l)) h):C Y41.id [.s l] h Q:=by
 refine Y41.call ?_
 simp only [Y41.t, ← Y41.p0.eq_1]
 exact aFR hl l.length 0 0 (by omega) (by decide) (.inl hq)
theorem aLE {h0:aA} (hl:l.length≤7) (hq:Q (.s l.reverse) h0):∀ (n:Nat) (h:aA) (v:AV),n≤l.length→Tx h0 h v (l.drop n).reverse→Y45.p0 (aH h0 Q) l v ((n:Int) - 1) h:=by
 intro n
 induction n with
 | zero =>
  intro h v hn A
  refine Y45.i0 ?_
  simp only [Y45.t0]
  exact aG (decide_eq_false (by omega)) (A.ret hq)
 | succ n ih =>
  intro h v hn A
  obtain ⟨c,hc⟩:∃ c,l[n]? = some c:=⟨_,List.getElem?_eq_getElem (by omega)⟩
  refine Y45.i0 ?_
  have e1:((n+1:Nat):Int) - 1=(n:Int):=by omega
  rw [e1]
  simp only [Y45.t0, ← Y45.p0.eq_1]
  refine aN (decide_eq_true (by omega)) (eQ hc ?_)
  refine A.push (c:=c) (by rw [List.length_reverse,List.length_drop]; omega) fun v' h' A'=>?_
  refine aT (n:=(n:Int) - 1) (by rw [aY (by omega) (by omega)]) (ih h' v' (by omega) ?_)
  rw [kJ hc,List.reverse_cons]; exact A'
theorem aUG (hl:l.length≤7) (hq:Q (.s l.reverse) h):C Y45.id [.s l] h Q:=by
 refine Y45.call ?_
 simp only [Y45.t, ← Y45.p0.eq_1]
 refine aT (n:=(l.length:Int) - 1) (by rw [aY (by omega) (by omega)]) ?_
 refine aLE hl hq l.length h _ (Nat.le_refl _) ?_
 rw [List.drop_length]; exact Tx.start h
theorem qV {at' w:Nat} (hs:s.length<1099511627776) (hw:1≤w∧w≤7) (ha:at'+w≤s.length) (hq:Q (.tu [iN (bN ((s.take (at'+w)).drop at')),iN 0]) h):C Y54.id [.s s,iN at',iN w] h Q:=by
 have hpl:((s.take (at'+w)).drop at').length≤7:=by rw [List.length_drop,List.length_take]; omega
 have e1:IntKind.wrap .i64 ((at':Int)+(w:Int))=((at'+w:Nat):Int):=by rw [aY (by omega) (by omega)]; omega
 refine Y54.call ?_
 simp only [Y54.t]
 refine Y35.call ?_
 simp only [Y35.t, ← Y35.p0.eq_1]
 refine aG (decide_eq_false (by omega)) (aG (decide_eq_false (by omega)) ?_)
 rw [decide_eq_false (show ¬ (at':Int)<0 by omega)]
 refine Y35.i0 ?_
 simp only [Y35.t0, ← Y35.p1.eq_1]
 refine aG rfl (aG (decide_eq_false (by omega)) (aT (n:=((s.length - at':Nat):Int)) (by rw [aY (by omega) (by omega)]; omega) ?_))
 rw [decide_eq_false (show ¬ ((s.length - at':Nat):Int)<(w:Int) by omega)]
 refine Y35.i1 ?_
 simp only [Y35.t1]
 refine aG rfl (aT e1 (uN (by omega) ha ?_))
 refine aF6 hpl (aC (.inl ?_))
 simp only [cX,cW]
 refine aC (aC (aG rfl (aT e1 (uN (by omega) ha ?_))))
 refine aUG hpl (bM (aF6 (by rw [List.length_reverse]; exact hpl) (aC (.inl ?_))))
 rw [aPF]; exact hq
theorem aH4 {at' : Nat} (hs : s.length < 1099511627776) (hq : Q (.tu [.s (eX s at').1, iN (eX s at').2.1, .b (eX s at').2.2]) h) : ∀ (k i : Nat), i + k = s.length → at' ≤ i → gS ((s.drop at').take (i - at')) = none → Y38.p0 Q s (at' : Int) (i : Int) h := by
 intro k
 induction k with
 | zero =>
  intro i hi ha hz
  have e0:(s.drop at').take (i - at')=s.drop at':=List.take_of_length_le (by rw [List.length_drop]; omega)
  rw [e0] at hz
  rw [nT hz] at hq
  refine Y38.i0 ?_
  simp only [Y38.t0]
  refine aG (decide_eq_false (by omega)) ?_
  refine aT (n:=(at':Int)) (by unfold mmI; simp only [cond_false]; split <;> omega) ?_
  exact jF (by omega) hq
 | succ k ih =>
  intro i hi ha hz
  obtain ⟨c,hc⟩:∃ c,s[i]? = some c:=⟨_,List.getElem?_eq_getElem (by omega)⟩
  have hsplit:s.drop at'=(s.drop at').take (i - at')++s.drop i:=by
   have:s.drop i=(s.drop at').drop (i - at'):=by rw [List.drop_drop]; congr 1; omega
   rw [this,List.take_append_drop]
  have htl:((s.drop at').take (i - at')).length=i - at':=by rw [List.length_take,List.length_drop]; omega
  refine Y38.i0 ?_
  simp only [Y38.t0, ← Y38.p0.eq_1]
  refine aN (decide_eq_true (by omega)) (eQ hc ?_)
  refine aI (fun e=>?_) fun e=>?_
  ·have c0 : c = 0 := UInt8.toNat.inj (by have := of_decide_eq_true e; show c.toNat = 0; omega)
   subst c0
   have hx:gS (s.drop at')=some (i - at'):=by
    rw [hsplit,tC _ _ hz,kJ hc,htl]
    simp [gS]
   refine uN ha (by omega) ?_
   refine aT (n:=((i+1:Nat):Int)) (by rw [aY (by omega) (by omega)]; omega) ?_
   unfold eX at hq
   rw [hx] at hq
   have e2:at'+(i - at')+1=i+1:=by omega
   simp only [e2] at hq
   rw [List.drop_take]
   exact hq
  ·have c0 : ¬ c = 0 := fun h => by subst h; exact (of_decide_eq_false e) rfl
   refine aT (n:=((i+1:Nat):Int)) (by rw [aY (by omega) (by omega)]; omega) (ih (i+1) (by omega) (by omega) ?_)
   have:(s.drop at').take (i+1 - at')=(s.drop at').take (i - at')++[c]:=by
    have e3:i+1 - at'=(i - at')+1:=by omega
    rw [e3,List.take_add_one]
    have:(s.drop at')[i - at']? = some c:=by rw [List.getElem?_drop, ← hc]; congr 1; omega
    rw [this] <;> rfl
   rw [this,rC hz,if_neg c0]
theorem aJN {at':Nat} (hs:s.length<1099511627776) (ha:at'≤s.length) (hq:Q (.tu [.s (eX s at').1,iN (eX s at').2.1,.b (eX s at').2.2]) h):C Y38.id [.s s,iN at'] h Q:=by
 refine Y38.call ?_
 simp only [Y38.t, ← Y38.p0.eq_1]
 refine aH4 hs (Q:=aH h Q) (.inl hq) (s.length - at') at' (by omega) (Nat.le_refl _) ?_
 rw [Nat.sub_self] <;> rfl
def okB (s:List UInt8) (j:Nat):Bool:=match s[j]? with
 | some c=>if j<3 then dW[j]? = some c else c.toNat<32
 | none=>true
theorem aIZ:∀ s:List UInt8,dU s=(okB s 0&&okB s 1&&okB s 2&&okB s 3)
 | []=>rfl
 | [a]=>by simp [dU,okB,dW,eq_comm]
 | [a,b]=>by simp [dU,okB,dW,eq_comm,Bool.decide_and]
 | [a,b,c]=>by simp [dU,okB,dW,eq_comm,Bool.decide_and,Bool.and_assoc]
 | a :: b :: c :: d :: t=>by simp [dU,okB,dW,eq_comm,Bool.decide_and,Bool.and_assoc]
theorem jK {i : Nat} (hs : s.length < 1099511627776) (hi : i < 4) (h1 : okB s i = false → Q (.b false) h) (h2 : okB s i = true → Y13.p0 Q s ((i + 1 : Nat) : Int) h) (h3 : s.length ≤ i → Q (.b true) h) : Y13.p0 Q s (i : Int) h := by
 refine Y13.i0 ?_
 simp only [Y13.t0, ← Y13.p1.eq_1]
 refine aI (fun e=>?_) fun e=>?_
 ·have e : i < s.length := by have := of_decide_eq_true e; omega
  obtain ⟨c,hc⟩:∃ c,s[i]? = some c:=⟨_,List.getElem?_eq_getElem e⟩
  rw [decide_eq_true (show (i:Int)<4 by omega)]
  have bad:okB s i=false→Y13.p2 Q s (i:Int) true h:=fun hb=>by
   refine Y13.i2 ?_
   simp only [Y13.t2]
   exact aN rfl (h1 hb)
  have good:okB s i=true→Y13.p2 Q s (i:Int) false h:=fun hb=>by
   refine Y13.i2 ?_
   simp only [Y13.t2, ← Y13.p0.eq_1]
   exact aG rfl (aT (n:=((i+1:Nat):Int)) (by rw [aY (by omega) (by omega)]; omega) (h2 hb))
  refine Y13.i1 ?_
  simp only [Y13.t1, ← Y13.p2.eq_1]
  refine aN rfl ?_
  by_cases h3':i<3
  ·obtain ⟨m, hm⟩ : ∃ m, dW[i]? = some m := ⟨_, List.getElem?_eq_getElem (by show i < 3; exact h3')⟩
   refine aN (decide_eq_true (by omega)) (eQ hc (eQ (l:=dW) hm ?_))
   rw [aP6]
   have hok:okB s i=decide (m=c):=by unfold okB; rw [hc]; simp only; rw [if_pos h3',hm]; simp
   by_cases hcm:c=m
   ·rw [decide_eq_true hcm]
    refine aG rfl (aG (decide_eq_false (by omega)) (good ?_))
    rw [hok]; exact decide_eq_true hcm.symm
   ·rw [decide_eq_false hcm]
    refine aN rfl (bad ?_)
    rw [hok]; exact decide_eq_false fun h=>hcm h.symm
  ·have hi3 : i = 3 := by omega
   subst hi3
   refine aG (by decide) (aN (by decide) (eQ (i:=3) hc ?_))
   have hok:okB s 3=decide (c.toNat<32):=by unfold okB; rw [hc]; simp
   by_cases h32:c.toNat<32
   ·rw [decide_eq_false (show ¬ (32 : Int) ≤ (c.toNat : Int) by omega)]
    exact good (by rw [hok]; exact decide_eq_true h32)
   ·rw [decide_eq_true (show (32 : Int) ≤ (c.toNat : Int) by omega)]
    exact bad (by rw [hok]; exact decide_eq_false h32)
 ·have e : s.length ≤ i := by have := of_decide_eq_false e; omega
  refine Y13.i1 ?_
  simp only [Y13.t1]
  exact aG rfl (h3 e)
theorem eT {i j:Nat} (h:s.length≤i) (hij:i≤j):okB s j=true:=by
 unfold okB
 rw [List.getElem?_eq_none (by omega)]
theorem aL7 (hs:s.length<1099511627776) (hq:Q (.b (dU s)) h):C Y13.id [.s s] h Q:=by
 rw [aIZ] at hq
 refine Y13.call ?_
 simp only [Y13.t, ← Y13.p0.eq_1]
 refine jK (Q:=aH h Q) (i:=0) hs (by decide) (fun e=>.inl (by rw [e] at hq; exact hq)) (fun e0=>?_) fun hl=>.inl (by rw [eT hl (Nat.le_refl 0),eT hl (by decide:0≤1),eT hl (by decide:0≤2),eT hl (by decide:0≤3)] at hq; exact hq)
 refine jK (Q:=aH h Q) (i:=1) hs (by decide) (fun e=>.inl (by rw [e0,e] at hq; exact hq)) (fun e1=>?_) fun hl=>.inl (by rw [e0,eT hl (Nat.le_refl 1),eT hl (by decide:1≤2),eT hl (by decide:1≤3)] at hq; exact hq)
 refine jK (Q:=aH h Q) (i:=2) hs (by decide) (fun e=>.inl (by rw [e0,e1,e] at hq; exact hq)) (fun e2=>?_) fun hl=>.inl (by rw [e0,e1,eT hl (Nat.le_refl 2),eT hl (by decide:2≤3)] at hq; exact hq)
 refine jK (Q:=aH h Q) (i:=3) hs (by decide) (fun e=>.inl (by rw [e0,e1,e2,e] at hq; exact hq)) (fun e3=>?_) fun hl=>.inl (by rw [e0,e1,e2,eT hl (Nat.le_refl 3)] at hq; exact hq)
 rw [e0,e1,e2,e3] at hq
 refine Y13.i0 ?_
 simp only [Y13.t0, ← Y13.p1.eq_1]
 have fin:Y13.p1 (aH h Q) s ((3+1:Nat):Int) false h:=by
  refine Y13.i1 ?_
  simp only [Y13.t1]
  exact aG rfl (.inl hq)
 refine aI (fun _=>?_) fun _=>fin
 rw [decide_eq_false (by decide)]
 exact fin
end
end Go.Proofs.YtfoekpcljhbijaaGreatDoor
set_option maxRecDepth 100000
namespace Go.Proofs.YtfoekpcljhbijaaGreatDoor
open Go.GAM
def yA:Ann:=(.seq 0 [] .leaf (.seq 0 [1,2] .leaf (.seq 0 [1,2,3,4] .leaf (.seq 0 [1,2,3,4,5] .leaf (.seq 0 [1,2,3,4,5] (.seq 0 [1,2,3,4,5,31] .leaf (.br (.seq 0 [0] .leaf .leaf) .leaf)) (.seq 0 [1,2,3,4,5,7] .leaf (.seq 0 [1,2,3,4,5,7,9] .leaf (.seq 0 [0] .leaf .leaf))))))))
def aDD:Ann:=(.seq 0 [1] .leaf (.seq 0 [1] .leaf (.seq 0 [2] .leaf .leaf)))
def aBL:Ann:=(.seq 0 [1] .leaf (.seq 0 [2] .leaf .leaf))
def oS:Ann:=(.seq 0 [0,1] .leaf (.seq 0 [0,1] (.one (.seq 0 [0,1,9] .leaf (.br (.seq 0 [4,5] .leaf .leaf) (.seq 0 [0,1,12] .leaf (.br (.seq 0 [4,5] .leaf .leaf) .leaf))))) (.seq 0 [0,1,6] .leaf (.seq 0 [6] (.one (.loop 1000 [0,1,6] (.seq 0 [0,1,6] (.seq 0 [0,1,6,18] .leaf (.br .leaf .leaf)) (.one (.seq 0 [0,1,6] .leaf (.seq 0 [0,1,6] .leaf (.seq 0 [0,1,6,8] (.one (.seq 0 [0,1,6,25] .leaf (.br .leaf (.seq 0 [0,1,6,35] .leaf (.br (.seq 0 [0,1,6,8] (.ord (.neu 0 (.neu 1 (.neu 2 (.neu 3 (.neu 4 (.eff 5 (.neu 6 .done) .stop))))))) (.seq 0 [0,1,6,8] .leaf (.seq 0 [0,1,6,8,59] .leaf (.br .leaf .leaf)))) (.seq 0 [0,1,6,62] .leaf (.br (.seq 0 [0,1,6,7,8] .leaf .leaf) (.seq 0 [0,1,6,8] .leaf .leaf)))))))) (.seq 0 [0,1,6,8,78] .leaf (.br (.seq 0 [6,8] .leaf (.seq 0 [4,5] .leaf .leaf)) .leaf))))))))) (.seq 0 [4,5] .leaf .leaf)))))
def nD:Ann:=(.seq 0 [0,1] .leaf (.seq 0 [0,1] (.seq 0 [0,1,11] .leaf (.br (.seq 0 [4,5] .leaf .leaf) .leaf)) (.seq 0 [0,1] (.seq 0 [0,1,15] .leaf (.br (.seq 0 [4,5] .leaf .leaf) .leaf)) (.seq 0 [0,1,6] .leaf (.seq 0 [6] (.one (.loop 1000 [0,1,6] (.seq 0 [0,1,6] (.seq 0 [0,1,6,18] .leaf (.br .leaf .leaf)) (.one (.seq 0 [0,1,6,7,8,9] .leaf (.seq 0 [0,1,6,7,8,9] .leaf (.seq 0 [0,1,6,7,8] (.seq 0 [0,1,6,7,8,9,30] .leaf (.br (.seq 0 [6,9] .leaf (.seq 0 [4,5] .leaf .leaf)) .leaf)) (.seq 0 [0,1,6,7,8] .leaf (.seq 0 [0,1,6] (.ord (.neu 0 (.neu 1 (.neu 2 (.neu 3 (.neu 4 (.neu 5 (.neu 6 (.neu 7 (.neu 8 (.neu 9 (.neu 10 (.neu 11 (.neu 12 (.neu 13 (.neu 14 (.neu 15 (.neu 16 (.neu 17 (.neu 18 (.eff 19 .done .stop))))))))))))))))))))) (.seq 0 [0,1,6,69] .leaf (.br (.ord (.neu 0 (.neu 1 (.neu 2 (.neu 3 (.neu 4 (.neu 5 (.neu 6 (.neu 7 (.neu 8 (.eff 9 (.eff 10 (.neu 11 (.neu 12 (.eff 13 .done .stop))) .stop) .stop))))))))))) .leaf))))))))))) (.seq 0 [4,5] .leaf .leaf))))))
def nC:Ann:=(.seq 0 [0] .leaf (.seq 0 [] (.one (.seq 0 [0,3] .leaf (.br (.seq 0 [2] .leaf .leaf) (.seq 0 [0,6] .leaf (.br (.seq 0 [2] .leaf .leaf) (.seq 0 [11] .leaf (.br (.seq 0 [2] .leaf .leaf) .leaf))))))) (.seq 0 [2] .leaf .leaf)))
def mW:Ann:=(.seq 0 [0] .leaf (.seq 0 [0] (.seq 0 [0,4] .leaf (.br (.seq 0 [2] .leaf .leaf) .leaf)) (.seq 0 [0] (.seq 0 [0,8] .leaf (.br (.seq 0 [2] .leaf .leaf) .leaf)) (.seq 0 [] (.seq 0 [27] .leaf (.br (.seq 0 [2] .leaf .leaf) .leaf)) (.seq 0 [2] .leaf .leaf)))))
def aDQ:Ann:=(.seq 0 [0,3] .leaf (.seq 0 [0,6] .leaf (.seq 0 [6,7,8] .leaf (.seq 0 [6,7,8] (.seq 0 [6,7,8,21] .leaf (.br .leaf .leaf)) (.seq 0 [6,7] (.seq 0 [6,7,8,25] .leaf (.br (.seq 0 [4,5] .leaf .leaf) .leaf)) (.seq 0 [6,7,9] .leaf (.seq 0 [9] (.seq 0 [6,7,9,30,31,32] .leaf (.one (.loop 1000 [6,7,9,30,31,32] (.seq 0 [6,7,9,30,31,32,33] .leaf (.seq 0 [6,7,9,30,31,32] (.br .leaf .leaf) (.seq 0 [6,7,9,30,31,32] (.one (.seq 0 [6,7,9,10,11,30,31,32] .leaf (.seq 0 [6,7,9,10,30,31,32] .leaf .leaf))) .leaf)))))) (.seq 0 [4,5] .leaf .leaf))))))))
def aA1:Ann:=(.seq 0 [0,3] .leaf (.seq 0 [0,6] .leaf (.seq 0 [6,8] .leaf (.seq 0 [6,8] (.seq 0 [6,8,18] .leaf (.br .leaf .leaf)) (.seq 0 [6] (.seq 0 [6,8,22] .leaf (.br (.seq 0 [4,5] .leaf .leaf) .leaf)) (.seq 0 [4,5] .leaf .leaf))))))
def yV:Ann:=(.seq 0 [0,1] .leaf (.seq 0 [0,1] (.seq 0 [0,1,10] .leaf (.br (.seq 0 [4] .leaf .leaf) .leaf)) (.seq 0 [] (.seq 0 [0,1,12,13] .leaf (.one (.loop 1000 [0,1,12,13] (.seq 0 [0,1,12,13,14] .leaf (.seq 0 [0,1,12,13] (.br .leaf .leaf) (.seq 0 [0,1,12,13] (.one (.seq 0 [0,1,5,12,13] .leaf (.seq 0 [0,1,12,13,24] (.ord (.neu 0 (.neu 1 (.neu 2 (.neu 3 (.neu 4 (.neu 5 (.neu 6 (.neu 7 (.neu 8 .done)))))))))) (.br (.seq 0 [4] .leaf .leaf) .leaf)))) .leaf)))))) (.seq 0 [4] .leaf .leaf))))
def yI:Ann:=(.seq 0 [1,2] .leaf (.seq 0 [1,2] (.one (.seq 0 [1,2,10] .leaf (.br (.seq 0 [4,5] .leaf .leaf) (.seq 0 [1,2,15] .leaf (.br (.seq 0 [4,5] .leaf .leaf) (.seq 0 [1,2,19] .leaf (.br (.seq 0 [4,5] .leaf .leaf) .leaf))))))) (.seq 0 [1,2,6,7] .leaf (.seq 0 [1,2,6,7] (.seq 0 [1,2,6,7,28] .leaf (.br (.ord (.neu 2 (.neu 3 (.neu 4 (.eff 0 (.neu 1 (.neu 5 (.neu 6 .done))) .stop))))) .leaf)) (.seq 0 [1,2,6,7] .leaf (.seq 0 [2,6,7,8] (.seq 0 [2,6,7,34] .leaf (.one (.seq 0 [2,6,7,34,38] .leaf (.br .leaf (.seq 0 [2,6,7,43] .leaf (.br .leaf .leaf)))))) (.seq 0 [6,7,8,9] (.ord (.neu 0 (.neu 1 (.neu 5 (.neu 6 (.neu 7 (.neu 8 (.eff 2 (.neu 3 (.eff 4 (.eff 9 (.neu 10 (.neu 11 .done)) .stop) .stop)) .stop)))))))) (.seq 0 [4,5] .leaf .leaf))))))))
def aAK:Ann:=(.seq 0 [0] .leaf (.seq 0 [0] .leaf .leaf))
def xU:Ann:=(.seq 0 [0,3] .leaf (.seq 0 [0,6] .leaf (.seq 0 [6,7,8] .leaf (.seq 0 [7] (.one (.seq 0 [6,7,8,17] .leaf (.br (.seq 0 [4,5] .leaf .leaf) (.seq 0 [6,7,21] .leaf (.br (.seq 0 [4,5] .leaf .leaf) (.seq 0 [7,27] .leaf (.br (.seq 0 [4,5] .leaf .leaf) .leaf))))))) (.seq 0 [4,5] .leaf .leaf)))))
def vH:Ann:=(.seq 0 [0] .leaf (.seq 0 [2] .leaf .leaf))
def nV:Ann:=(.seq 0 [0,1] .leaf (.seq 0 [0] (.one (.seq 0 [0,5] .leaf (.br (.seq 0 [4] .leaf .leaf) (.seq 0 [0,9] .leaf (.br (.seq 0 [4] .leaf .leaf) .leaf))))) (.seq 0 [] .leaf (.seq 0 [4] .leaf .leaf))))
def pK:Ann:=(.seq 0 [0,1] .leaf (.seq 0 [0,1,5] .leaf (.seq 0 [0,1,5] (.ord (.neu 0 (.neu 1 (.neu 2 (.neu 3 (.neu 4 (.neu 5 (.eff 6 (.neu 7 (.eff 8 (.neu 9 (.neu 10 (.eff 11 .done .stop))) .stop)) .stop)))))))) (.seq 0 [0,1,5] .leaf (.seq 0 [0,1,5,6] .leaf (.seq 0 [0,6] (.seq 0 [0,1,5,6,32] .leaf (.one (.seq 0 [0,1,5,6,32,33] .leaf (.br (.seq 0 [0] (.seq 0 [0,42] .leaf (.br (.seq 0 [4] .leaf .leaf) .leaf)) .leaf) (.seq 0 [0,1,5,6,32,48] .leaf (.br (.seq 0 [0,1] (.seq 0 [0,1,52] .leaf (.br (.seq 0 [4] .leaf .leaf) .leaf)) .leaf) (.seq 0 [0,1,5,6,32,58] .leaf (.br .leaf (.seq 0 [0,1,5,6,32,65] .leaf (.br (.seq 0 [0] (.ord (.neu 0 (.neu 1 (.neu 2 (.neu 3 (.neu 4 (.neu 5 (.neu 6 (.neu 7 (.neu 8 (.neu 9 (.neu 10 (.neu 11 (.neu 12 (.neu 13 (.neu 14 (.neu 15 (.eff 16 .done .stop)))))))))))))))))) .leaf) (.seq 0 [0,1,5,6,32,88] .leaf (.br (.ord (.neu 0 (.neu 1 (.neu 2 (.neu 3 (.neu 4 (.neu 5 (.neu 6 (.neu 7 (.neu 8 (.neu 9 .done))))))))))) (.seq 0 [0,1,5,6,32,99] .leaf (.br (.seq 0 [0,1,6] .leaf (.seq 0 [0,1,6] (.seq 0 [0,1,6,111] .leaf (.br (.seq 0 [4] .leaf .leaf) .leaf)) (.seq 0 [0,1,6,113] .leaf (.br .leaf .leaf)))) (.seq 0 [0,1,5,6,32,124] .leaf (.br .leaf (.seq 0 [0,1,5,6,128] .leaf (.br (.seq 0 [0,1] (.seq 0 [0,1,5,134] .leaf (.br .leaf .leaf)) (.seq 0 [0] (.ord (.neu 0 (.neu 1 (.neu 2 (.neu 3 (.neu 4 (.neu 5 (.neu 6 (.neu 7 (.neu 8 (.neu 9 (.neu 10 (.neu 11 (.neu 12 (.neu 13 (.neu 14 (.neu 15 (.eff 16 .done .stop)))))))))))))))))) (.seq 0 [0,6] .leaf (.seq 0 [0,6,169] .leaf (.br (.seq 0 [4] .leaf .leaf) .leaf))))) .leaf)))))))))))))))))) (.seq 0 [] (.seq 0 [0,170] .leaf (.br .leaf .leaf)) (.seq 0 [4] .leaf .leaf))))))))
def oP:Ann:=(.seq 0 [0] .leaf (.seq 0 [0] .leaf (.seq 0 [0] (.ord (.neu 0 (.neu 1 (.neu 2 (.neu 3 (.neu 4 (.neu 5 (.neu 6 (.neu 7 (.neu 8 (.neu 9 (.neu 10 (.eff 11 (.eff 12 (.neu 13 (.neu 14 (.eff 15 .done .stop))) .stop) .stop))))))))))))) .leaf)))
def lN:Ann:=(.seq 0 [0,1,5] .leaf (.seq 0 [0,4,5,6] .leaf (.seq 0 [0,4,5,6] .leaf (.seq 0 [0,4,5,6] .leaf (.seq 0 [0,4,5,6] .leaf (.seq 0 [0,4,5,6] (.ord (.neu 0 (.neu 1 (.neu 2 (.neu 3 (.neu 4 (.neu 5 (.neu 6 (.neu 7 (.neu 8 (.neu 9 (.neu 10 (.neu 11 (.neu 12 (.neu 13 (.neu 14 (.neu 15 (.eff 16 .done .stop)))))))))))))))))) (.seq 0 [4,5,6] (.seq 0 [0,4,5,6,69] .leaf (.br (.seq 0 [0,4,5,6] .leaf .leaf) .leaf)) (.seq 0 [4,5,6] .leaf .leaf))))))))
def gG:Ann:=(.seq 0 [0,1] .leaf (.seq 0 [0,1] .leaf (.seq 0 [1] .leaf (.seq 0 [4,5] .leaf .leaf))))
def qE:Ann:=(.seq 0 [0,1] .leaf (.seq 0 [0] (.ord (.neu 0 (.neu 1 (.neu 2 (.neu 3 (.neu 4 (.eff 5 (.neu 6 (.neu 7 (.neu 8 (.neu 9 (.eff 10 .done .stop))))) .stop))))))) (.seq 0 [] (.seq 0 [0,23] .leaf (.one (.seq 0 [0,23,24] .leaf (.br (.seq 0 [0,5] .leaf (.seq 0 [40] .leaf (.br (.seq 0 [4] .leaf .leaf) .leaf))) (.seq 0 [0,41] .leaf (.br (.seq 0 [0] (.seq 0 [0,7] .leaf (.seq 0 [0,56] .leaf (.br (.seq 0 [4] .leaf .leaf) .leaf))) .leaf) .leaf)))))) (.seq 0 [4] .leaf .leaf))))
def kD:Ann:=(.seq 0 [0] .leaf (.seq 0 [2] (.ord (.neu 0 (.neu 1 (.neu 2 (.neu 3 (.neu 5 (.neu 6 (.neu 7 (.neu 8 (.neu 9 (.eff 4 (.eff 10 (.neu 11 .done) .stop) .stop))))))))))) .leaf))
def nP:Ann:=(.seq 0 [0,1] .leaf (.seq 0 [0,1] (.seq 0 [0,1,21] .leaf (.br (.seq 0 [0,1,7,8] .leaf (.seq 0 [0,1,7,8] .leaf (.seq 0 [0,1,7,8] .leaf (.seq 0 [0,1,7,8] .leaf (.seq 0 [0,1,7,8] (.ord (.neu 0 (.neu 1 (.neu 2 (.neu 3 (.neu 4 (.neu 5 (.neu 6 (.neu 7 (.neu 8 (.neu 9 (.neu 10 (.neu 11 (.neu 12 (.neu 13 (.neu 14 (.neu 15 (.neu 16 (.neu 17 (.neu 18 (.neu 19 (.neu 20 (.neu 21 (.neu 22 (.neu 23 (.neu 24 (.neu 25 (.neu 26 (.eff 27 .done .stop))))))))))))))))))))))))))))) (.seq 0 [4,5,6] .leaf .leaf)))))) .leaf)) (.seq 0 [4,5,6] .leaf .leaf)))
def pN:Ann:=(.seq 0 [0,1] .leaf (.seq 0 [4] .leaf .leaf))
def sG:Ann:=(.seq 0 [0] .leaf (.seq 0 [0,3] .leaf (.one (.loop 1000 [0,3] (.one (.seq 0 [0,3,4] .leaf (.seq 0 [0,3,4,5] .leaf (.seq 0 [0,3,4,5] (.seq 0 [0,3,4,5,12] .leaf (.br .leaf .leaf)) (.seq 0 [0,3,4,5] .leaf (.seq 0 [0,3,4,5] .leaf (.seq 0 [0,3,5] .leaf (.seq 0 [0,3,36] .leaf (.br (.seq 0 [2] .leaf .leaf) .leaf)))))))))))))
def uU:Ann:=(.seq 0 [0] .leaf (.seq 0 [0,3] .leaf (.seq 0 [0,3] .leaf (.seq 0 [0,3,4,5] .leaf (.seq 0 [3] .leaf (.seq 0 [2] .leaf .leaf))))))
def rR:Ann:=(.seq 0 [0] .leaf (.seq 0 [3] .leaf (.seq 0 [3,4,5] (.ord (.eff 0 (.neu 2 (.eff 1 (.neu 3 .done) .stop)) (.eff 1 (.eff 0 (.neu 2 (.neu 3 .done)) .stop) .stop))) (.seq 0 [3,4,5] .leaf (.seq 0 [3,4,5] (.seq 0 [3,4,5,30,31,32] .leaf (.one (.loop 1000 [3,4,5,30,31,32] (.seq 0 [3,4,5,30,31,32,33] .leaf (.seq 0 [3,4,5,30,31,32] (.br .leaf .leaf) (.seq 0 [3,4,5,30,31,32] (.one (.seq 0 [3,4,5,7,30,31,32] .leaf (.seq 0 [3,4,5,7,30,31,32,38] .leaf (.br .leaf (.seq 0 [3,4,5,7,30,31,32] .leaf .leaf))))) .leaf)))))) (.seq 0 [3,8,9] .leaf (.seq 0 [3,8,9,10,11] .leaf (.seq 0 [3,8,9,10,11,12] .leaf (.seq 0 [3,8,9,10,11,12,13] .leaf (.seq 0 [3,8,9,10,11,12,13] (.seq 0 [3,8,9,10,11,12,13,77,78,79] .leaf (.one (.loop 1001 [3,8,9,10,11,12,13,77,78,79] (.seq 0 [3,8,9,10,11,12,13,77,78,79,80] .leaf (.seq 0 [3,8,9,10,11,12,13,77,78,79] (.br .leaf .leaf) (.seq 0 [3,8,9,10,11,12,13,77,78,79] (.one (.seq 0 [3,8,9,10,11,12,13,15,77,78,79] .leaf .leaf)) .leaf)))))) (.seq 0 [3,8,9,10,11,12,16] .leaf (.seq 0 [3,8,9,10,11,12,16,17] .leaf (.seq 0 [3,8,9,10,11,12,16,17] (.one (.loop 1002 [3,8,9,10,11,12,16,17] (.seq 0 [3,8,9,10,11,12,16,17] (.seq 0 [3,8,9,10,11,12,16,17,104] .leaf (.br .leaf .leaf)) (.one .leaf)))) (.seq 0 [3,8,9,10,11,12,16,17,18] .leaf (.seq 0 [3,8,9,10,11,12,16,17,18] .leaf (.seq 0 [3,8,9,11,12,16,17,18] .leaf (.seq 0 [3,8,9,12,16,17,18] .leaf (.seq 0 [3,8,9,12,16,17,18] .leaf (.seq 0 [3,8,9,12,16,18] (.seq 0 [3,8,9,12,16,18,126,127,128] .leaf (.one (.loop 1003 [3,8,9,12,16,18,126,127,128] (.seq 0 [3,8,9,12,16,18,126,127,128,129] .leaf (.seq 0 [3,8,9,12,16,18,126,127,128] (.br .leaf .leaf) (.seq 0 [3,8,9,12,16,18,126,127,128] (.one (.seq 0 [3,8,9,12,16,18,20,126,127,128] .leaf .leaf)) .leaf)))))) (.seq 0 [3,8,9,12,16,18,21] .leaf (.seq 0 [3,8,9,18] (.seq 0 [3,8,9,16,18,21,141,142,143] .leaf (.one (.loop 1004 [3,8,9,16,18,21,141,142,143] (.seq 0 [3,8,9,16,18,21,141,142,143,144] .leaf (.seq 0 [3,8,9,16,18,21,141,142,143] (.br .leaf .leaf) (.seq 0 [3,8,9,16,18,21,141,142,143] (.one (.seq 0 [3,8,9,16,18,21,23,141,142,143] .leaf (.seq 0 [3,8,9,16,18,21,23,141,142,143] .leaf .leaf))) .leaf)))))) (.seq 0 [18] .leaf (.seq 0 [2] .leaf .leaf)))))))))))))))))))))))
def rF:Ann:=(.seq 0 [0,1] .leaf (.seq 0 [5] .leaf (.seq 0 [5] .leaf (.seq 0 [4] .leaf .leaf))))
def yF:Ann:=(.seq 0 [1] .leaf (.seq 0 [3] (.ord (.neu 0 (.neu 1 (.neu 3 (.neu 4 (.eff 2 (.eff 5 (.neu 6 (.neu 7 (.eff 8 (.neu 9 .done) .stop))) .stop) .stop)))))) (.seq 0 [3] .leaf (.seq 0 [2] .leaf .leaf))))
def lZ:Ann:=(.seq 0 [0,1] .leaf (.seq 0 [0,1] (.one (.seq 0 [0,1,9] .leaf (.br (.seq 0 [4,5] .leaf .leaf) (.seq 0 [0,1,12] .leaf (.br (.seq 0 [4,5] .leaf .leaf) .leaf))))) (.seq 0 [0,1] .leaf (.seq 0 [0] (.seq 0 [0,1,27,28] .leaf (.one (.loop 1000 [0,1,27,28] (.seq 0 [0,1,27,28,29] .leaf (.seq 0 [0,1,27,28] (.br .leaf .leaf) (.seq 0 [0,1,27,28] (.one (.seq 0 [0,1,6,27,28] .leaf (.seq 0 [0,1,6,27,28] .leaf (.seq 0 [0,1,6,27,28] .leaf (.seq 0 [0,1,6,27,28] (.seq 0 [0,1,6,7,27,28] .leaf (.one (.loop 1001 [0,1,6,7,27,28] (.seq 0 [0,1,6,7,27,28] (.seq 0 [0,1,6,7,27,28,56] .leaf (.br .leaf .leaf)) (.seq 0 [0,1,6,7,27,28] (.one (.seq 0 [0,1,6,7,8,27,28] .leaf (.seq 0 [0,1,6,7,8,27,28,69] .leaf (.br (.seq 0 [0,8] .leaf (.seq 0 [4,5] .leaf .leaf)) .leaf)))) .leaf))))) (.seq 0 [0,1,6,27,28,82] .leaf (.br (.seq 0 [0] .leaf .leaf) .leaf))))))) .leaf)))))) (.seq 0 [4,5] .leaf .leaf)))))
def oC:Ann:=(.seq 0 [0,1] .leaf (.seq 0 [0,1,5] .leaf (.seq 0 [1,5,6] .leaf (.seq 0 [6] (.seq 0 [1,5,6,12,13] .leaf (.one (.loop 1000 [1,5,6,12,13] (.seq 0 [1,5,6,12,13,14] .leaf (.seq 0 [1,5,6,12,13] (.br .leaf .leaf) (.seq 0 [1,5,6,12,13] (.one (.seq 0 [1,5,6,7,12,13] .leaf .leaf)) .leaf)))))) (.seq 0 [4] .leaf .leaf)))))
def pB:Ann:=(.seq 0 [0] .leaf (.seq 0 [0] .leaf .leaf))
def lT:Ann:=(.seq 0 [0] .leaf (.seq 0 [2] .leaf .leaf))
def lJ:Ann:=(.seq 0 [0] .leaf (.seq 0 [0] (.seq 0 [0,4] .leaf (.br (.seq 0 [2] .leaf .leaf) .leaf)) (.seq 0 [2] .leaf .leaf)))
def iP:Ann:=(.seq 0 [0,6] .leaf (.br .leaf (.seq 0 [19] .leaf (.br .leaf .leaf))))
def rM:Ann:=(.seq 0 [0,1,2] .leaf (.seq 0 [0,1,2] (.seq 0 [0,1,2,29] .leaf (.br .leaf .leaf)) (.seq 0 [8,9] .leaf (.seq 0 [8,9] .leaf (.seq 0 [6,7] .leaf .leaf)))))
def m6:Ann:=(.seq 0 [0] .leaf (.seq 0 [2] .leaf .leaf))
def m0:Ann:=(.seq 0 [0,1] .leaf (.seq 0 [0,1] (.seq 0 [0,1,19] .leaf (.br (.seq 0 [4,5] .leaf .leaf) .leaf)) (.seq 0 [0] .leaf (.seq 0 [0,6,7,8] (.ord (.neu 0 (.neu 1 (.neu 2 (.neu 3 (.neu 4 (.neu 5 (.neu 6 (.neu 7 (.eff 8 (.neu 9 (.neu 10 (.neu 11 (.neu 12 (.neu 13 (.neu 14 (.neu 15 .done))))))) .stop)))))))))) (.seq 0 [0,6,7,8,9] .leaf (.seq 0 [0,7,8,9] .leaf (.seq 0 [0,7,8,9] (.seq 0 [0,7,8,9,54] .leaf (.br (.seq 0 [4,5] .leaf .leaf) .leaf)) (.seq 0 [0,8,9] (.seq 0 [0,7,8,9,57] .leaf (.br (.seq 0 [7,9] .leaf (.seq 0 [4,5] .leaf .leaf)) .leaf)) (.seq 0 [0,8,9] .leaf (.seq 0 [9] .leaf (.seq 0 [4,5] .leaf .leaf)))))))))))
def rQ:Ann:=(.seq 0 [0,1] .leaf (.seq 0 [1,5] .leaf (.seq 0 [5] (.seq 0 [1,5,6] .leaf (.one (.loop 1000 [1,5,6] (.seq 0 [1,5,6] (.seq 0 [1,5,6,14] .leaf (.br .leaf .leaf)) (.seq 0 [1,5,6] (.one (.seq 0 [1,5,6] .leaf (.seq 0 [1,5,6,7] .leaf (.one (.loop 1001 [1,5,6,7] (.seq 0 [1,5,6,7] (.seq 0 [1,5,6,7,24] .leaf (.br .leaf .leaf)) (.seq 0 [1,5,6,7] (.one (.seq 0 [1,5,6,7,8] .leaf (.seq 0 [1,5,6,7,8] .leaf (.seq 0 [1,5,6,7,32] .leaf (.br .leaf .leaf))))) .leaf))))))) .leaf))))) (.seq 0 [4] .leaf .leaf))))
def m7:Ann:=(.seq 0 [0] .leaf (.seq 0 [2] .leaf .leaf))
def oR:Ann:=(.seq 0 [0,1] .leaf (.seq 0 [0,1] .leaf (.seq 0 [0,1] (.seq 0 [0,1,19] .leaf (.br (.seq 0 [0,1] (.seq 0 [0,1,36] .leaf (.br (.seq 0 [4] .leaf .leaf) .leaf)) (.seq 0 [0] .leaf (.seq 0 [0,5,6,7] .leaf (.seq 0 [7] (.seq 0 [0,5,7,59] .leaf (.br (.seq 0 [0,7] .leaf (.seq 0 [0,7] (.ord (.neu 0 (.neu 1 (.neu 2 (.neu 3 (.neu 4 (.neu 5 (.neu 6 (.neu 7 (.neu 8 (.neu 9 (.eff 10 (.neu 11 (.neu 12 (.eff 13 .done .stop))) .stop)))))))))))) .leaf)) .leaf)) (.seq 0 [4] .leaf .leaf))))) .leaf)) (.seq 0 [0] .leaf (.seq 0 [0] (.seq 0 [0,102] .leaf (.br (.seq 0 [0,8] .leaf (.seq 0 [0,117] .leaf (.br (.seq 0 [4] .leaf .leaf) .leaf))) .leaf)) (.seq 0 [] (.seq 0 [0,123] .leaf (.br (.seq 0 [0,10] .leaf (.seq 0 [0] (.seq 0 [0,137] .leaf (.br (.seq 0 [4] .leaf .leaf) .leaf)) (.seq 0 [0] .leaf (.seq 0 [0] .leaf (.seq 0 [0] .leaf .leaf))))) .leaf)) (.seq 0 [4] .leaf .leaf)))))))
def uQ:Ann:=(.seq 0 [0,1] .leaf (.seq 0 [4] .leaf .leaf))
def oD:Ann:=(.seq 0 [0,1] .leaf (.seq 0 [0,1] .leaf (.seq 0 [0,1,6,7] .leaf (.seq 0 [0,1,6] (.seq 0 [0,1,6,19] .leaf (.br .leaf .leaf)) (.seq 0 [4,5] .leaf .leaf)))))
def iX:Ann:=(.seq 0 [0,1] .leaf (.seq 0 [0,1] .leaf (.seq 0 [0,1,6,7] .leaf (.seq 0 [0,1,6] (.seq 0 [0,1,6,19] .leaf (.br .leaf .leaf)) (.seq 0 [4,5] .leaf .leaf)))))
def mZ:Ann:=(.seq 0 [0] .leaf (.seq 0 [0] (.seq 0 [0,4] .leaf (.br (.seq 0 [2] .leaf .leaf) .leaf)) (.seq 0 [2] (.ord (.neu 0 (.neu 1 (.neu 2 (.neu 3 (.neu 4 (.neu 5 (.neu 6 (.neu 7 (.neu 8 (.neu 9 (.neu 10 .done)))))))))))) .leaf)))
def kQ:Ann:=(.seq 0 [0,1,7,8] .leaf (.one (.loop 1000 [0,1,7,8] (.seq 0 [0,1,7,8,9] .leaf (.seq 0 [0,1,7,8] (.br .leaf .leaf) (.seq 0 [0,1,7,8] (.one (.seq 0 [0,1,6,7,8] .leaf (.seq 0 [0,1,6,7,8] (.seq 0 [0,1,6,7,8,15] .leaf (.br (.seq 0 [0,1,6,7,8] .leaf .leaf) .leaf)) (.seq 0 [0,1,7,8] (.ord (.neu 0 (.neu 1 (.neu 2 (.neu 3 (.neu 4 (.neu 5 (.neu 6 (.neu 7 (.neu 8 (.neu 9 (.neu 10 (.neu 11 (.neu 12 (.neu 13 (.neu 14 (.neu 15 (.neu 16 (.neu 17 (.neu 18 (.neu 19 (.neu 20 (.neu 21 (.neu 22 (.neu 23 (.neu 24 (.eff 25 .done .stop))))))))))))))))))))))))))) .leaf)))) .leaf))))))
def lS:Ann:=(.seq 0 [0] .leaf (.seq 0 [0] (.seq 0 [0,3] .leaf (.one (.loop 1000 [0,3] (.seq 0 [0,3,4] .leaf (.seq 0 [0,3] (.br .leaf .leaf) (.seq 0 [0,3] (.one (.seq 0 [0,2,3] .leaf (.one (.seq 0 [0,2,3,9] .leaf (.br .leaf (.seq 0 [0,3,19] .leaf (.br .leaf .leaf))))))) .leaf)))))) (.seq 0 [0,1] .leaf .leaf)))
def lX:Ann:=(.seq 0 [0,1,2,3,8,9] .leaf (.seq 0 [0,2,8] (.seq 0 [0,2,3,8,9,19,20,21] .leaf (.one (.loop 1000 [0,2,3,8,9,19,20,21] (.seq 0 [0,2,3,8,9,19,20,21,22] .leaf (.seq 0 [0,2,3,8,9,19,20,21] (.br .leaf .leaf) (.seq 0 [0,2,3,8,9,19,20,21] (.one (.seq 0 [0,2,3,8,9,11,19,20,21] .leaf (.seq 0 [0,2,3,8,9,11,19,20,21] (.seq 0 [0,2,3,8,9,11,19,20,21,27] .leaf (.br (.seq 0 [0,2,3,8,9,19,20,21] .leaf .leaf) .leaf)) (.seq 0 [0,2,3,8,9,11,12,19,20,21] .leaf (.seq 0 [0,2,3,8,9,11,12,13,14,19,20,21] .leaf (.seq 0 [0,2,3,8,9,11,13,14,19,20,21] .leaf (.seq 0 [0,2,3,8,9,11,19,20,21] .leaf (.seq 0 [0,2,3,8,9,11,12,19,20,21] .leaf (.seq 0 [0,2,3,8,9,11,12,13,14,19,20,21] .leaf (.seq 0 [0,2,3,8,9,11,13,14,19,20,21] .leaf .leaf)))))))))) .leaf)))))) .leaf))
def tD:Ann:=(.seq 0 [1] .leaf (.seq 0 [1,3] .leaf (.seq 0 [1,3,4] .leaf (.seq 0 [1,3,4,5] .leaf (.seq 0 [3] (.seq 0 [1,3,4,5,6] .leaf (.one (.loop 1000 [1,3,4,5,6] (.seq 0 [1,3,4,5,6] (.seq 0 [1,3,4,5,6,13] .leaf (.br .leaf .leaf)) (.one (.seq 0 [1,3,4,5,6,7] .leaf (.seq 0 [1,3,4,5,6,7] (.seq 0 [1,3,4,5,6,7,22] .leaf (.br (.ord (.neu 0 (.neu 1 (.neu 2 (.neu 3 (.neu 4 (.neu 5 (.neu 6 (.neu 7 (.neu 8 (.eff 9 (.neu 10 (.neu 11 (.neu 12 (.neu 13 (.eff 14 (.neu 15 (.eff 16 .done .stop)) .stop))))) .stop))))))))))) .leaf)) (.seq 0 [1,3,4,5,6,7] .leaf (.seq 0 [1,3,4,5,6,44,45] .leaf (.one (.loop 1001 [1,3,4,5,6,44,45] (.seq 0 [1,3,4,5,6,44,45,46] .leaf (.seq 0 [1,3,4,5,6,44,45] (.br .leaf .leaf) (.seq 0 [1,3,4,5,6,44,45] (.one (.seq 0 [1,3,4,5,6,44,45] .leaf .leaf)) .leaf)))))))))))))) (.seq 0 [2] .leaf .leaf))))))
def lV:Ann:=(.seq 0 [0] .leaf (.seq 0 [0] (.seq 0 [0,8] .leaf (.br (.seq 0 [2] .leaf .leaf) .leaf)) (.seq 0 [0,3] .leaf (.seq 0 [3] (.seq 0 [0,3,4] .leaf (.one (.loop 1000 [0,3,4] (.seq 0 [0,3,4] (.seq 0 [0,3,4,10] .leaf (.br .leaf .leaf)) (.seq 0 [0,3,4] (.one (.seq 0 [0,3,4,5] .leaf (.seq 0 [0,3,4,20] .leaf (.br .leaf .leaf)))) .leaf))))) (.seq 0 [2] .leaf .leaf)))))
def kO:Ann:=(.seq 0 [0] .leaf (.seq 0 [0,3] .leaf (.seq 0 [3] (.seq 0 [0,3,7] .leaf (.one (.loop 1000 [0,3,7] (.seq 0 [0,3,7,8] .leaf (.seq 0 [0,3,7] (.br .leaf .leaf) (.seq 0 [0,3,7] (.one (.seq 0 [0,3,4,7] .leaf (.seq 0 [0,3,4,5,7] .leaf (.seq 0 [0,3,4,7,17] .leaf (.br .leaf .leaf))))) .leaf)))))) (.seq 0 [2] .leaf .leaf))))
def rK:Ann:=(.seq 0 [0,1] .leaf (.seq 0 [0,1] .leaf (.seq 0 [0,1,5] .leaf (.seq 0 [0,1,5] (.seq 0 [0,1,5,23,24,25] .leaf (.one (.loop 1000 [0,1,5,23,24,25] (.seq 0 [0,1,5,23,24,25,26] .leaf (.seq 0 [0,1,5,23,24,25] (.br .leaf .leaf) (.seq 0 [0,1,5,23,24,25] (.one (.seq 0 [0,1,5,6,7,23,24,25] .leaf (.seq 0 [0,1,5,6,7,23,24,25,31] .leaf (.br .leaf .leaf)))) .leaf)))))) (.seq 0 [0,1,5,8] .leaf (.seq 0 [0,1,5,8] (.seq 0 [0,1,5,8,51] .leaf (.br (.seq 0 [4] .leaf .leaf) .leaf)) (.seq 0 [1,5,8,9] .leaf (.seq 0 [1,5,8,9] (.seq 0 [1,5,8,9,56] .leaf (.br (.seq 0 [9] (.seq 0 [9,57,58,59] .leaf (.one (.loop 1001 [9,57,58,59] (.seq 0 [9,57,58,59,60] .leaf (.seq 0 [9,57,58,59] (.br .leaf .leaf) (.seq 0 [9,57,58,59] (.one (.seq 0 [9,11,57,58,59] .leaf .leaf)) .leaf)))))) (.seq 0 [4] .leaf .leaf)) .leaf)) (.seq 0 [1,8,9,12] .leaf (.seq 0 [1,5,8,9,12] .leaf (.seq 0 [8,9,12] (.seq 0 [5,8,9,12,78,79] .leaf (.one (.loop 1002 [5,8,9,12,78,79] (.seq 0 [5,8,9,12,78,79,80] .leaf (.seq 0 [5,8,9,12,78,79] (.br .leaf .leaf) (.seq 0 [5,8,9,12,78,79] (.one (.seq 0 [5,8,9,12,13,78,79] .leaf (.seq 0 [5,8,9,13,78,79] (.seq 0 [5,8,9,12,13,14,78,79] .leaf (.one (.loop 1003 [5,8,9,12,13,14,78,79] (.seq 0 [5,8,9,12,13,14,78,79] (.seq 0 [5,8,9,12,13,14,78,79,91] .leaf (.br .leaf .leaf)) (.seq 0 [5,8,9,12,13,14,78,79] (.one (.seq 0 [5,8,9,12,13,14,15,16,78,79] (.ord (.neu 0 (.neu 1 (.neu 2 (.neu 3 (.neu 4 (.neu 5 (.neu 6 (.neu 7 (.neu 8 (.neu 9 (.neu 10 (.neu 11 (.neu 12 (.neu 13 (.neu 14 (.eff 15 (.eff 16 (.eff 17 (.eff 18 .done .stop) .stop) .stop) (.eff 16 (.eff 15 (.eff 17 (.eff 18 .done .stop) .stop) .stop) .stop)))))))))))))))))) (.ord (.neu 0 (.neu 1 (.neu 2 (.neu 3 (.neu 4 (.neu 5 (.neu 7 (.neu 8 (.neu 10 (.neu 11 (.eff 6 (.eff 9 (.eff 12 (.neu 13 (.eff 14 (.eff 15 (.eff 16 .done .stop) .stop) .stop)) .stop) .stop) .stop)))))))))))))) .leaf))))) .leaf))) .leaf)))))) (.seq 0 [9] (.seq 0 [9,135,136,137] .leaf (.one (.loop 1004 [9,135,136,137] (.seq 0 [9,135,136,137,138] .leaf (.seq 0 [9,135,136,137] (.br .leaf .leaf) (.seq 0 [9,135,136,137] (.one (.seq 0 [9,18,135,136,137] .leaf (.seq 0 [9,135,136,137,142,143,144] .leaf (.one (.loop 1005 [9,135,136,137,142,143,144] (.seq 0 [9,135,136,137,142,143,144,145] .leaf (.seq 0 [9,135,136,137,142,143,144] (.br .leaf .leaf) (.seq 0 [9,135,136,137,142,143,144] (.one (.seq 0 [9,20,135,136,137,142,143,144] .leaf .leaf)) .leaf)))))))) .leaf)))))) (.seq 0 [4] .leaf .leaf)))))))))))))
def rL:Ann:=(.seq 0 [0,1] .leaf (.seq 0 [0] (.one (.loop 1000 [0,1] (.seq 0 [0,1] (.seq 0 [0,1,17] .leaf (.br .leaf .leaf)) (.one .leaf)))) (.seq 0 [4] .leaf .leaf)))
def wJ:Ann:=(.seq 0 [0] .leaf (.seq 0 [0,3] .leaf (.seq 0 [3] (.seq 0 [0,3,4] .leaf (.one (.loop 1000 [0,3,4] (.seq 0 [0,3,4] (.seq 0 [0,3,4,9] .leaf (.br .leaf .leaf)) (.one (.seq 0 [0,3,4,5] .leaf (.seq 0 [0,3,4,5] (.one (.loop 1001 [0,3,4,5] (.seq 0 [0,3,4,5] (.seq 0 [0,3,4,5,28] (.ord (.neu 0 (.neu 1 (.neu 2 (.neu 3 (.neu 4 (.neu 5 (.neu 6 (.neu 7 (.neu 8 (.neu 9 (.neu 10 (.neu 11 (.neu 12 (.neu 13 (.neu 14 (.neu 15 (.neu 16 (.neu 17 (.neu 18 .done)))))))))))))))))))) (.br .leaf .leaf)) (.one .leaf)))) (.seq 0 [0,3,4,5] (.one (.seq 0 [0,3,4,5,39] .leaf (.br (.seq 0 [0,3,4,5] .leaf .leaf) (.seq 0 [0,3,4,5,57] .leaf (.br .leaf (.seq 0 [0,3,4,5,73] .leaf (.br (.seq 0 [0,3,4,5] .leaf .leaf) (.seq 0 [0,3,4,5] .leaf .leaf)))))))) .leaf)))))))) (.seq 0 [2] .leaf .leaf))))
def iR:Ann:=(.seq 0 [0] .leaf (.seq 0 [0,3] .leaf (.seq 0 [0,3] (.seq 0 [0,3,9,10,11] .leaf (.one (.loop 1000 [0,3,9,10,11] (.seq 0 [0,3,9,10,11,12] .leaf (.seq 0 [0,3,9,10,11] (.br .leaf .leaf) (.seq 0 [0,3,9,10,11] (.one (.seq 0 [0,3,5,9,10,11] .leaf (.seq 0 [0,3,9,10,11] .leaf (.seq 0 [0,3,9,10,11,20] .leaf (.br .leaf .leaf))))) .leaf)))))) (.seq 0 [0,6] .leaf (.seq 0 [6] (.seq 0 [6,25,26,27] .leaf (.one (.loop 1001 [6,25,26,27] (.seq 0 [6,25,26,27,28] .leaf (.seq 0 [6,25,26,27] (.br .leaf .leaf) (.seq 0 [6,25,26,27] (.one (.seq 0 [6,8,25,26,27] .leaf .leaf)) .leaf)))))) (.seq 0 [2] .leaf .leaf))))))
def uS:Ann:=(.seq 0 [0] .leaf (.seq 0 [0] (.seq 0 [0,3] .leaf (.seq 0 [0,15] .leaf (.br (.seq 0 [2] .leaf .leaf) .leaf))) (.seq 0 [0,4] .leaf (.seq 0 [0,4,5] .leaf (.seq 0 [5] (.seq 0 [4,5,22,23,24] .leaf (.one (.loop 1000 [4,5,22,23,24] (.seq 0 [4,5,22,23,24,25] .leaf (.seq 0 [4,5,22,23,24] (.br .leaf .leaf) (.seq 0 [4,5,22,23,24] (.one (.seq 0 [4,5,6,7,22,23,24] .leaf (.seq 0 [4,5,6,7,22,23,24,30] .leaf (.br (.seq 0 [4,5,7,22,23,24] .leaf .leaf) .leaf)))) .leaf)))))) (.seq 0 [2] .leaf .leaf))))))
def mQ:Ann:=(.seq 0 [0,1,3,8] .leaf (.one (.loop 1000 [0,1,3,8] (.seq 0 [0,1,3,8] (.seq 0 [0,1,3,8,15] .leaf (.br .leaf .leaf)) (.seq 0 [0,1,3,8] (.one .leaf) .leaf)))))
def aAZ:Ann:=(.seq 0 [0,1] .leaf (.seq 0 [0,1] (.seq 0 [0,1,20] .leaf (.br (.seq 0 [4] .leaf .leaf) .leaf)) (.seq 0 [0,1,5] .leaf (.seq 0 [5] (.seq 0 [0,1,5,23,24] .leaf (.one (.loop 1000 [0,1,5,23,24] (.seq 0 [0,1,5,23,24,25] .leaf (.seq 0 [0,1,5,23,24] (.br .leaf .leaf) (.seq 0 [0,1,5,23,24] (.one (.seq 0 [0,1,5,6,23,24] .leaf .leaf)) .leaf)))))) (.seq 0 [4] .leaf .leaf)))))
def gI:Ann:=(.seq 0 [0,2,3] .leaf (.one (.loop 1000 [0,2,3] (.seq 0 [0,2,3] (.seq 0 [0,2,3,9] .leaf (.br .leaf .leaf)) (.seq 0 [0,2,3] (.one (.ord (.neu 0 (.neu 1 (.neu 2 (.neu 3 (.neu 4 (.neu 5 (.neu 6 (.neu 7 (.neu 8 (.neu 9 (.neu 10 (.neu 11 (.neu 12 (.eff 13 (.neu 14 (.eff 15 .done .stop)) .stop)))))))))))))))) .leaf)))))
def sZ:Ann:=(.seq 0 [0,1,2] .leaf (.seq 0 [6] .leaf .leaf))
def kU:Ann:=(.seq 0 [1] .leaf (.seq 0 [1] (.seq 0 [1,6] .leaf (.br (.seq 0 [] .leaf (.seq 0 [2] .leaf .leaf)) .leaf)) (.seq 0 [2] .leaf .leaf)))
def mE:Ann:=(.seq 0 [0,1] .leaf (.one (.seq 0 [0,1] .leaf (.seq 0 [0,5] (.seq 0 [0,1,14] .leaf (.br (.seq 0 [0,6,7,8] .leaf (.seq 0 [0,6,7] (.seq 0 [0,6,7,26] .leaf (.br (.seq 0 [4] .leaf .leaf) .leaf)) (.seq 0 [0,6] (.seq 0 [0,6,28] .leaf (.br (.seq 0 [4] .leaf .leaf) .leaf)) .leaf))) (.seq 0 [0] (.ord (.neu 0 (.neu 1 (.neu 2 (.neu 3 (.neu 4 (.neu 5 (.neu 6 (.neu 7 (.neu 8 (.neu 9 (.neu 10 (.neu 11 (.neu 12 (.eff 13 .done .stop))))))))))))))) (.seq 0 [0] .leaf (.seq 0 [0] (.seq 0 [0,58] (.ord (.neu 0 (.neu 1 (.neu 2 (.neu 3 (.neu 4 (.neu 5 (.neu 6 (.neu 7 (.neu 8 .done)))))))))) (.br (.seq 0 [4] .leaf .leaf) .leaf)) .leaf))))) (.seq 0 [0,5] .leaf (.seq 0 [0] (.seq 0 [0,9] .leaf (.seq 0 [0,9,76] .leaf (.br (.seq 0 [4] .leaf .leaf) .leaf))) (.seq 0 [] (.seq 0 [0,89] .leaf (.br (.seq 0 [0,5] .leaf .leaf) .leaf)) (.seq 0 [4] .leaf .leaf))))))))
def sF:Ann:=(.seq 0 [0] .leaf (.seq 0 [0,1] .leaf (.seq 0 [0,1] (.seq 0 [0,1,5] .leaf (.one (.loop 1000 [0,1,5] (.seq 0 [0,1,5,6] .leaf (.seq 0 [0,1,5] (.br .leaf .leaf) (.seq 0 [0,1,5] (.one (.seq 0 [0,1,2,5] .leaf (.seq 0 [0,1,2,3,5] .leaf (.seq 0 [0,1,2,3,5] (.seq 0 [0,1,2,3,5,10] .leaf (.one (.loop 1001 [0,1,2,3,5,10] (.seq 0 [0,1,2,3,5,10,11] .leaf (.seq 0 [0,1,2,3,5,10] (.br .leaf .leaf) (.seq 0 [0,1,2,3,5,10] (.one (.seq 0 [0,1,2,3,4,5,10] .leaf (.seq 0 [0,1,2,3,4,5,10] .leaf (.seq 0 [0,1,2,3,5,10,17] .leaf (.br .leaf .leaf))))) .leaf)))))) .leaf)))) .leaf)))))) (.seq 0 [0] .leaf .leaf))))
def pP:Ann:=(.one (.loop 1000 [0] (.one (.seq 0 [0,2] .leaf (.seq 0 [0,2] (.seq 0 [0,2,6] .leaf (.one (.seq 0 [0,2,6,7] .leaf (.br .leaf (.seq 0 [0,2,6,15] .leaf (.br .leaf (.seq 0 [0,2,6,22] .leaf (.br .leaf (.seq 0 [0,2,6,30] .leaf (.br .leaf (.seq 0 [0,2,38] .leaf (.br .leaf .leaf)))))))))))) (.seq 0 [0] (.seq 0 [0,46] .leaf (.br .leaf .leaf)) .leaf))))))
def xT:Ann:=(.seq 0 [0] .leaf (.seq 0 [2] .leaf .leaf))
def zD:Ann:=(.seq 0 [0,1,2] .leaf (.seq 0 [0,1,2] (.one (.seq 0 [0,1,2,9] .leaf (.br (.seq 0 [6,7] .leaf .leaf) (.seq 0 [0,1,2,17] .leaf (.br (.seq 0 [6,7] .leaf .leaf) .leaf))))) (.seq 0 [1,2,8] .leaf (.seq 0 [6,7] .leaf .leaf))))
def vP:Ann:=(.seq 0 [0] .leaf (.seq 0 [0,3] .leaf (.seq 0 [3] (.seq 0 [3,6,7,8] .leaf (.one (.loop 1000 [3,6,7,8] (.seq 0 [3,6,7,8,9] .leaf (.seq 0 [3,6,7,8] (.br .leaf .leaf) (.seq 0 [3,6,7,8] (.one (.seq 0 [3,5,6,7,8] .leaf .leaf)) .leaf)))))) (.seq 0 [2] .leaf .leaf))))
def aA8:Ann:=(.seq 0 [0,3] .leaf (.seq 0 [7] (.ord (.neu 0 (.neu 1 (.neu 2 (.neu 4 (.neu 5 (.eff 3 (.eff 6 (.neu 7 (.eff 8 (.neu 9 .done) .stop)) .stop) .stop))))))) (.seq 0 [7,8] .leaf (.seq 0 [7] (.one (.loop 1000 [7,8] (.seq 0 [7] (.seq 0 [7,27] .leaf (.br .leaf .leaf)) (.one (.seq 0 [7,8] .leaf (.seq 0 [7,8,9] .leaf (.seq 0 [7,8,9] (.seq 0 [7,8,9,33] .leaf (.br .leaf .leaf)) (.seq 0 [7,8,34] .leaf (.one (.seq 0 [7,8,34,37] .leaf (.br .leaf (.seq 0 [7,8,34,41] .leaf (.br .leaf (.seq 0 [7,8,47] .leaf (.br (.seq 0 [7,8,10,11] .leaf (.seq 0 [7,8,10,11,56] .leaf (.br .leaf .leaf))) .leaf))))))))))))))) (.seq 0 [7] (.seq 0 [7,64] .leaf (.br (.seq 0 [4,5,6] .leaf .leaf) .leaf)) (.seq 0 [4,5,6] (.ord (.neu 0 (.neu 1 (.neu 2 (.neu 3 (.neu 4 (.neu 5 (.neu 6 (.neu 7 (.neu 8 (.neu 9 (.neu 10 (.neu 11 (.neu 12 (.neu 13 (.neu 14 (.neu 15 (.neu 16 (.neu 17 .done))))))))))))))))))) .leaf))))))
def wO:Ann:=(.seq 0 [0] .leaf (.seq 0 [0] (.seq 0 [0,20] .leaf (.br (.seq 0 [2,3,4] .leaf .leaf) .leaf)) (.seq 0 [0] (.seq 0 [0,23] .leaf (.br (.seq 0 [2,3,4] .leaf .leaf) .leaf)) (.seq 0 [0,5] .leaf (.seq 0 [0,5,6] .leaf (.seq 0 [0,5,6] (.seq 0 [0,5,6,28] .leaf (.br (.seq 0 [0,5] (.seq 0 [0,5,31] .leaf (.br (.seq 0 [2,3,4] .leaf .leaf) .leaf)) (.seq 0 [0,5,7] .leaf (.seq 0 [0,5,6] .leaf (.seq 0 [0,5,6,42] .leaf (.br (.seq 0 [2,3,4] .leaf .leaf) .leaf))))) .leaf)) (.seq 0 [0,5,6,9] .leaf (.seq 0 [0,5,6,9] (.seq 0 [0,5,6,9,45] .leaf (.br (.seq 0 [0,5,10,11,12] .leaf (.seq 0 [0,5,10,11,12] (.seq 0 [0,5,10,11,12,55] .leaf (.br (.seq 0 [2,3,4] .leaf .leaf) .leaf)) (.seq 0 [0,5,10,11] (.seq 0 [0,5,10,11,57] .leaf (.br (.seq 0 [2,3,4] .leaf .leaf) .leaf)) (.seq 0 [0,5,9,11] .leaf .leaf)))) .leaf)) (.seq 0 [0,5,6,9] (.seq 0 [0,5,6,9,62] .leaf (.br (.seq 0 [0,5,9,14,15] .leaf (.seq 0 [0,5,9,14] (.seq 0 [0,5,9,14,71] .leaf (.br (.seq 0 [2,3,4] .leaf .leaf) .leaf)) .leaf)) .leaf)) (.seq 0 [0,6,9] (.seq 0 [0,6,9,75] .leaf (.br (.seq 0 [2,3,4] .leaf .leaf) .leaf)) (.seq 0 [0,6,9] (.seq 0 [0,6,9,85] .leaf (.br (.seq 0 [2,3,4] .leaf .leaf) .leaf)) (.seq 0 [0,6,9,16] .leaf (.seq 0 [9] (.seq 0 [9,99] .leaf (.br (.seq 0 [2,3,4] .leaf .leaf) .leaf)) (.seq 0 [2,3,4] .leaf .leaf))))))))))))))
def aA7:Ann:=(.seq 0 [1] .leaf (.seq 0 [2] .leaf .leaf))
def rI:Ann:=(.seq 0 [0,1,2] .leaf (.seq 0 [0,1,2,9] .leaf (.seq 0 [0,1,2] (.seq 0 [0,1,2,9,18] .leaf (.br (.seq 0 [6,7] .leaf .leaf) .leaf)) (.seq 0 [6,7] .leaf .leaf))))
def mI:Ann:=(.seq 0 [0,1] .leaf (.seq 0 [0,1,5] .leaf (.seq 0 [0,1,5] (.one (.seq 0 [0,1,5,16] .leaf (.br (.seq 0 [4] .leaf .leaf) (.seq 0 [0,1,5,24] .leaf (.br (.seq 0 [4] .leaf .leaf) (.seq 0 [0,1,5,31] .leaf (.br (.seq 0 [4] .leaf .leaf) (.seq 0 [0,1,5,36] .leaf (.br (.seq 0 [4] .leaf .leaf) .leaf))))))))) (.seq 0 [0,1,5,6] .leaf (.seq 0 [0,1,5,6,7] .leaf (.seq 0 [0,1,5,6,7,8] .leaf (.seq 0 [0,1,5,6,7,8,9] .leaf (.seq 0 [0,1,5,6,7,8,9,10] .leaf (.seq 0 [] (.one (.loop 1000 [0,1,5,6,7,8,9,10] (.seq 0 [0,1,5,6,7,8,9,10] (.seq 0 [0,1,5,6,7,8,9,10,59] .leaf (.br .leaf .leaf)) (.one (.seq 0 [0,1,5,6,7,8,9,10] (.seq 0 [0,1,5,6,7,8,9,10,64] .leaf (.br (.seq 0 [0,1,5,6,7,8,9,10,11] .leaf (.seq 0 [0,1,5,6,7,8,9,10,11] (.seq 0 [0,1,5,6,7,8,9,10,11,73] .leaf (.br (.seq 0 [4] .leaf .leaf) .leaf)) .leaf)) .leaf)) (.seq 0 [0,1,5,6,7,8,9,10] (.seq 0 [0,1,5,6,7,8,9,10,93] .leaf (.br (.seq 0 [4] .leaf .leaf) .leaf)) (.seq 0 [0,1,5,6,7,8,9,10] .leaf (.seq 0 [0,1,5,6,7,8,9,10] .leaf (.seq 0 [0,1,5,6,7,8,9,10,107] .leaf (.br (.seq 0 [8,12] .leaf (.seq 0 [] (.seq 0 [8,12,114] .leaf (.br (.seq 0 [4] .leaf .leaf) .leaf)) (.seq 0 [4] .leaf .leaf))) (.seq 0 [0,1,5,6,7,8,9,10,132] .leaf (.br (.seq 0 [8,13] .leaf (.seq 0 [8,13] (.seq 0 [8,13,139] .leaf (.br (.seq 0 [4] .leaf .leaf) .leaf)) (.seq 0 [4] .leaf .leaf))) .leaf)))))))))))) (.seq 0 [4] .leaf .leaf))))))))))
def fV:Ann:=(.seq 0 [0,1] .leaf (.seq 0 [] (.seq 0 [0,1,6] .leaf (.seq 0 [0,1,6,20] .leaf (.br (.seq 0 [6] .leaf (.seq 0 [4,5] .leaf .leaf)) .leaf))) (.seq 0 [4,5] .leaf .leaf)))
def oT:Ann:=(.seq 0 [0,1] .leaf (.seq 0 [0,1,5] .leaf (.seq 0 [0,1,5] (.seq 0 [0,1,5,19] .leaf (.br .leaf .leaf)) (.seq 0 [0,1,5] (.seq 0 [0,1,5,6,7] .leaf (.seq 0 [0,1,5,6,28] .leaf (.br (.seq 0 [4] .leaf .leaf) .leaf))) (.seq 0 [0,1,5] (.seq 0 [0,1,5,38] .leaf (.br (.seq 0 [] .leaf (.seq 0 [4] .leaf .leaf)) .leaf)) (.seq 0 [0,1,5,8] .leaf (.seq 0 [0,1,5] (.seq 0 [0,1,5,8,54] .leaf (.br (.ord (.neu 0 (.neu 1 (.neu 2 (.neu 3 (.neu 4 (.neu 5 (.neu 6 (.neu 7 (.neu 8 (.neu 9 (.neu 10 (.neu 11 (.neu 12 (.eff 13 .done .stop))))))))))))))) (.seq 0 [0,1,5,74] .leaf (.br .leaf (.ord (.neu 0 (.neu 1 (.neu 2 (.neu 3 (.neu 4 (.neu 5 (.neu 6 (.neu 7 (.neu 8 (.neu 9 (.neu 10 (.neu 11 (.neu 12 (.neu 13 (.neu 14 (.neu 15 (.eff 16 (.neu 17 (.neu 18 (.eff 19 .done .stop))) .stop)))))))))))))))))))))) (.seq 0 [0,1,5] .leaf (.seq 0 [5] .leaf (.seq 0 [4] .leaf .leaf))))))))))
def jA:Ann:=(.seq 0 [0,1] .leaf (.seq 0 [0,1] (.seq 0 [0,1,10] .leaf (.br .leaf .leaf)) (.seq 0 [0,5,6] .leaf (.seq 0 [0,6] (.seq 0 [0,6,26] .leaf (.br .leaf .leaf)) (.seq 0 [0,7] .leaf (.seq 0 [7,8] .leaf (.seq 0 [7] (.one (.loop 1000 [7,8] (.seq 0 [7,8] (.seq 0 [7,8,37] .leaf (.br .leaf .leaf)) (.one (.ord (.neu 0 (.neu 1 (.neu 2 (.neu 3 (.neu 4 (.neu 5 (.neu 6 (.eff 7 (.neu 8 (.eff 9 .done .stop)) .stop))))))))))))) (.seq 0 [4] .leaf .leaf))))))))
def sQ:Ann:=(.seq 0 [0] .leaf (.seq 0 [0] (.one (.seq 0 [0,5] .leaf (.br (.seq 0 [2,3] .leaf .leaf) (.seq 0 [0,10] .leaf (.br (.seq 0 [2,3] .leaf .leaf) .leaf))))) (.seq 0 [0,4] .leaf (.seq 0 [2,3] .leaf .leaf))))
def o6:Ann:=(.seq 0 [0] .leaf (.seq 0 [0] (.seq 0 [0,6] .leaf (.br (.seq 0 [2,3] .leaf .leaf) .leaf)) (.seq 0 [0,4] .leaf (.seq 0 [2,3] .leaf .leaf))))
def rS:Ann:=(.seq 0 [0,1,2,8] .leaf (.br (.ord (.neu 0 (.neu 1 (.neu 2 (.neu 3 (.neu 4 (.neu 5 (.neu 6 (.neu 7 (.neu 8 (.neu 9 (.neu 10 (.neu 11 (.neu 12 (.neu 13 (.eff 14 (.eff 15 (.eff 16 .done .stop) .stop) .stop)))))))))))))))) .leaf))
def tM:Ann:=(.seq 0 [2,3,4,6,7] .leaf (.seq 0 [2,3,4,6,7,8] .leaf (.seq 0 [6,7] (.seq 0 [3,4,6,7,8,18] .leaf (.one (.br .leaf (.one (.seq 0 [3,4,6,7,8,10] (.seq 0 [3,4,6,7,8,10,29] .leaf (.br .leaf .leaf)) (.seq 0 [3,4,6,7,8,10,11] .leaf (.seq 0 [4,6,7,10,11] (.one (.loop 1000 [3,4,6,7,8,10,11] (.seq 0 [3,4,6,7,8,10,11] (.seq 0 [3,4,6,7,8,10,11,45] (.ord (.neu 0 (.neu 1 (.neu 2 (.neu 3 (.neu 4 (.neu 5 (.neu 6 (.neu 7 (.neu 8 (.neu 9 (.neu 10 (.neu 11 (.neu 12 (.neu 13 (.neu 14 (.neu 15 .done))))))))))))))))) (.br .leaf .leaf)) (.one .leaf)))) (.seq 0 [4,6,7,10,11,50] .leaf (.br (.ord (.neu 0 (.neu 1 (.neu 2 (.neu 3 (.eff 4 (.eff 5 .done .stop) .stop)))))) .leaf))))))))) (.seq 0 [6,7] (.ord (.neu 0 (.neu 1 (.eff 2 (.eff 3 .done .stop) .stop)))) .leaf))))
def tO:Ann:=(.seq 0 [0,1,2] .leaf (.seq 0 [6] .leaf .leaf))
def tK:Ann:=(.seq 0 [0] .leaf (.seq 0 [0,3] .leaf (.seq 0 [3] (.seq 0 [3,8,9,10] .leaf (.one (.loop 1000 [3,8,9,10] (.seq 0 [3,8,9,10,11] .leaf (.seq 0 [3,8,9,10] (.br .leaf .leaf) (.seq 0 [3,8,9,10] (.one (.seq 0 [3,5,8,9,10] .leaf .leaf)) .leaf)))))) (.seq 0 [2] .leaf .leaf))))
def j9:Ann:=(.seq 0 [0,1] .leaf (.seq 0 [0,1] (.seq 0 [0,1,6] .leaf (.br .leaf .leaf)) (.seq 0 [0] (.seq 0 [0,1] .leaf (.seq 0 [0,1,16] .leaf (.br .leaf .leaf))) (.seq 0 [4] .leaf .leaf))))
def uH:Ann:=(.seq 0 [0] .leaf (.seq 0 [0] (.seq 0 [0,10] .leaf (.br (.seq 0 [2] .leaf .leaf) .leaf)) (.seq 0 [0,3,4,5] .leaf (.seq 0 [3,4,5] (.seq 0 [3,4,5,11,12,13] .leaf (.one (.loop 1000 [3,4,5,11,12,13] (.seq 0 [3,4,5,11,12,13,14] .leaf (.seq 0 [3,4,5,11,12,13] (.br .leaf .leaf) (.seq 0 [3,4,5,11,12,13] (.one (.seq 0 [3,4,5,7,11,12,13] .leaf (.seq 0 [3,4,5,7,11,12,13] (.seq 0 [3,4,5,7,11,12,13,22] .leaf (.br (.seq 0 [2] .leaf .leaf) .leaf)) (.seq 0 [3,4,5,7,11,12,13,24] .leaf (.br (.seq 0 [3,4,5,7,11,12,13] .leaf (.seq 0 [3,4,5,7,11,12,13] .leaf .leaf)) .leaf))))) .leaf)))))) (.seq 0 [] (.one (.seq 0 [3,4,5,36] .leaf (.br (.seq 0 [2] .leaf .leaf) (.seq 0 [39] .leaf (.br (.seq 0 [2] .leaf .leaf) .leaf))))) (.seq 0 [2] .leaf .leaf))))))
def rP:Ann:=(.seq 0 [0,2] .leaf (.seq 0 [0,2,3] .leaf (.seq 0 [2,3] (.seq 0 [2,3,7,8,9] .leaf (.one (.loop 1000 [2,3,7,8,9] (.seq 0 [2,3,7,8,9,10] .leaf (.seq 0 [2,3,7,8,9] (.br .leaf .leaf) (.seq 0 [2,3,7,8,9] (.one (.seq 0 [2,3,5,7,8,9] .leaf (.seq 0 [2,3,5,7,8,9,14] .leaf (.br .leaf .leaf)))) .leaf)))))) (.seq 0 [2,3] (.seq 0 [2,3,6] .leaf (.one (.loop 1001 [2,3,6] (.seq 0 [2,3,6] (.seq 0 [2,3,6,24] .leaf (.br .leaf .leaf)) (.seq 0 [2,3,6] (.one (.ord (.neu 0 (.neu 1 (.neu 2 (.neu 3 (.neu 4 (.neu 5 (.neu 6 (.neu 7 (.neu 8 (.neu 9 (.neu 10 (.neu 11 (.neu 12 (.neu 13 (.neu 14 (.eff 15 .done .stop)))))))))))))))))) .leaf))))) (.seq 0 [2] .leaf .leaf)))))
def kB:Ann:=(.seq 0 [0,1,2] .leaf (.seq 0 [] .leaf (.seq 0 [6] .leaf .leaf)))
def jM:Ann:=(.seq 0 [0,1] .leaf (.seq 0 [0,1] .leaf (.seq 0 [] (.seq 0 [1,11] .leaf (.one (.seq 0 [1,11,12] .leaf (.br (.seq 0 [1] .leaf (.seq 0 [3] .leaf .leaf)) (.seq 0 [1,11,19] .leaf (.br (.seq 0 [3] .leaf .leaf) (.seq 0 [1,23] .leaf (.br (.seq 0 [3] .leaf .leaf) .leaf)))))))) (.seq 0 [3] .leaf .leaf))))
def jX:Ann:=(.seq 0 [1] .leaf (.seq 0 [2] .leaf .leaf))
def kR:Ann:=(.seq 0 [0] .leaf (.seq 0 [0,3,4] .leaf (.seq 0 [2] .leaf .leaf)))
def jS:Ann:=(.seq 0 [1] .leaf (.seq 0 [2] .leaf .leaf))
def lO:Ann:=(.seq 0 [0,1,4,5,6] .leaf (.seq 0 [0,1,4,5,6] (.seq 0 [0,1,4,5,6,9] .leaf (.br (.seq 0 [4,5,6] .leaf .leaf) .leaf)) (.seq 0 [0,4,5,6] (.ord (.neu 0 (.neu 1 (.neu 2 (.neu 3 (.neu 4 (.neu 5 (.neu 6 (.neu 7 (.neu 8 (.neu 9 (.neu 10 (.neu 11 (.neu 12 (.neu 13 (.neu 14 (.neu 15 (.neu 16 (.eff 17 (.neu 18 (.neu 19 (.eff 20 .done .stop))) .stop))))))))))))))))))) (.seq 0 [0,4,5,6] (.seq 0 [0,4,5,6,7] .leaf (.seq 0 [0,4,5,6,7,74] (.ord (.neu 0 (.neu 1 (.neu 2 (.neu 3 (.neu 4 (.neu 5 (.neu 6 (.neu 7 (.neu 8 (.neu 9 (.neu 10 (.neu 11 (.neu 12 (.neu 13 (.neu 14 (.neu 15 (.neu 16 (.neu 17 (.neu 18 (.neu 19 (.neu 20 (.neu 21 (.neu 22 (.neu 23 (.neu 24 (.neu 25 (.neu 26 (.neu 27 (.neu 28 (.neu 29 (.neu 30 (.neu 31 (.neu 32 (.neu 33 (.neu 34 (.neu 35 (.neu 36 (.neu 37 (.neu 38 (.neu 39 (.neu 40 (.neu 41 .done))))))))))))))))))))))))))))))))))))))))))) (.br (.ord (.neu 0 (.neu 1 (.neu 2 (.neu 3 (.neu 4 (.neu 5 (.neu 6 (.neu 7 (.neu 8 (.neu 9 (.neu 10 (.neu 11 (.neu 12 (.neu 13 (.neu 14 (.neu 15 (.neu 16 (.neu 17 (.neu 18 (.neu 19 (.neu 20 (.neu 21 (.neu 22 (.neu 23 (.neu 24 (.neu 25 (.neu 26 .done)))))))))))))))))))))))))))) (.seq 0 [0,4,5,105] .leaf (.br (.seq 0 [4,5,6] .leaf .leaf) .leaf))))) (.seq 0 [4,5,6] .leaf (.seq 0 [4,5,6] .leaf .leaf))))))
def yD:Ann:=(.seq 0 [0,1,2] .leaf (.seq 0 [0,2] (.seq 0 [0,1,2,9] .leaf (.br (.seq 0 [6] .leaf .leaf) .leaf)) (.seq 0 [0] (.seq 0 [0,2,13] .leaf (.br (.seq 0 [6] .leaf .leaf) .leaf)) (.seq 0 [6] .leaf .leaf))))
def oV:Ann:=(.seq 0 [0] .leaf (.seq 0 [2] .leaf .leaf))
def tN:Ann:=(.seq 0 [0] .leaf (.seq 0 [0] (.seq 0 [0,18] (.ord (.neu 0 (.eff 1 (.neu 2 (.neu 3 (.neu 4 (.neu 5 (.neu 6 (.neu 7 (.neu 8 (.neu 9 (.neu 10 (.neu 11 (.neu 12 (.neu 13 (.neu 14 .done))))))))))))) .stop))) (.br (.seq 0 [] .leaf (.seq 0 [2] .leaf .leaf)) .leaf)) (.seq 0 [0,3] (.ord (.neu 0 (.neu 1 (.neu 2 (.neu 3 (.neu 4 (.neu 5 (.neu 6 (.neu 7 (.neu 8 (.neu 9 (.neu 10 (.neu 11 (.neu 12 (.neu 13 (.neu 14 (.neu 15 (.neu 16 (.neu 17 (.neu 18 (.neu 19 .done))))))))))))))))))))) (.seq 0 [3] .leaf (.seq 0 [2] .leaf .leaf)))))
def pR:Ann:=(.seq 0 [0,1] .leaf (.seq 0 [0,1,5] .leaf (.seq 0 [5] (.seq 0 [0,1,5,6] .leaf (.one (.loop 1000 [0,1,5,6] (.seq 0 [0,1,5,6] (.seq 0 [0,1,5,6,9] .leaf (.br .leaf .leaf)) (.seq 0 [0,1,5,6] (.one .leaf) .leaf))))) (.seq 0 [4] .leaf .leaf))))
def pA:Ann:=(.seq 0 [0] (.one (.loop 1000 [0] (.seq 0 [0] (.seq 0 [0,10] .leaf (.br .leaf .leaf)) (.one .leaf)))) (.seq 0 [0,2] .leaf (.seq 0 [0,2] (.seq 0 [0,2,25] .leaf (.br .leaf .leaf)) (.seq 0 [0,2,3] .leaf (.one (.loop 1001 [0,2,3] (.seq 0 [0,2,3] (.seq 0 [0,2,3,35] .leaf (.br .leaf .leaf)) (.seq 0 [0,2,3] (.one (.seq 0 [0,2,3,4] .leaf .leaf)) .leaf))))))))
def oW:Ann:=(.seq 0 [0,2,6] .leaf (.seq 0 [0,6,8] .leaf (.one (.loop 1000 [0,6,8] (.seq 0 [0,6,8] (.seq 0 [0,6,8,29] .leaf (.br .leaf .leaf)) (.one (.seq 0 [0,6,8,10] .leaf (.seq 0 [0,6,8,10] (.seq 0 [0,6,8,10,38] .leaf (.br .leaf .leaf)) (.seq 0 [0,6,8,10] (.seq 0 [0,6,8,10,40] .leaf (.br (.seq 0 [0,6,8] .leaf .leaf) .leaf)) (.seq 0 [0,6,8,10] (.seq 0 [0,6,8,10,46] .leaf (.br (.seq 0 [] .leaf .leaf) .leaf)) (.seq 0 [0,6,8,11,12] .leaf (.seq 0 [0,6,8,11] .leaf (.seq 0 [0,6,8,11,13] .leaf (.seq 0 [0,6,8,11,13] (.seq 0 [0,6,8,11,13,63] .leaf (.br .leaf .leaf)) (.seq 0 [0,6,8,11,13] (.seq 0 [0,6,8,11,13,65] .leaf (.br (.seq 0 [] .leaf .leaf) .leaf)) (.seq 0 [0,6,8,11,14,15] .leaf (.seq 0 [0,6,8,11,14] .leaf (.seq 0 [0,6,8,11,14] (.seq 0 [0,6,8,11,14,84] .leaf (.br .leaf .leaf)) (.seq 0 [0,6,8,11,14,16] .leaf (.one (.loop 1001 [0,6,8,11,14,16] (.seq 0 [0,6,8,11,14,16] (.seq 0 [0,6,8,11,14,16,94] .leaf (.br .leaf .leaf)) (.seq 0 [0,6,8,11,14,16] (.one (.ord (.neu 0 (.neu 1 (.neu 2 (.neu 3 (.neu 4 (.neu 5 (.neu 6 (.neu 7 (.neu 8 (.neu 9 (.neu 10 (.neu 11 (.neu 12 (.neu 13 (.eff 14 .done .stop))))))))))))))))) .leaf)))))))))))))))))))))))
def nE:Ann:=(.seq 0 [] .leaf (.seq 0 [1] .leaf (.seq 0 [1] .leaf (.seq 0 [1] .leaf (.seq 0 [0] .leaf .leaf)))))
def xW:Ann:=(.seq 0 [0,1,2] .leaf (.seq 0 [0] (.seq 0 [0,1,2,7] .leaf (.one (.loop 1000 [0,1,2,7] (.seq 0 [0,1,2,7] (.seq 0 [0,1,2,7,10] .leaf (.br .leaf .leaf)) (.seq 0 [0,1,2,7] (.one .leaf) .leaf))))) (.seq 0 [6] .leaf .leaf)))
def oU:Ann:=(.seq 0 [0] .leaf (.seq 0 [0,4] .leaf (.seq 0 [0,4] (.seq 0 [0,4,19] .leaf (.br .leaf .leaf)) (.seq 0 [0,4,5] .leaf (.seq 0 [0,4,5] (.seq 0 [0,4,5,26] .leaf (.br .leaf .leaf)) (.seq 0 [0,4,5,6] .leaf (.seq 0 [0,4,5,6,7] .leaf (.seq 0 [0,4,5,6,7,8] .leaf (.seq 0 [0,4,5,8] (.seq 0 [0,4,5,6,7,8,9] .leaf (.one (.loop 1000 [0,4,5,6,7,8,9] (.seq 0 [0,4,5,6,7,8,9] (.seq 0 [0,4,5,6,7,8,9,36] .leaf (.br .leaf .leaf)) (.seq 0 [0,4,5,6,7,8,9] (.one (.ord (.neu 0 (.neu 1 (.neu 2 (.neu 3 (.neu 4 (.neu 5 (.eff 6 (.neu 7 (.eff 8 .done .stop)) .stop))))))))) .leaf))))) (.seq 0 [0,4,5,8] (.seq 0 [0,4,5,8,54] .leaf (.br .leaf .leaf)) (.seq 0 [0,4,5,10] .leaf (.seq 0 [0,4,5,10,12] .leaf (.seq 0 [0,4,12] (.one (.loop 1001 [0,4,5,10,12] (.seq 0 [0,4,5,10,12] (.seq 0 [0,4,5,10,12,72] .leaf (.br .leaf .leaf)) (.one (.seq 0 [0,4,5,10,12,13] .leaf (.seq 0 [0,4,5,10,12,13,14] .leaf (.seq 0 [0,4,5,10,12,13,14] (.seq 0 [0,4,5,10,12,13,14,77] .leaf (.br (.seq 0 [0,4,5,10,12] (.seq 0 [0,4,5,10,12,80] .leaf (.br (.seq 0 [0,4,12] .leaf .leaf) .leaf)) (.seq 0 [0,4,5,10,12,14] .leaf .leaf)) (.seq 0 [0,4,5,10,12,13,14,93] .leaf (.br (.seq 0 [0,4,5,10,12,14] .leaf .leaf) (.seq 0 [0,4,5,10,12,13,14,98] .leaf (.br (.seq 0 [0,4,5,10,12,14] .leaf .leaf) .leaf)))))) (.seq 0 [0,4,5,10,12,13,14] (.seq 0 [0,4,5,10,12,13,14,109] .leaf (.br .leaf .leaf)) .leaf)))))))) (.seq 0 [0,4,12] (.seq 0 [0,4,12,117] .leaf (.br (.seq 0 [2,3] .leaf .leaf) .leaf)) (.seq 0 [4,12] (.seq 0 [0,4,12,129] .leaf (.br .leaf .leaf)) (.seq 0 [2,3] (.ord (.neu 0 (.neu 1 (.neu 2 (.neu 3 (.neu 4 (.neu 5 (.neu 6 (.neu 7 .done))))))))) .leaf))))))))))))))))
def rE:Ann:=(.seq 0 [0,4] .leaf (.br .leaf .leaf))
def wH:Ann:=(.seq 0 [0] .leaf (.seq 0 [] (.seq 0 [0,3] .leaf (.one (.loop 1000 [0,3] (.seq 0 [0,3] (.seq 0 [0,3,11] .leaf (.br .leaf .leaf)) (.seq 0 [0,3] (.one (.seq 0 [0,3,33] (.ord (.neu 0 (.neu 1 (.neu 2 (.neu 3 (.neu 4 (.neu 5 (.neu 6 (.neu 7 (.neu 8 (.neu 9 (.neu 10 (.neu 11 (.neu 12 (.neu 13 (.neu 14 (.neu 15 (.neu 16 (.neu 17 (.neu 18 (.neu 19 .done))))))))))))))))))))) (.br (.seq 0 [2] .leaf .leaf) .leaf))) .leaf))))) (.seq 0 [2] .leaf .leaf)))
def z9:Ann:=(.seq 0 [0,1] .leaf (.seq 0 [0,1] (.seq 0 [0,1,7] .leaf (.one (.loop 1000 [0,1,7] (.seq 0 [0,1,7] (.seq 0 [0,1,7,12] .leaf (.br .leaf .leaf)) (.seq 0 [0,1,7] (.one (.seq 0 [0,1,7,18] .leaf (.br (.seq 0 [4,5,6] .leaf .leaf) .leaf))) .leaf))))) (.seq 0 [4,5,6] .leaf .leaf)))
def aA6:Ann:=(.seq 0 [0] .leaf (.seq 0 [2] .leaf .leaf))
def aBR:Ann:=(.seq 0 [0,1,2] .leaf (.seq 0 [0,1,2] (.seq 0 [0,1,2,17] .leaf (.br (.seq 0 [6,7] .leaf .leaf) .leaf)) (.seq 0 [0,1,2] (.seq 0 [0,1,2,29] .leaf (.br (.seq 0 [6,7] .leaf .leaf) .leaf)) (.seq 0 [6,7] .leaf .leaf))))
def yH:Ann:=(.seq 0 [0] .leaf (.seq 0 [0,3] .leaf (.seq 0 [3] (.seq 0 [0,3,4] .leaf (.one (.loop 1000 [0,3,4] (.seq 0 [0,3,4] (.seq 0 [0,3,4,8] .leaf (.br .leaf .leaf)) (.seq 0 [0,3,4] (.one .leaf) .leaf))))) (.seq 0 [2] .leaf .leaf))))
def tZ:Ann:=(.seq 0 [0] .leaf (.seq 0 [0,3] .leaf (.seq 0 [3] (.seq 0 [0,3,4] .leaf (.one (.loop 1000 [0,3,4] (.seq 0 [0,3,4] (.seq 0 [0,3,4,9] .leaf (.br .leaf .leaf)) (.seq 0 [0,3,4] (.one .leaf) .leaf))))) (.seq 0 [2] .leaf .leaf))))
def jJ:Ann:=(.seq 0 [0,1] .leaf (.seq 0 [4] .leaf .leaf))
def oN:Ann:=(.seq 0 [0] .leaf (.seq 0 [2] .leaf .leaf))
def eR:Ann:=(.seq 0 [0,1] .leaf (.seq 0 [0,1,5,6] .leaf (.seq 0 [0,1,5,6,7] .leaf (.seq 0 [0,1,5,6,7,8] .leaf (.seq 0 [0,1,5,6,7,8] (.seq 0 [0,1,5,6,7,8,9] .leaf (.one (.loop 1000 [0,1,5,6,7,8,9] (.seq 0 [0,1,5,6,7,8,9] (.seq 0 [0,1,5,6,7,8,9,20] .leaf (.br .leaf .leaf)) (.seq 0 [0,1,5,6,7,8,9] (.one .leaf) .leaf))))) (.seq 0 [0,1,5,6,7,8] (.seq 0 [0,1,5,6,7,8,39] .leaf (.br (.seq 0 [4] .leaf .leaf) .leaf)) (.seq 0 [] (.seq 0 [0,1,5,6,7,8,10] .leaf (.one (.loop 1001 [0,1,5,6,7,8,10] (.seq 0 [0,1,5,6,7,8,10] (.seq 0 [0,1,5,6,7,8,10,44] .leaf (.br .leaf .leaf)) (.one (.seq 0 [0,1,5,6,7,8,10] .leaf (.seq 0 [0,1,5,6,7,8,10] .leaf (.seq 0 [0,1,5,6,7,8,10] .leaf (.seq 0 [0,1,5,6,7,8,10] .leaf (.seq 0 [0,1,5,6,7,8,10,77] .leaf (.br (.seq 0 [4] .leaf .leaf) .leaf))))))))))) (.seq 0 [4] .leaf .leaf))))))))
def pT:Ann:=(.seq 0 [0] .leaf (.seq 0 [2] (.ord (.neu 0 (.neu 1 (.neu 2 (.neu 3 (.neu 4 (.neu 5 (.neu 6 (.neu 7 (.neu 8 (.neu 9 (.neu 10 .done)))))))))))) .leaf))
def oB:Ann:=(.seq 0 [0] .leaf (.seq 0 [0] .leaf .leaf))
def rH:Ann:=(.seq 0 [0,1] .leaf (.seq 0 [0,1] .leaf (.seq 0 [0,5] .leaf (.seq 0 [0,5] (.seq 0 [0,5,16] .leaf (.br .leaf .leaf)) (.seq 0 [0,6] .leaf (.seq 0 [6,7] .leaf (.seq 0 [4] .leaf .leaf)))))))
def tT:Ann:=(.seq 0 [0,1] .leaf (.seq 0 [0,1] (.br (.seq 0 [6,7] .leaf (.seq 0 [4,5] .leaf .leaf)) .leaf) (.seq 0 [8,9] .leaf (.seq 0 [4,5] .leaf .leaf))))
def gZ:Ann:=(.seq 0 [1] .leaf (.seq 0 [2] .leaf .leaf))
def rG:Ann:=(.seq 0 [1] .leaf (.seq 0 [2] .leaf .leaf))
def eD:Ann:=(.seq 0 [0,3] .leaf (.seq 0 [0,3,4] .leaf (.seq 0 [0,3,4] (.one (.loop 1000 [0,3,4] (.seq 0 [0,3,4] (.seq 0 [0,3,4,33] (.ord (.neu 0 (.neu 1 (.neu 2 (.neu 3 (.neu 4 (.neu 5 (.neu 6 (.neu 7 (.neu 8 (.neu 9 (.neu 10 (.neu 11 (.neu 12 (.neu 13 (.neu 14 (.neu 16 (.neu 17 (.neu 18 (.neu 19 (.neu 20 (.eff 15 (.eff 21 (.neu 22 (.neu 23 .done)) .stop) .stop)))))))))))))))))))))) (.br .leaf .leaf)) (.one .leaf)))) (.seq 0 [0,3,4] (.ord (.neu 0 (.neu 1 (.neu 2 (.neu 3 (.neu 4 (.neu 5 (.eff 6 (.eff 7 (.neu 8 (.neu 9 (.eff 10 .done .stop))) .stop) .stop)))))))) (.seq 0 [0,3,4] (.ord (.neu 0 (.neu 1 (.neu 2 (.neu 3 (.neu 4 (.neu 5 (.neu 6 (.neu 7 (.neu 8 (.neu 9 (.neu 10 (.neu 11 (.neu 12 (.eff 13 .done .stop))))))))))))))) (.ord (.neu 0 (.neu 1 (.neu 2 (.neu 3 (.neu 4 (.neu 5 (.neu 6 (.eff 7 .done .stop))))))))))))))
def iY:Ann:=(.seq 0 [1,2] .leaf (.seq 0 [3] .leaf .leaf))
def gV:Ann:=(.seq 0 [0,1,2] .leaf (.seq 0 [1,2] (.seq 0 [1,2,8] .leaf (.br (.seq 0 [4] .leaf .leaf) .leaf)) (.seq 0 [4] .leaf .leaf)))
def mL:Ann:=(.seq 0 [2,3] .leaf (.seq 0 [2,3] (.seq 0 [2,3,6] .leaf (.br (.seq 0 [4] .leaf .leaf) .leaf)) (.seq 0 [4] .leaf .leaf)))
def kP:Ann:=(.seq 0 [0,1,2] .leaf (.seq 0 [0,2,7,8] .leaf (.seq 0 [0,2,7] (.seq 0 [0,2,7,16] .leaf (.br (.seq 0 [6] .leaf .leaf) .leaf)) (.seq 0 [0,7,8,9] .leaf (.seq 0 [0,7,9] (.seq 0 [0,7,9,23] .leaf (.br (.seq 0 [6] .leaf .leaf) .leaf)) (.seq 0 [6] .leaf .leaf))))))
def iJ:Ann:=(.seq 0 [0,1] .leaf (.seq 0 [1,4] .leaf (.seq 0 [1,4] (.seq 0 [1,4,8] .leaf (.br (.seq 0 [3] .leaf .leaf) .leaf)) (.seq 0 [3] .leaf .leaf))))
def gJ:Ann:=(.seq 0 [0,1,2] .leaf (.seq 0 [1,2,5] .leaf (.seq 0 [1,2,5] (.seq 0 [1,2,5,9] .leaf (.br (.seq 0 [4] .leaf .leaf) .leaf)) (.seq 0 [4] .leaf .leaf))))
def fU:Ann:=(.seq 0 [0,1,2,3] .leaf (.seq 0 [5] (.ord (.neu 0 (.neu 2 (.neu 3 (.neu 4 (.neu 5 (.eff 1 (.eff 6 (.neu 7 .done) .stop) .stop))))))) .leaf))
def kS:Ann:=(.seq 0 [6,7,8,9,10,11] .leaf (.seq 0 [6,7,8,9,10,11] (.seq 0 [6,7,8,9,10,11,17] .leaf (.br (.seq 0 [6,10,11,13,14] .leaf (.seq 0 [6,10,11,13] (.seq 0 [6,10,11,13,24] .leaf (.br (.seq 0 [12] .leaf .leaf) .leaf)) (.seq 0 [12] .leaf .leaf))) .leaf)) (.seq 0 [12] .leaf .leaf)))
def tH:Ann:=(.seq 0 [0,1] (.seq 0 [0,1,6] .leaf (.br .leaf .leaf)) (.seq 0 [0,1,4] .leaf (.seq 0 [0,1] (.seq 0 [0,1,37] (.ord (.neu 0 (.neu 1 (.neu 2 (.neu 3 (.neu 4 (.neu 5 (.neu 6 (.neu 7 (.neu 8 (.neu 9 (.neu 10 (.neu 11 (.neu 12 (.neu 13 (.neu 14 (.neu 15 (.neu 16 (.neu 17 (.neu 18 (.neu 19 (.neu 20 (.neu 21 (.neu 22 (.neu 23 (.neu 24 .done)))))))))))))))))))))))))) (.br (.seq 0 [] .leaf .leaf) .leaf)) .leaf)))
def pO:Ann:=(.seq 0 [0] .leaf (.seq 0 [0,4] .leaf (.seq 0 [0] (.seq 0 [0,4,8] .leaf (.br (.seq 0 [2,3] .leaf .leaf) .leaf)) (.seq 0 [2,3] .leaf .leaf))))
def pC:Ann:=(.seq 0 [0,1] .leaf (.seq 0 [0,1] (.seq 0 [0,1,10] .leaf (.br (.seq 0 [] .leaf (.seq 0 [4] .leaf .leaf)) .leaf)) (.one (.loop 1000 [0,1] (.one (.seq 0 [0,1,5] .leaf (.seq 0 [0,1,5] (.seq 0 [0,1,5,16] .leaf (.br (.seq 0 [4] .leaf .leaf) .leaf)) (.seq 0 [0,1,6,7,8] .leaf (.seq 0 [0,1,6,7] (.seq 0 [0,1,6,7,25] .leaf (.br (.seq 0 [] .leaf (.seq 0 [4] .leaf .leaf)) .leaf)) (.seq 0 [0,1,6,28] .leaf (.br (.seq 0 [4] .leaf .leaf) .leaf)))))))))))
def xS:Ann:=(.seq 0 [0] .leaf (.seq 0 [0] (.seq 0 [0,6] .leaf (.br (.seq 0 [2,3] .leaf .leaf) .leaf)) (.seq 0 [0] (.seq 0 [0,10] .leaf (.br (.seq 0 [2,3] .leaf .leaf) .leaf)) (.seq 0 [0,4] .leaf (.seq 0 [2,3] .leaf .leaf)))))
def aBI:Ann:=(.seq 0 [0] .leaf (.seq 0 [0] (.seq 0 [0,6] .leaf (.br (.seq 0 [2,3] .leaf .leaf) .leaf)) (.seq 0 [0,4] .leaf (.seq 0 [2,3] .leaf .leaf))))
def xZ:Ann:=(.seq 0 [0] .leaf (.seq 0 [0] (.seq 0 [0,8] .leaf (.br (.seq 0 [2] .leaf .leaf) .leaf)) (.seq 0 [0,3] .leaf (.seq 0 [0,3] (.seq 0 [0,3,4] .leaf (.one (.loop 1000 [0,3,4] (.seq 0 [0,3,4] (.seq 0 [0,3,4,12] .leaf (.br .leaf .leaf)) (.seq 0 [0,3,4] (.one (.seq 0 [0,3,4] (.seq 0 [0,3,4,26] .leaf (.br (.seq 0 [2] .leaf .leaf) .leaf)) (.seq 0 [0,3,4,31] .leaf (.br .leaf .leaf)))) .leaf))))) (.seq 0 [3,5] .leaf (.seq 0 [3,5] (.seq 0 [3,5,44] .leaf (.br (.seq 0 [2] .leaf .leaf) .leaf)) (.seq 0 [] (.seq 0 [58] .leaf (.br (.seq 0 [2] .leaf .leaf) .leaf)) (.seq 0 [2] .leaf .leaf))))))))
def iM:Ann:=(.seq 0 [0] .leaf (.seq 0 [0,4] .leaf (.seq 0 [0,4] (.seq 0 [0,4,5] .leaf (.one (.loop 1000 [0,4,5] (.seq 0 [0,4,5] (.seq 0 [0,4,5,12] .leaf (.br .leaf .leaf)) (.seq 0 [0,4,5] (.one .leaf) .leaf))))) (.seq 0 [0,4,6,7] .leaf (.seq 0 [4,6] (.seq 0 [4,6,7,8] .leaf (.one (.loop 1001 [4,6,7,8] (.seq 0 [4,6,7,8] (.seq 0 [4,6,7,8,25] .leaf (.br .leaf .leaf)) (.seq 0 [4,6,7,8] (.one (.seq 0 [4,6,7,8] (.seq 0 [4,6,7,8,30] .leaf (.br .leaf .leaf)) .leaf)) .leaf))))) (.seq 0 [2,3] .leaf .leaf))))))
def oQ:Ann:=(.seq 0 [1] .leaf (.br .leaf .leaf))
def rO:Ann:=(.seq 0 [0,1] .leaf (.seq 0 [6] .leaf (.seq 0 [4,5] .leaf .leaf)))
def rT:Ann:=(.seq 0 [0,1] .leaf (.seq 0 [0,1,6] .leaf (.seq 0 [0,1,6,7] .leaf (.seq 0 [0,1,6,7,8] .leaf (.seq 0 [0,1,6,7,8,9] .leaf (.seq 0 [0,1,6,7,8,9,10] .leaf (.seq 0 [0,1,6,7,9,11] .leaf (.seq 0 [0,1,6,7,9,11,12] .leaf (.seq 0 [0,1,6,7,9,12,13] .leaf (.seq 0 [0,1,7,9,12,13] .leaf (.seq 0 [0,1,4] .leaf (.seq 0 [4,5] .leaf .leaf))))))))))))
def gA:Ann:=(.seq 0 [0,1,3] .leaf (.one (.loop 1000 [0,1,3] (.seq 0 [0,1,3] (.seq 0 [0,1,3,8] .leaf (.br .leaf .leaf)) (.seq 0 [0,1,3] (.one (.seq 0 [0,1,3,18] .leaf (.br .leaf .leaf))) .leaf)))))
def kT:Ann:=(.seq 0 [0,1,2] .leaf (.seq 0 [1,2] (.seq 0 [1,2,5] .leaf (.seq 0 [1,2,5,11] .leaf (.br (.seq 0 [4] .leaf .leaf) .leaf))) (.seq 0 [4] .leaf .leaf)))
def mT:Ann:=(.seq 0 [0,1] .leaf (.seq 0 [0,1] (.seq 0 [0,1,32] (.ord (.neu 0 (.neu 1 (.neu 2 (.neu 3 (.neu 4 (.neu 5 (.neu 6 (.neu 7 (.neu 8 (.neu 9 (.neu 10 (.neu 11 (.neu 12 (.neu 13 (.neu 14 (.neu 15 (.neu 16 (.neu 17 (.neu 18 (.neu 19 (.neu 20 (.neu 21 (.neu 22 (.neu 23 (.neu 24 (.neu 25 (.neu 26 (.neu 27 .done))))))))))))))))))))))))))))) (.br (.seq 0 [4] .leaf .leaf) .leaf)) (.seq 0 [0,1] .leaf (.seq 0 [0,1] .leaf (.seq 0 [0,1] (.seq 0 [0,1,55] .leaf (.br .leaf .leaf)) (.seq 0 [] .leaf (.seq 0 [4] .leaf .leaf)))))))
def nG:Ann:=(.seq 0 [0] .leaf (.seq 0 [0] (.seq 0 [0,4] .leaf (.seq 0 [0,4,12] .leaf (.br (.seq 0 [2,3] .leaf .leaf) .leaf))) (.seq 0 [0,5] .leaf (.seq 0 [5] (.seq 0 [0,5,6] .leaf (.one (.loop 1000 [0,5,6] (.seq 0 [0,5,6] (.seq 0 [0,5,6,19] .leaf (.br .leaf .leaf)) (.seq 0 [0,5,6] (.one (.seq 0 [0,5,6] (.ord (.neu 0 (.neu 1 (.neu 2 (.neu 3 (.neu 4 (.neu 5 (.neu 6 (.neu 7 (.neu 8 (.neu 9 (.eff 10 .done .stop)))))))))))) (.seq 0 [0,5,6,32,33,34] .leaf (.one (.loop 1001 [0,5,6,32,33,34] (.seq 0 [0,5,6,32,33,34,35] .leaf (.seq 0 [0,5,6,32,33,34] (.br .leaf .leaf) (.seq 0 [0,5,6,32,33,34] (.one (.seq 0 [0,5,6,7,8,32,33,34] .leaf (.seq 0 [0,5,6,7,32,33,34,41] .leaf (.br (.seq 0 [0,5,6,32,33,34] .leaf .leaf) .leaf)))) .leaf)))))))) .leaf))))) (.seq 0 [2,3] .leaf .leaf)))))
def jO:Ann:=(.seq 0 [3,4,5] .leaf (.seq 0 [6] .leaf .leaf))
def jH:Ann:=(.seq 0 [5,6,7,8,9] .leaf (.seq 0 [5,6,7,8,9] (.seq 0 [5,6,7,8,9,17] .leaf (.br (.seq 0 [10] (.ord (.neu 0 (.neu 1 (.neu 2 (.neu 3 (.neu 4 (.neu 5 (.neu 6 (.eff 7 (.neu 8 .done) .stop))))))))) .leaf) .leaf)) (.seq 0 [5,6,7,8,9,11] .leaf (.seq 0 [10] .leaf .leaf))))
def jN:Ann:=(.seq 0 [0,1,2,3,4,5,6] .leaf (.seq 0 [1,2,3,4,5,6] (.ord (.neu 0 (.neu 1 (.neu 2 (.neu 3 (.neu 4 (.neu 5 (.eff 6 .done .stop)))))))) (.seq 0 [8] .leaf .leaf)))
def yC:Ann:=(.seq 0 [0] .leaf (.seq 0 [0,3] .leaf (.seq 0 [0] (.seq 0 [0,15] .leaf (.br (.seq 0 [2] .leaf .leaf) .leaf)) (.seq 0 [0,4] .leaf (.seq 0 [0,4,5] .leaf (.seq 0 [4] (.seq 0 [0,4,5,6] .leaf (.one (.loop 1000 [0,4,5,6] (.seq 0 [0,4,5,6] (.seq 0 [0,4,5,6,20] .leaf (.br .leaf .leaf)) (.seq 0 [0,4,5,6] (.one (.seq 0 [0,4,5,6] .leaf (.seq 0 [0,4,5,6,7] .leaf (.one (.loop 1001 [0,4,5,6,7] (.seq 0 [0,4,5,6,7] (.seq 0 [0,4,5,6,7,28] .leaf (.br .leaf .leaf)) (.seq 0 [0,4,5,6,7] (.one (.seq 0 [0,4,5,6,7,36] .leaf (.br (.seq 0 [0,4,5,6,7] .leaf .leaf) .leaf))) .leaf))))))) .leaf))))) (.seq 0 [2] .leaf .leaf)))))))
def m9:Ann:=(.seq 0 [0,1] .leaf (.seq 0 [0,1] (.seq 0 [0,1,10] .leaf (.br (.seq 0 [4,5,6] .leaf .leaf) .leaf)) (.seq 0 [0,1] .leaf (.seq 0 [0] .leaf (.seq 0 [0,7] .leaf (.seq 0 [0,7] (.seq 0 [0,7,8] .leaf (.one (.loop 1000 [0,7,8] (.seq 0 [0,7,8] (.seq 0 [0,7,8,35] .leaf (.br .leaf .leaf)) (.seq 0 [0,7,8] (.one (.seq 0 [0,7,8] (.seq 0 [0,7,8,63] (.ord (.neu 0 (.neu 1 (.neu 2 (.neu 3 (.neu 4 (.neu 5 (.neu 6 (.neu 7 (.neu 8 (.neu 9 (.neu 10 (.neu 11 (.neu 12 (.neu 13 (.neu 14 (.neu 15 (.neu 16 (.neu 17 (.neu 18 (.neu 19 (.neu 20 (.neu 21 (.neu 22 (.neu 23 (.neu 24 (.neu 25 .done))))))))))))))))))))))))))) (.br (.seq 0 [0,8] .leaf (.seq 0 [8] .leaf (.seq 0 [4,5,6] .leaf .leaf))) .leaf)) (.seq 0 [0,7,8,110] (.ord (.neu 0 (.neu 1 (.neu 2 (.neu 3 (.neu 4 (.neu 5 (.neu 6 (.neu 7 (.neu 8 (.neu 9 (.neu 10 (.neu 11 (.neu 12 (.neu 13 (.neu 14 (.neu 15 (.neu 16 (.neu 17 (.neu 18 (.neu 19 (.neu 20 (.neu 21 (.neu 22 (.neu 23 (.neu 24 (.neu 25 (.neu 26 (.neu 27 (.neu 28 (.neu 29 (.neu 30 (.neu 31 (.neu 32 (.neu 33 (.neu 34 (.neu 35 (.neu 36 (.neu 37 (.neu 38 (.neu 39 .done))))))))))))))))))))))))))))))))))))))))) (.br .leaf .leaf)))) .leaf))))) (.seq 0 [0] (.seq 0 [0,111] .leaf (.br (.seq 0 [4,5,6] .leaf .leaf) .leaf)) (.seq 0 [0] .leaf (.seq 0 [] .leaf (.seq 0 [4,5,6] .leaf .leaf))))))))))
def aAQ:Ann:=(.seq 0 [0] .leaf (.seq 0 [0,3] .leaf (.seq 0 [3] (.seq 0 [0,3,4] .leaf (.one (.loop 1000 [0,3,4] (.seq 0 [0,3,4] (.seq 0 [0,3,4,8] .leaf (.br .leaf .leaf)) (.seq 0 [0,3,4] (.one (.seq 0 [0,3,4,15] .leaf (.br .leaf .leaf))) .leaf))))) (.seq 0 [2] .leaf .leaf))))
def iO:Ann:=(.seq 0 [0] .leaf (.seq 0 [0] (.seq 0 [0,4] .leaf (.br (.seq 0 [2] .leaf .leaf) .leaf)) (.seq 0 [2] .leaf .leaf)))
def kG:Ann:=(.seq 0 [0,1,2] .leaf (.seq 0 [] .leaf (.seq 0 [6] .leaf .leaf)))
def iH:Ann:=(.seq 0 [0,1,2,3] .leaf (.seq 0 [0,1,2,3] (.one (.seq 0 [0,1,2,3,9] .leaf (.br (.seq 0 [1,2,3] (.seq 0 [1,2,3,6] .leaf (.seq 0 [1,2,3,6,17] .leaf (.br (.seq 0 [5] .leaf .leaf) .leaf))) (.seq 0 [5] .leaf .leaf)) (.seq 0 [0,1,2,3,23] .leaf (.br (.seq 0 [5] .leaf .leaf) (.seq 0 [0,1,2,3,28] .leaf (.br (.seq 0 [5] .leaf .leaf) .leaf))))))) (.seq 0 [1,2,3,7,8] .leaf (.seq 0 [5] .leaf .leaf))))
def gK:Ann:=(.seq 0 [1,2,3,4,5] .leaf (.seq 0 [6] .leaf .leaf))
def fT:Ann:=(.seq 0 [0,1,2,3,4,5] .leaf (.seq 0 [0,1,2,3,4,5] (.seq 0 [0,1,2,3,4,5,11] .leaf (.br (.seq 0 [7] .leaf .leaf) .leaf)) (.seq 0 [1,2,3,4,5,8,9] .leaf (.seq 0 [7] .leaf .leaf))))
def eY:Ann:=(.seq 0 [0,1,2,3,4,5,6] .leaf (.seq 0 [1,5,6] (.seq 0 [1,5,6,9] .leaf (.seq 0 [1,5,6,9,19] .leaf (.br (.seq 0 [8] .leaf .leaf) .leaf))) (.seq 0 [8] .leaf .leaf)))
def lL:Ann:=(.seq 0 [0,1,2] .leaf (.seq 0 [0,1,2] (.seq 0 [0,1,2,13] .leaf (.br (.seq 0 [6] .leaf .leaf) .leaf)) (.seq 0 [] (.seq 0 [0,2,14,15] .leaf (.one (.loop 1000 [0,2,14,15] (.seq 0 [0,2,14,15,16] .leaf (.seq 0 [0,2,14,15] (.br .leaf .leaf) (.seq 0 [0,2,14,15] (.one (.seq 0 [0,2,7,14,15] (.ord (.neu 0 (.neu 1 (.neu 2 (.neu 3 (.neu 4 (.neu 5 (.neu 6 (.neu 7 (.neu 8 (.neu 9 (.neu 10 (.neu 11 (.neu 12 (.neu 13 (.eff 14 (.neu 15 .done) .stop)))))))))))))))) (.seq 0 [0,2,7,14,15,33] .leaf (.br (.seq 0 [6] .leaf .leaf) .leaf)))) .leaf)))))) (.seq 0 [6] .leaf .leaf))))
def iK:Ann:=(.seq 0 [0,3,4,5,6,7,9,10] .leaf (.seq 0 [11] .leaf .leaf))
def gL:Ann:=(.seq 0 [0,1,2,3,4,5,6,7] .leaf (.seq 0 [0,1,2,3,4,5,6,7] (.seq 0 [0,1,2,3,4,5,6,7,19] .leaf (.br (.seq 0 [9] .leaf .leaf) .leaf)) (.seq 0 [9] (.ord (.neu 0 (.neu 1 (.neu 2 (.neu 3 (.neu 5 (.neu 6 (.neu 7 (.neu 10 (.neu 11 (.eff 4 (.eff 8 (.eff 9 (.eff 12 (.neu 13 .done) .stop) .stop) .stop) .stop))))))))))) .leaf)))
def iL:Ann:=(.seq 0 [0,1,2,3,4,5,6] .leaf (.seq 0 [6] (.one (.seq 0 [0,1,2,3,4,5,6,9] .leaf (.br (.seq 0 [8] (.ord (.neu 0 (.neu 1 (.neu 2 (.neu 3 (.neu 6 (.neu 7 (.eff 4 (.eff 5 (.eff 8 (.neu 9 .done) .stop) .stop) .stop)))))))) .leaf) (.seq 0 [0,3,6,21] .leaf (.br (.seq 0 [8] .leaf .leaf) (.seq 0 [0,3,6,29] .leaf (.br (.seq 0 [8] (.ord (.neu 0 (.neu 1 (.neu 2 (.neu 3 (.neu 4 (.neu 5 (.neu 6 (.eff 7 (.neu 8 .done) .stop))))))))) .leaf) (.seq 0 [6,40] .leaf (.br (.seq 0 [8] .leaf .leaf) .leaf))))))))) (.seq 0 [8] .leaf .leaf)))
def aVO:List (Nat × Ann):=[(Y103.id,yA),
 (Y85.id,aDD),
 (Y87.id,aBL),
 (Y8.id,oS),
 (Y21.id,nD),
 (Y40.id,nC),
 (Y39.id,mW),
 (Y152.id,aDQ),
 (Y125.id,aA1),
 (Y138.id,yV),
 (Y134.id,yI),
 (Y147.id,aAK),
 (Y132.id,xU),
 (Y110.id,vH),
 (Y77.id,nV),
 (Y4.id,pK),
 (Y93.id,oP),
 (Y22.id,lN),
 (Y91.id,gG),
 (Y46.id,qE),
 (Y63.id,kD),
 (Y47.id,nP),
 (Y135.id,pN),
 (Y149.id,sG),
 (Y118.id,uU),
 (Y146.id,rR),
 (Y123.id,rF),
 (Y65.id,yF),
 (Y1.id,lZ),
 (Y36.id,oC),
 (Y95.id,pB),
 (Y51.id,lT),
 (Y100.id,lJ),
 (Y89.id,iP),
 (Y31.id,rM),
 (Y96.id,m6),
 (Y52.id,m0),
 (Y16.id,rQ),
 (Y86.id,m7),
 (Y3.id,oR),
 (Y145.id,uQ),
 (Y128.id,oD),
 (Y122.id,iX),
 (Y140.id,mZ),
 (Y107.id,kQ),
 (Y19.id,lS),
 (Y131.id,lX),
 (Y115.id,tD),
 (Y112.id,lV),
 (Y150.id,kO),
 (Y139.id,rK),
 (Y136.id,rL),
 (Y130.id,wJ),
 (Y137.id,iR),
 (Y114.id,uS),
 (Y154.id,mQ),
 (Y148.id,aAZ),
 (Y37.id,gI),
 (Y61.id,sZ),
 (Y58.id,kU),
 (Y5.id,mE),
 (Y17.id,sF),
 (Y30.id,pP),
 (Y48.id,xT),
 (Y33.id,zD),
 (Y42.id,vP),
 (Y10.id,aA8),
 (Y20.id,wO),
 (Y99.id,aA7),
 (Y54.id,rI),
 (Y111.id,mI),
 (Y116.id,fV),
 (Y109.id,oT),
 (Y29.id,jA),
 (Y82.id,sQ),
 (Y81.id,o6),
 (Y153.id,rS),
 (Y117.id,tM),
 (Y141.id,tO),
 (Y133.id,tK),
 (Y126.id,j9),
 (Y11.id,uH),
 (Y18.id,rP),
 (Y53.id,kB),
 (Y101.id,jM),
 (Y73.id,jX),
 (Y68.id,kR),
 (Y70.id,jS),
 (Y25.id,lO),
 (Y66.id,yD),
 (Y24.id,oV),
 (Y27.id,tN),
 (Y14.id,pR),
 (Y6.id,pA),
 (Y2.id,oW),
 (Y84.id,nE),
 (Y32.id,xW),
 (Y0.id,oU),
 (Y50.id,rE),
 (Y13.id,wH),
 (Y38.id,z9),
 (Y78.id,aA6),
 (Y35.id,aBR),
 (Y41.id,yH),
 (Y45.id,tZ),
 (Y142.id,jJ),
 (Y108.id,oN),
 (Y119.id,eR),
 (Y143.id,pT),
 (Y129.id,oB),
 (Y121.id,rH),
 (Y71.id,tT),
 (Y113.id,gZ),
 (Y144.id,rG),
 (Y120.id,eD),
 (Y72.id,iY),
 (Y83.id,gV),
 (Y67.id,mL),
 (Y60.id,kP),
 (Y88.id,iJ),
 (Y74.id,gJ),
 (Y80.id,fU),
 (Y62.id,kS),
 (Y44.id,tH),
 (Y55.id,pO),
 (Y34.id,pC),
 (Y76.id,xS),
 (Y90.id,aBI),
 (Y7.id,xZ),
 (Y124.id,iM),
 (Y155.id,oQ),
 (Y127.id,rO),
 (Y102.id,rT),
 (Y151.id,gA),
 (Y98.id,kT),
 (Y28.id,mT),
 (Y15.id,nG),
 (Y59.id,jO),
 (Y56.id,jH),
 (Y75.id,jN),
 (Y9.id,yC),
 (Y12.id,m9),
 (Y23.id,aAQ),
 (Y106.id,iO),
 (Y57.id,kG),
 (Y79.id,iH),
 (Y97.id,gK),
 (Y94.id,fT),
 (Y92.id,eY),
 (Y43.id,lL),
 (Y64.id,iK),
 (Y69.id,gL),
 (Y49.id,iL)]
def evT:List aO8:=[(Y105.id,sV),(Y104.id,aOK)]
theorem aTR {X:a0} (hX:∀ f args h K,aNF xY f args h K→X f args h K):aGL (lkC evT) X:=by
 refine aUH fun r hr=>?_
 simp only [evT,List.mem_cons,List.not_mem_nil,or_false] at hr
 rcases hr with rfl | rfl
 ·exact fun args s H y K R hy hk=>hX _ _ _ _ ⟨_,Y105.row,aA9 args s H y K R hy hk⟩
 ·exact fun args s H y K R hy hk=>hX _ _ _ _ ⟨_,Y104.row,aNN args s H y K R hy hk⟩
end Go.Proofs.YtfoekpcljhbijaaGreatDoor
namespace Go.GAM
open Go.RowKit
section
variable {w:World}
def xG (w:World) (S:Nat→Bool) (G:Nat):aA:=(List.range G).map fun g=>bif S g then lQ w (fun _=>1) g else dead
def muG (w:World) (S:Nat→Bool) (G:Nat):Mu:=fun id ver=>bif S id&&Nat.blt id G then (match w.shape? id with
 | some (_,n)=>if ver=n then some ⟨id,0,n,1⟩ else none
 | none=>none) else none
def aN7 (w:World) (S:Nat→Bool) (G:Nat):Nat→Option Nat:=fun B=>bif S B&&Nat.blt B G then (if (w.shape? B).isSome then some B else none) else none
def aIR (w:World) (S:Nat→Bool) (G:Nat):Prop:=∀ g,g<G→S g=true→(lQ w (fun _=>1) g).cells.all nL=true
theorem aHQ {μ μ':Mu} {a:AV} {v:Value} (h:aX μ a v) (hc:nL a=true):aX μ' a v:=by
 cases h <;> first | exact .b _ | exact .i _ _ | exact .s _ _ (by assumption) | exact .pn | exact .sn | exact .nf | exact .ni | (simp [nL] at hc; done)
theorem aF1 {S:Nat→Bool} {G g:Nat} (h:g<G):(xG w S G)[g]? = some (bif S g then lQ w (fun _=>1) g else dead):=by
 unfold xG; simp [h]
theorem aQF (w : World) (S : Nat → Bool) (G : Nat) (hc : aIR w S G) : Rel w (fun B => B < w.heap.size) (muG w S G) (aN7 w S G) (xG w S G) w where
 os:=rfl
 tape:=rfl
 output:=rfl
 size0:=Nat.le_refl _
 fz:=fun B hB=>⟨hB,rfl⟩
 ownlt := fun B id h => by
  unfold aN7 at h
  cases hb:(S B&&Nat.blt B G) with
  | false=>rw [hb] at h; cases h
  | true =>
   rw [hb] at h
   simp only [cond_true] at h
   split at h
   ·rename_i hs
    obtain ⟨x,hx⟩:=Option.isSome_iff_exists.1 hs
    exact pZ hx
   ·cases h
 mulen := fun id ver l h => by
  unfold muG at h
  cases hb:(S id&&Nat.blt id G) with
  | false=>rw [hb] at h; cases h
  | true =>
   rw [hb] at h
   simp only [cond_true] at h
   rw [Bool.and_eq_true] at hb
   have hlt:id<G:=Nat.le_of_ble_eq_true hb.2
   split at h
   ·rename_i t n hs
    obtain ⟨c,fr,hh,hcs⟩:=sK hs
    refine ⟨lQ w (fun _=>1) id,by rw [aF1 hlt,hb.1] <;> rfl,fun _=>?_⟩
    split at h
    ·rename_i hv
     unfold lQ
     rw [hh]
     simp [hv,hcs]
    ·cases h
   ·cases h
 blk := fun id b hb hl => by
  have hid:id<G:=by
   have:=aV hb
   unfold xG at this
   simpa using this
  rw [aF1 hid] at hb
  cases hS:S id with
  | false =>
   rw [hS] at hb
   cases hb
   exact absurd hl (by simp [dead])
  | true =>
   rw [hS] at hb
   cases hb
   have hcl:=hc id hid hS
   have hcond:(S id&&Nat.blt id G)=true:=by rw [hS]; exact Nat.ble_eq_true_of_le hid
   unfold lQ at hl hcl ⊢
   split at hl
   ·rename_i c el fr hh
    have hs:w.shape? id=some (el,c.size):=by unfold World.shape?; rw [hh]
    have hown:aN7 w S G id=some id:=by unfold aN7; rw [hcond]; simp [hs]
    have hmu:muG w S G id c.size=some ⟨id,0,c.size,1⟩:=by unfold muG; rw [hcond,hs]; simp
    rw [hh] at hcl
    simp only [cond_true] at hcl ⊢
    refine ⟨⟨id,0,c.size,1⟩, ?_⟩
    have hlen:(c.toList.map (kL w fun _=>1)).length=c.size:=by simp
    refine { cur:=by simp only [hlen]; exact hmu,owned:=hown,sz:=rfl,len:=by simp,ex:=by simp,ro:=by simp,gl:=by simp,nomap:=rfl,tyok:=fun t ht=>(by cases ht),row:=⟨c,el,fr,hh,by simp⟩,free:=by simp,vers:=fun ver h1 h2 l' hl'=>?_ }
    have hv:ver=c.size:=by simp only [hlen] at h2; simp only at h1; omega
    subst hv
    rw [hmu] at hl'
    cases hl'
    refine { own:=hown,sz:=rfl,le:=Nat.le_refl _,base:=fun _=>rfl,cells:=fun j hj=>?_ }
    refine ⟨c[j],by simp [World.cell?,hh,hj], ?_⟩
    have e:(c.toList.map (kL w fun _=>1)).getD j .u=kL w (fun _=>1) c[j]:=by simp [List.getD,hj]
    simp only [e]
    have hm:kL w (fun _=>1) c[j]∈c.toList.map (kL w fun _=>1):=List.mem_map.2 ⟨c[j],by simp,rfl⟩
    exact aHQ (pF (szOf:=fun _=>1) (w:=w) c[j]) (List.all_eq_true.1 hcl _ hm)
   ·exact absurd hl (by simp [dead])
 maps:=fun id b es hb he=>by
  exfalso
  have hm:b∈xG w S G:=List.mem_of_getElem? hb
  unfold xG at hm
  obtain ⟨g,_,rfl⟩:=List.mem_map.1 hm
  cases hS:S g with
  | false=>rw [hS] at he; cases he
  | true =>
   rw [hS] at he
   unfold lQ at he
   simp only [cond_true] at he
   split at he <;> cases he
end
theorem aM1 {P:Program} {X:a0} (hm:P.follows .mixedOrders=true) (hsz:P.funcs.size≤yid0) {w:World} (hX:cA P w (fun B=>B<w.heap.size) (fun _ _=>none) X) {f:FuncId} (hb:g8 P f=true) {S:Nat→Bool} {G:Nat} (hc:aIR w S G)
  (hk:fA P X f [] (xG w S G) Yes):Calls P f #[] w fun e w'=>e = .returned (.bool true)∧Below w.heap.size w w':=by
 have hlt:f<yid0:=by
  unfold g8 at hb
  split at hb
  ·rename_i fn hf; exact Nat.lt_of_lt_of_le (Array.getElem?_eq_some_iff.1 hf).1 hsz
  ·cases hb
 have hs:=iE hm hsz hX f [] _ _ hk (muG w S G) (aN7 w S G) w [] (fun _ _ _ h=>by cases h) (aQF w S G hc) .nil
 rw [if_pos hlt] at hs
 have hrun:=kH hb #[] w
 rcases hs with ⟨g,avs',h1,h2⟩ | ⟨v,w',h1,h2⟩
 ·rw [hrun] at h1
  cases h1
  refine h2.mono fun e w' ⟨v,he,v',μ',own',h',g1,g2,g3,g4⟩=>?_
  subst he
  have g1:v' = .b true:=g1
  subst g1
  cases g2
  exact ⟨rfl,g3.os,g3.tape,g3.output,g3.size0,fun k hk=>(g3.fz k hk).2⟩
 ·rw [hrun] at h1; cases h1
def xEx (f:FuncId):a0:=fun f' args h K=>f'=f∧args=[]∧K (.b true) h
theorem aNA {P:Program} {X:a0} (hm:P.follows .mixedOrders=true) (hsz:P.funcs.size≤yid0) {W:World} {S:Nat→Bool} {G:Nat} {H0:aA} {f:FuncId} (hb:g8 P f=true)
  (hX:∀ w:World,(∀ B,B<W.heap.size→w.heap[B]? = W.heap[B]?)→W.heap.size≤w.heap.size→cA P w (fun B=>B<w.heap.size) (fun _ _=>none) X)
  (hG:∀ w:World,(∀ B,B<W.heap.size→w.heap[B]? = W.heap[B]?)→W.heap.size≤w.heap.size→aIR w S G∧xG w S G=H0) (hk:fA P X f [] H0 Yes):cA P W (fun B=>B<W.heap.size) (fun _ _=>none) (xEx f):=by
 intro f' args h K ⟨e1,e2,hK⟩ μ own w cargs hs R hv
 subst e1 e2
 have hlt:f'<yid0:=by
  unfold g8 at hb
  split at hb
  ·rename_i fn hf; exact Nat.lt_of_lt_of_le (Array.getElem?_eq_some_iff.1 hf).1 hsz
  ·cases hb
 rw [if_pos hlt]
 cases hv
 have hfz:∀ B,B<W.heap.size→w.heap[B]? = W.heap[B]?:=fun B hB=>(R.fz B hB).2
 obtain ⟨g1,g2⟩:=hG w hfz R.size0
 exact aQ7 hb R (aM1 hm hsz (hX w hfz R.size0) hb g1 (by rw [g2]; exact hk)) (.b true) hK
end Go.GAM
namespace Go.Proofs.YtfoekpcljhbijaaGreatDoor
open Go.GAM
section
attribute [local instance] xr0
end
end Go.Proofs.YtfoekpcljhbijaaGreatDoor
namespace Go.Proofs.YtfoekpcljhbijaaGreatDoor
open Go.GAM
section
variable [XR] {h:aA} {Q:AV→aA→Prop} {d id N:Nat} {bs ns:List UInt8}
theorem aPE {l:List UInt8} {K:List AV→Nat→Prop} (hk:K (l.map byteAV) l.length):fH 1 (.s l) h K:=⟨rfl,hk⟩
end
end Go.Proofs.YtfoekpcljhbijaaGreatDoor
namespace Go.Proofs.YtfoekpcljhbijaaGreatDoor
open Go.GAM
section
attribute [local instance] xr0
end
end Go.Proofs.YtfoekpcljhbijaaGreatDoor
namespace Go.Proofs.YtfoekpcljhbijaaGreatDoor
open Go.GAM
def hdr (n:Nat):List UInt8:=[1,UInt8.ofNat (n % 256),UInt8.ofNat (n / 256),UInt8.ofNat (255 - n % 256),UInt8.ofNat (255 - n / 256)]
section
variable [XR] {h:aA} {Q:AV→aA→Prop} {s:List UInt8}
end
end Go.Proofs.YtfoekpcljhbijaaGreatDoor
namespace Go.Proofs.YtfoekpcljhbijaaGreatDoor
open Go.GAM
def X0c:a0:=orR (aNF xY) fun f args h K=>f=Y36.id∧aVH args h K
theorem aMT:lC prog X0c:=fun w0 Fz μ f args h K hk=>
 hk.elim (j7 w0 Fz μ f args h K) fun ⟨e,c,l,ea,hl,hK⟩=>by
  subst e ea
  exact qA mixedOK sizeOK j7 w0 Fz μ _ _ h K (@aN4 xr0 h K c l hl hK)
def aTA:List aO8:=(Y36.id,aTP) :: evT
theorem aRG:aGL (lkC aTA) X0c:=by
 intro f x hx args s H y K R hy hk
 unfold aTA lkC at hx
 cases hb:Nat.beq Y36.id f with
 | true =>
  rw [hb] at hx
  cases hx
  exact .inr ⟨(Nat.eq_of_beq_eq_true hb).symm,aSI args s H y K R hy hk⟩
 | false =>
  rw [hb] at hx
  exact aTR (X:=X0c) (fun _ _ _ _ h=>.inl h) f x hx args s H y K R hy hk
theorem aMV:fA prog X0c Y103.id [] [] Yes:=
 aRT aRG HR.nil (show aS7 prog (lkC aTA) (lkA aVO) 100000 100 Y103.id [] ⟨.e,0⟩=true by kernel_rfl) fun _=>rfl
end Go.Proofs.YtfoekpcljhbijaaGreatDoor
namespace Go.Proofs.YtfoekpcljhbijaaGreatDoor
open Go.GAM
def X1:a0:=orR (orR (aNF xY) (aFX prog (@C xr0) (fA prog))) (aFC prog (@C xr0))
theorem aPW:lC prog X1:=fun w0 Fz μ f args h K hk=>
 hk.elim (fun hk=>hk.elim (j7 w0 Fz μ f args h K) (aNC mixedOK sizeOK (qA mixedOK sizeOK j7) (o9 _) (fun w0 Fz μb Y hY=>iE mixedOK sizeOK hY) w0 Fz μ f args h K))
  (aK6 mixedOK sizeOK (qA mixedOK sizeOK j7) w0 Fz μ f args h K)
def X2:a0:=orR X1 (xEx Y103.id)
noncomputable instance xr1:XR:=⟨X2⟩
theorem aTB {W:World}:cA prog W (fun B=>B<W.heap.size) (fun _ _=>none) (@X xr1):=fun f args h K hk=>
 hk.elim (aPW _ _ _ f args h K) (aNA mixedOK sizeOK (S:=fun _=>false) (G:=0) (H0:=[]) (by kernel_rfl) (fun w _ _=>aMT _ _ _) (fun w _ _=>⟨fun g hg=>absurd hg (Nat.not_lt_zero g),rfl⟩) aMV f args h K)
theorem aD8 {h:aA} {Q:AV→aA→Prop} (hq:Q (.b true) h):C Y103.id [] h Q:=aKQ (.inr ⟨rfl,rfl,hq⟩)
end Go.Proofs.YtfoekpcljhbijaaGreatDoor
namespace Go.Proofs.YtfoekpcljhbijaaGreatDoor
open Go.GAM Go.RowKit
section
variable {h:aA} {Q:AV→aA→Prop}
abbrev Bld (h:aA) (id off:Nat) (cs:List AV) (buf:AV) (l:List UInt8):Prop:=jC prog 67 5 h id off cs buf l
theorem aTE {v:AV} (hk:Q v h):C Y104.id [v] h Q:=aKQ (.inl (.inl (.inl ⟨aCD,by simp [xY],hk⟩)))
theorem aQW {α:Type} {l:List α} {i:Nat} {a:α} (h:l[i]? = some a):l.set i a=l:=by
 apply List.ext_getElem?
 intro j
 by_cases hj:i=j
 ·subst hj; rw [List.getElem?_set_self (aV h),h]
 ·rw [List.getElem?_set_ne hj]
theorem aFJ {id off n:Nat} {cs:List AV} {buf:AV} {l:List UInt8} (B:Bld h id off cs buf l) (hn:n=cs.length)
  (hq:∀ h',h'.length=h.length→Upd (· = id) h h'→Bld h' id off (cs.set off (.p (some ⟨id,n,off⟩))) buf l→Q (.tu []) h'):C Y89.id [.p (some ⟨id,n,off⟩)] h Q:=by
 subst hn
 refine Y89.call ?_
 simp only [Y89.t]
 have hr:=B.room
 have hne:off≠off+1:=by omega
 have cell1:∀ v:AV,(cs.set off v)[off+1]? = some buf:=fun v=>by rw [List.getElem?_set_ne hne]; exact B.cell
 have cell0:∀ v:AV,(cs.set off v)[off]? = some v:=fun v=>by rw [List.getElem?_set_self (by omega)]
 rcases B.addr with h0 | h0
 ·refine qB (nZ (aE B.rec' rfl h0 (kN (by kernel_rfl) (aR (aN rfl ?_)))))
  refine aLA B.rec' rfl (by omega) (aTE ?_)
  refine B.fromUnsafe (qB (nZ ?_))
  refine B.store (by omega) rfl rfl rfl (.inr (cell0 _)) (cell1 _) B.is B.own fun h1 hl1 U1 B1=>?_
  exact .inl (hq h1 hl1 U1 B1)
 ·refine qB (nZ (aE B.rec' rfl h0 (cF (by kernel_rfl) (aR (aG rfl ?_)))))
  refine qB (nZ (aE B.rec' rfl h0 (aLF (by kernel_rfl) (aR (aG rfl ?_)))))
  have e:cs.set off (.p (some ⟨id,cs.length,off⟩))=cs:=aQW h0
  refine .inl (hq h rfl (Upd.refl _ _) ?_)
  rw [e]; exact B
def wrB (cs:List AV) (id off:Nat) (buf:AV):List AV:=(cs.set off (.p (some ⟨id,cs.length,off⟩))).set (off+1) buf
theorem aKV {cs:List AV} {id off:Nat} {buf:AV}:(wrB cs id off buf).length=cs.length:=by simp [wrB]
theorem rY {id off n:Nat} {cs:List AV} {buf:AV} {l t:List UInt8} (B:Bld h id off cs buf l) (hn:n=cs.length) (hl:l.length+t.length<100000000)
  (hq:∀ buf' h',Upd (fun i=>i=id∨aQ buf i) h h'→Bld h' id off (wrB cs id off buf') buf' (l++t)→(∀ i,aQ buf' i→aQ buf i∨h.length≤i)→Q (.tu [.i .i64 (t.length:Int),.ni]) h'):C Y91.id [.p (some ⟨id,n,off⟩),.s t] h Q:=by
 subst hn
 refine Y91.call ?_
 simp only [Y91.t]
 refine aFJ B rfl fun h1 hl1 U1 B1=>?_
 have hr:=B.room
 have hlt:=B.lt
 have hcl:cs.length=(cs.set off (.p (some ⟨id,cs.length,off⟩))).length:=by simp
 refine qB (nZ (aE B1.rec' hcl B1.cell ?_))
 refine B1.is.append (t:=t) (fun K hK=>aPE hK) (by omega) fun v' h3 U3 T3 F3=>?_
 have hown:¬ aQ v' id:=fun hi=>by
  rcases F3 id hi with h | h
  ·exact B.own h
  ·omega
 have hUall:Upd (fun i=>i=id∨aQ buf i) h h3:=(U1.mono fun _ _ h=>Or.inl h).trans (U3.mono fun _ _ h=>.inr h) fun _ _ h=>h
 refine qB (nZ ?_)
 rw [hcl]
 refine B1.put U3 T3 hown fun h4 hl4 U4 B4=>?_
 refine .inl (hq v' h4 (hUall.trans (U4.mono fun _ _ h=>.inl h) fun _ _ h=>h) B4 fun i hi=>?_)
 rcases F3 i hi with h | h
 ·exact .inl h
 ·exact .inr (by omega)
theorem aC1 {id off n:Nat} {cs:List AV} {buf:AV} {l:List UInt8} (B:Bld h id off cs buf l) (hn:n=cs.length) (hl:l.length≤100000000) (hq:∀ h',Upd (aQ buf) h h'→h'.length=h.length→Q (.s l) h'):C Y63.id [.p (some ⟨id,n,off⟩)] h Q:=by
 subst hn
 refine Y63.call ?_
 simp only [Y63.t]
 have hlen:∀ K:Int→Prop,K (l.length:Int)→bR buf K:=fun K hk=>by
  rcases B.is with ⟨rfl,rfl⟩ | ⟨_,_,rfl,_⟩ <;> exact hk
 refine qB (nZ (aE B.rec' rfl B.cell (qB (nZ (aE B.rec' rfl B.cell (hlen _ ?_))))))
 refine B.is.data ?_
 refine aE B.rec' rfl B.cell ⟨rfl, ?_⟩
 refine B.is.text (by kernel_rfl) (by kernel_rfl) (by omega) fun h1 hl1 U1=>?_
 exact bM (.inl (hq h1 U1 hl1))
theorem tU {id n len i:Nat} {cap:Option Nat} {cs:List AV} {K:AV→Prop} (R:aZ h id cs) (hn:n=cs.length) (hi:i<len) (hk:K (.p (some ⟨id,n,i⟩))):aU 1 (.sl (some ⟨id,n,0⟩) len cap) (.i .i64 (i:Int)) h K:=by
 obtain ⟨b,h1,rfl,h3,h4⟩:=R
 subst hn
 refine ⟨by omega,by omega,⟨b,h1,h3,h3⟩, ?_⟩
 simpa using hk
theorem aUS {a b c d:UInt8} {K:AV→aA→Prop} (hk:∀ h',h'.length=h.length+1→Upd (fun _=>False) h h'→aZ h' h.length [byteAV a,byteAV b,byteAV c,byteAV d]→(∃ b:ABlk,h'[h.length]? = some b∧b.sz=1∧b.floor≤4∧b.cells.length=4)→K (.sl (some ⟨h.length,4,0⟩) 4 none) h') :
  gX (.s [a,b,c,d]) h K:=
 hk _ (by simp) (Upd.app _ _) ⟨bC [byteAV a,byteAV b,byteAV c,byteAV d] 1 false,by simp,rfl,Nat.le_refl _,rfl⟩ ⟨bC [byteAV a,byteAV b,byteAV c,byteAV d] 1 false,by simp,rfl,Nat.le_refl _,rfl⟩
theorem sl3 {id:Nat} {K:AV→Prop} (hb:∃ b:ABlk,h[id]? = some b∧b.sz=1∧b.floor≤4∧b.cells.length=4) (hk:K (.sl (some ⟨id,4,0⟩) 4 (some 4))):bW 1 (.sl (some ⟨id,4,0⟩) 4 none) (some (iN 0)) (some (iN 4)) (some (iN 4)) h K:=by
 obtain ⟨b,h1,h2,h3,h4⟩:=hb
 refine ⟨Nat.one_pos,fun _=>rfl,by omega,by omega,by decide,b,h1,by omega,h3,.inl h2,by omega,by decide,.inl (by decide), ?_⟩
 simpa using hk
theorem aQX {id:Nat} {cap:Option Nat} {a b c d:UInt8} (R:aZ h id [byteAV a,byteAV b,byteAV c,byteAV d]) (hq:Q (iN (bN [d,c,b,a])) h):C Y42.id [.sl (some ⟨id,4,0⟩) 4 cap] h Q:=by
 have ha:=a.toNat_lt
 have hb:=b.toNat_lt
 have hc:=c.toNat_lt
 have hd:=d.toNat_lt
 have step:∀ {x i:Nat} {e:UInt8},[byteAV a,byteAV b,byteAV c,byteAV d][i]? = some (byteAV e)→i<4→x<2 ^ 40→Y42.p0 (aH h Q) ((x * 256+e.toNat:Nat):Int) (.sl (some ⟨id,4,0⟩) 4 cap) 4 ((i+1:Nat):Int) h→Y42.p0 (aH h Q) (x:Int) (.sl (some ⟨id,4,0⟩) 4 cap) 4 (i:Int) h:=by
  intro x i e he hi hx H
  have he':=e.toNat_lt
  refine Y42.i0 ?_
  simp only [Y42.t0, ← Y42.p0.eq_1]
  refine aN (decide_eq_true (by omega)) (tU R rfl hi (aE R rfl he (cY ?_)))
  refine ⟨by decide, ?_⟩
  have e1:IntKind.wrap .i64 ((x:Int) * 2 ^ (min (8:Int).toNat IntKind.i64.bits))=(x:Int) * 256:=by
   show IntKind.wrap .i64 ((x:Int) * 2 ^ 8)=_
   rw [show (2:Int) ^ 8=256 by decide]
   exact aY (by omega) (by omega)
  have e2:IntKind.wrap .i64 ((e.toNat:Nat):Int)=((e.toNat:Nat):Int):=aY (by omega) (by omega)
  rw [e1,e2]
  refine aT (n:=((x * 256+e.toNat:Nat):Int)) (by rw [aT3 (by omega) (by omega) (by omega)]; omega) ?_
  exact aT (n:=((i+1:Nat):Int)) (by rw [aY (by omega) (by omega)]; omega) H
 refine Y42.call ?_
 simp only [Y42.t, ← Y42.p0.eq_1]
 refine aP5 ?_
 refine step (x:=0) (i:=0) (e:=a) rfl (by decide) (by decide) ?_
 refine step (i:=1) (e:=b) rfl (by decide) (by omega) ?_
 refine step (i:=2) (e:=c) rfl (by decide) (by omega) ?_
 refine step (i:=3) (e:=d) rfl (by decide) (by omega) ?_
 refine Y42.i0 ?_
 simp only [Y42.t0]
 refine aG (by decide) (.inl ?_)
 have:((((0 * 256+a.toNat) * 256+b.toNat) * 256+c.toNat) * 256+d.toNat)=bN [d,c,b,a]:=by simp only [bN]; omega
 rw [this]
 exact hq
theorem aOX {id:Nat} {cap:Option Nat} {a b c d:UInt8} (R:aZ h id [byteAV a,byteAV b,byteAV c,byteAV d]) (hq:∀ h',h'.length=h.length→Upd (· = id) h h'→aZ h' id [byteAV d,byteAV c,byteAV b,byteAV a]→Q (.tu []) h'):C Y37.id [.sl (some ⟨id,4,0⟩) 4 cap] h Q:=by
 refine Y37.call ?_
 simp only [Y37.t, ← Y37.p0.eq_1]
 refine aP5 (aT (n:=((3:Nat):Int)) (by decide) ?_)
 refine Y37.i0 ?_
 simp only [Y37.t0, ← Y37.p0.eq_1]
 refine aN (by decide) ?_
 refine tU (i:=3) R rfl (by decide) (aE R rfl (v:=byteAV d) rfl (cY ?_))
 refine tU (i:=0) R rfl (by decide) (aE R rfl (v:=byteAV a) rfl (cY ?_))
 refine tU (i:=0) R rfl (by decide) (aJ R rfl (by show 0<4; decide) (hk:=fun h1 l1 U1 R1=>?_))
 refine tU (i:=3) R1 rfl (by decide) (aJ R1 rfl (by show 3<4; decide) (hk:=fun h2 l2 U2 R2=>?_))
 refine aT (n:=((1:Nat):Int)) (by decide) (aT (n:=((2:Nat):Int)) (by decide) ?_)
 refine Y37.i0 ?_
 simp only [Y37.t0, ← Y37.p0.eq_1]
 refine aN (by decide) ?_
 refine tU (i:=2) R2 rfl (by decide) (aE R2 rfl (v:=byteAV c) rfl (cY ?_))
 refine tU (i:=1) R2 rfl (by decide) (aE R2 rfl (v:=byteAV b) rfl (cY ?_))
 refine tU (i:=1) R2 rfl (by decide) (aJ R2 rfl (by show 1<4; decide) (hk:=fun h3 l3 U3 R3=>?_))
 refine tU (i:=2) R3 rfl (by decide) (aJ R3 rfl (by show 2<4; decide) (hk:=fun h4 l4 U4 R4=>?_))
 refine aT (n:=((2:Nat):Int)) (by decide) (aT (n:=((1:Nat):Int)) (by decide) ?_)
 refine Y37.i0 ?_
 simp only [Y37.t0]
 refine aG (by decide) (.inl (hq h4 (by omega) ?_ R4))
 exact ((U1.trans U2 fun _ _ h=>h).trans U3 fun _ _ h=>h).trans U4 fun _ _ h=>h
theorem aJY {n:Nat} (h1:1≤n) (h7:n≤7) (hq:Q (.b true) h):C Y48.id [iN n] h Q:=by
 refine Y48.call ?_
 simp only [Y48.t, ← Y48.p0.eq_1]
 refine aN (decide_eq_true (by omega)) ?_
 refine Y48.i0 ?_
 simp only [Y48.t0]
 rw [decide_eq_true (by omega)]
 exact .inl hq
theorem tY {s:List UInt8} {at':Nat} (hs:s.length<2 ^ 40) (ha:at'+4≤s.length) (hq:Q (.tu [iN (bN ((s.take (at'+4)).drop at')),iN 0]) h):C Y31.id [.s s,iN at',iN 4] h Q:=by
 obtain ⟨a,b,c,d,e4⟩:∃ a b c d,(s.take (at'+4)).drop at'=[a,b,c,d]:=by
  have hl:((s.take (at'+4)).drop at').length=4:=by simp; omega
  match hL:(s.take (at'+4)).drop at',hl with
  | [a,b,c,d],_=>exact ⟨a,b,c,d,rfl⟩
 rw [e4] at hq
 refine Y31.call ?_
 simp only [Y31.t, ← Y31.p0.eq_1]
 refine aJY (by decide) (by decide) (aR (aN rfl (aN (decide_eq_true (by omega)) (aN (decide_eq_true (by omega)) ?_))))
 refine aT (n:=((s.length - at':Nat):Int)) (by rw [aY (by omega) (by omega)]; omega) ?_
 rw [decide_eq_true (by omega)]
 refine Y31.i0 ?_
 simp only [Y31.t0, ← Y31.p1.eq_1]
 refine aN rfl (aT (n:=((at'+4:Nat):Int)) (by rw [aY (by omega) (by omega)]; omega) ?_)
 refine uN (by omega) ha ?_
 rw [e4]
 refine Y31.i1 ?_
 simp only [Y31.t1]
 refine Y33.call ?_
 simp only [Y33.t, ← Y33.p0.eq_1]
 refine aJY (by decide) (by decide) (aR (aG rfl ?_))
 refine Y33.i0 ?_
 simp only [Y33.t0, ← Y33.p1.eq_1]
 refine aG rfl (aG rfl (aT (n:=((4:Nat):Int)) (by show IntKind.wrap .i64 (((4:Nat):Int) - 0)=_; decide) ?_))
 refine Y33.i1 ?_
 simp only [Y33.t1]
 refine aG rfl ?_
 refine aUS fun h1 l1 U1 R1 b1=>?_
 refine aT (n:=((4:Nat):Int)) (by decide) (aT (n:=((4:Nat):Int)) (by decide) ?_)
 refine sl3 b1 (.inl ?_)
 simp only [cX,cW]
 refine aC (aOX R1 fun h2 l2 U2 R2=>aQX R2 (aC ?_))
 refine qT rfl (Upd.ext (U1.own U2 (Nat.le_refl _))) hq
end
end Go.Proofs.YtfoekpcljhbijaaGreatDoor
namespace Go.Proofs.YtfoekpcljhbijaaGreatDoor
open Go.GAM Go.RowKit
structure GR where
 hd:Hd
 nm:AV
 out:Nat
 ratio:Nat
 data:AV
 crc:Int
 size:Nat
 trailer:List UInt8
 within:Bool
 dead:Bool
 names:AV
 sizes:AV
def GR.cells (r:GR):List AV:=[iN r.hd.part,iN r.hd.count,iN r.hd.flags,iN r.hd.extra,.i .u32 r.hd.sum,iN r.hd.check,r.nm,iN r.out,iN r.ratio,r.data,.i .u32 r.crc,iN r.size,.s r.trailer,.b r.within,.b r.dead,r.names,r.sizes]
abbrev zp (g:Nat):AV:=.p (some ⟨g,17,0⟩)
section
variable {h:aA} {Q:AV→aA→Prop} {g:Nat} {r:GR}
theorem aQ3 {x y:Nat} (hx:x<2 ^ 62) (hy:y<2 ^ 62):(!decide (bA .and .i64 (x:Int) ((y:Nat):Int)=0))=(x &&& y != 0):=by
 rw [mB hx hy]
 by_cases e:x &&& y=0 <;> simp [e]
theorem aSB (hf : r.hd.flags < 32) : ∀ (f p : Nat) (h : aA), p ≤ 8 → (8 < p + f ∨ p < 3 ∧ 0 < f) → aZ h g ({ r with hd := { r.hd with part := p } } : GR).cells →
  (∀ h',h'.length=h.length→Upd (· = g) h h'→aZ h' g ({ r with hd:={ r.hd with part:=eG r.hd.flags r.hd.extra f p } }:GR).cells→Q (.tu []) h')→Y30.p0 Q (zp g) h:=by
 intro f
 induction f with
 | zero=>intro p h h1 h2; omega
 | succ f ih =>
  intro p h hp hpf R hq
  have out:∀ w,w=gD r.hd.flags r.hd.extra p→Y30.p1 Q (zp g) w h:=by
   rintro w rfl
   refine Y30.i1 ?_
   simp only [Y30.t1,bE,bD, ← Y30.p0.eq_1]
   unfold eG at hq
   cases hw:gD r.hd.flags r.hd.extra p with
   | true =>
    rw [hw] at hq
    exact aN rfl (hq h rfl (Upd.refl _ _) R)
   | false =>
    rw [hw] at hq
    have hp7:3≤p∧p≤7:=by
     unfold gD at hw
     split at hw <;> first | omega | cases hw
    refine aG rfl (aE R rfl rfl (aC ?_))
    refine aT (n:=((p+1:Nat):Int)) (by show IntKind.wrap .i64 ((p:Int)+1)=_; rw [aY (by omega) (by omega)]; omega) ?_
    refine aJ R rfl (by show 0<17; decide) (hk:=fun h1 l1 U1 R1=>?_)
    exact ih (p+1) h1 (by omega) (.inl (by omega)) R1 fun h2 l2 U2 R2=>hq h2 (by omega) (U1.trans U2 fun _ _ h=>h) R2
  refine Y30.i0 ?_
  simp only [Y30.t0,bE,bD, ← Y30.p1.eq_1]
  refine aE R rfl rfl (aC ?_)
  show (bif decide ((p:Int)=3) then _ else _)
  have hR2:aZ h g ({ r with hd:={ r.hd with part:=p } }:GR).cells:=R
  refine aI (fun e=>?_) fun e3=>?_
  ·have e : p = 3 := by have e : (p : Int) = 3 := of_decide_eq_true e; omega
   refine aE R rfl rfl (aC (out _ ?_))
   subst e
   exact aQ3 (x:=r.hd.flags) (y:=4) (by omega) (by decide)
  ·refine aI (fun e => ?_) fun e4 => ?_
   ·have e : p = 4 := by have e : (p : Int) = 4 := of_decide_eq_true e; omega
    refine aE R rfl rfl (aC (out _ ?_))
    subst e
    show decide ((0:Int)<((r.hd.extra:Nat):Int))=decide (0<r.hd.extra)
    by_cases hx:0<r.hd.extra <;> simp [hx]
   ·refine aI (fun e => ?_) fun e5 => ?_
    ·have e : p = 5 := by have e : (p : Int) = 5 := of_decide_eq_true e; omega
     refine aE R rfl rfl (aC (out _ ?_))
     subst e
     exact aQ3 (x:=r.hd.flags) (y:=8) (by omega) (by decide)
    ·refine aI (fun e => ?_) fun e6 => ?_
     ·have e : p = 6 := by have e : (p : Int) = 6 := of_decide_eq_true e; omega
      refine aE R rfl rfl (aC (aT rfl (out _ ?_)))
      subst e
      exact aQ3 (x:=r.hd.flags) (y:=16) (by omega) (by decide)
     ·refine aI (fun e => ?_) fun e7 => ?_
      ·have e : p = 7 := by have e : (p : Int) = 7 := of_decide_eq_true e; omega
       refine aE R rfl rfl (aC (out _ ?_))
       subst e
       exact aQ3 (x:=r.hd.flags) (y:=2) (by omega) (by decide)
      ·refine out true ?_
       have e3:¬ (p:Int)=3:=of_decide_eq_false e3
       have e4:¬ (p:Int)=4:=of_decide_eq_false e4
       have e5:¬ (p:Int)=5:=of_decide_eq_false e5
       have e6:¬ (p:Int)=6:=of_decide_eq_false e6
       have e7:¬ (p:Int)=7:=of_decide_eq_false e7
       unfold gD
       split <;> first | rfl | omega
theorem aTX (hf:r.hd.flags<32) (hp:r.hd.part<8) (R:aZ h g r.cells) (hq:∀ h',h'.length=h.length→Upd (· = g) h h'→aZ h' g ({ r with hd:=eV r.hd true }:GR).cells→Q (.tu []) h'):C Y95.id [zp g] h Q:=by
 refine Y95.call ?_
 simp only [Y95.t,bE,bD]
 refine aE R rfl rfl (aC ?_)
 refine aT (n:=((r.hd.part+1:Nat):Int)) (by rw [aY (by omega) (by omega)]; omega) ?_
 refine aJ R rfl (by show 0<17; decide) (hk:=fun h1 l1 U1 R1=>?_)
 refine aJ R1 rfl (by show 1<17; decide) (hk:=fun h2 l2 U2 R2=>?_)
 refine Y30.call ?_
 simp only [Y30.t, ← Y30.p0.eq_1]
 refine aSB (r:={ r with hd:={ r.hd with count:=0 } }) hf 6 (r.hd.part+1) h2 (by omega) (by omega) R2 fun h3 l3 U3 R3=>.inl (.inl ?_)
 exact hq h3 (by omega) ((U1.trans U2 fun _ _ h=>h).trans U3 fun _ _ h=>h) R3
theorem aVI {x:Int} (hx:∃ v:BitVec 32,x=((v.toNat:Nat):Int)):IntKind.wrap .i64 (bA .and .u32 x 65535)=((x.toNat % 65536:Nat):Int):=by
 obtain ⟨v,rfl⟩:=hx
 have e:bA .and .u32 ((v.toNat:Nat):Int) 65535=((v.toNat % 65536:Nat):Int):=by
  show IntKind.wrap .u32 (((BitVec.ofInt 32 ((v.toNat:Nat):Int) &&& BitVec.ofInt 32 65535).toNat:Nat):Int)=_
  rw [uZ,BitVec.toNat_and]
  have e2:(BitVec.ofInt 32 65535).toNat=2 ^ 16 - 1:=by decide
  rw [e2,Nat.and_two_pow_sub_one_eq_mod]
  have hlt:v.toNat % 2 ^ 16<65536:=Nat.mod_lt _ (by decide)
  show IntKind.wrap .u32 ((v.toNat % 2 ^ 16:Nat):Int)=((v.toNat % 65536:Nat):Int)
  rw [show (2:Nat) ^ 16=65536 by decide] at hlt ⊢
  generalize v.toNat % 65536=t at hlt ⊢
  simp only [IntKind.wrap,IntKind.bits,IntKind.signed,Bool.false_and]
  have:(2:Int) ^ 32=4294967296:=by decide
  rw [this]
  simp
  omega
 rw [e,Int.toNat_natCast]
 have hlt:v.toNat % 65536<65536:=Nat.mod_lt _ (by decide)
 exact aY (by omega) (by omega)
theorem aPA {x y:Nat} (hx:x<2 ^ 62) (hy:y<2 ^ 62):bA .xor .i64 x y=((x ^^^ y:Nat):Int):=by
 have h:x ^^^ y<2 ^ 62:=Nat.xor_lt_two_pow hx hy
 show IntKind.wrap .i64 (((BitVec.ofInt 64 (x:Int)) ^^^ (BitVec.ofInt 64 (y:Int))).toNat:Int)=_
 rw [BitVec.toNat_xor,Go.GAM.bits_nat (by omega),Go.GAM.bits_nat (by omega),aY (by omega) (by omega)]
theorem aF8 {c:UInt8} {k:Nat} (hk:k<2) {K:Int→Prop} (hq:K ((c.toNat * 2 ^ (8 * k):Nat):Int)):mU .i64 (IntKind.wrap .i64 ((c.toNat:Nat):Int)) ((8 * k:Nat):Int) K:=by
 have hc:=c.toNat_lt
 have e:IntKind.wrap .i64 ((c.toNat:Nat):Int)=((c.toNat:Nat):Int):=aY (by omega) (by omega)
 rw [e]
 refine ⟨by omega, ?_⟩
 have e2:IntKind.wrap .i64 (((c.toNat:Nat):Int) * 2 ^ (min ((8 * k:Nat):Int).toNat IntKind.i64.bits))=((c.toNat * 2 ^ (8 * k):Nat):Int):=by
  have hk2:k=0∨k=1:=by omega
  rcases hk2 with rfl | rfl
  ·show IntKind.wrap .i64 (((c.toNat : Nat) : Int) * 2 ^ 0) = _
   rw [show (2:Int) ^ 0=1 by decide,Int.mul_one,aY (by omega) (by omega)]; simp
  ·show IntKind.wrap .i64 (((c.toNat : Nat) : Int) * 2 ^ 8) = _
   rw [show (2:Int) ^ 8=256 by decide,aY (by omega) (by omega)]
   show _=((c.toNat * 2 ^ 8:Nat):Int)
   rw [show (2:Nat) ^ 8=256 by decide]; omega
 rw [e2]; exact hq
end
end Go.Proofs.YtfoekpcljhbijaaGreatDoor
namespace Go.Proofs.YtfoekpcljhbijaaGreatDoor
open Go.GAM Go.RowKit
section
variable {h:aA} {Q:AV→aA→Prop} {g:Nat} {r:GR}
theorem aTK {c : UInt8} (H : vT r.hd) (hp : r.hd.part < 8) (hs : ∃ v : BitVec 32, r.hd.sum = ((v.toNat : Nat) : Int)) (R : aZ h g r.cells) (T : iT u8T h r.nm r.hd.name) (hv : ¬ aQ r.nm g)
  (hqe:∀ e h' r',dB r.hd c = .inl e→Upd (fun i=>i=g∨aQ r.nm i) h h'→aZ h' g (GR.cells r')→Q (.i .i64 e) h')
  (hqo:∀ hd' h' nm',dB r.hd c = .inr hd'→Upd (fun i=>i=g∨aQ r.nm i) h h'→aZ h' g ({ r with hd:=hd',nm:=nm' }:GR).cells→iT u8T h' nm' hd'.name→(∀ i,aQ nm' i→aQ r.nm i∨h.length≤i)→¬ aQ nm' g→Q (iN 0) h') :
  C Y4.id [zp g,byteAV c] h Q:=by
 have hc:=c.toNat_lt
 have hcnt:=H.count
 unfold byteAV
 refine Y4.call ?_
 simp only [Y4.t,bE,bD, ← Y4.p0.eq_1, ← Y4.p1.eq_1, ← Y4.p3.eq_1]
 refine aE R rfl rfl (cY (aE R rfl rfl (cY ?_)))
 refine dH (cs:=[byteAV c]) rfl rfl (hk:=fun y h1 l1 U1 R1 hy=>?_)
 have Ra:=R.upd U1 fun h=>h
 refine aE Ra rfl rfl (cY ⟨rfl, ?_⟩)
 have Yb:Byt h1 y [c]:=R1
 refine Yb.str (aN4 (by show 1<9223372036854775807; decide) (cY ?_))
 refine aJ Ra rfl (by show 4<17; decide) (hk:=fun h2 l2 U2 R2=>?_)
 refine aE R2 rfl rfl (aC ?_)
 refine aT (n:=((r.hd.count+1:Nat):Int)) (by show IntKind.wrap .i64 ((r.hd.count:Int)+1)=_; rw [aY (by omega) (by omega)]; omega) ?_
 refine aJ R2 rfl (by show 1<17; decide) (hk:=fun h3 l3 U3 R3=>?_)
 have Uall:Upd (· = g) h h3:=((U1.mono fun _ _ h=>h.elim).trans U2 fun _ _ h=>h).trans U3 fun _ _ h=>h
 have UN:Upd (fun i=>i=g∨aQ r.nm i) h h3:=Uall.mono fun _ _ h=>.inl h
 have T3:iT u8T h3 r.nm r.hd.name:=T.upd Uall fun i hi e=>hv (e ▸ hi)
 have hl3:h.length≤h3.length:=Uall.1
 have sum':=rB r.hd.sum [c]
 have R3:aZ h3 g ({ r with hd:={ r.hd with sum:=bQ r.hd.sum [c],count:=r.hd.count+1 } }:GR).cells:=R3
 have fin:∀ (h':aA) (hd':Hd) (nm':AV) (last:Bool),Upd (fun i=>i=g∨aQ r.nm i) h h'→aZ h' g ({ r with hd:=hd',nm:=nm' }:GR).cells→hd'.flags<32→hd'.part<8 →
   (∀ h2 ,h2.length=h'.length→Upd (· = g) h' h2→aZ h2 g ({ r with hd:=eV hd' last,nm:=nm' }:GR).cells→Q (iN 0) h2)→Y4.p3 (aH h Q) (zp g) last h':=by
  intro h' hd' nm' last U' R' hf hp' hq
  have done:∀ h2,Q (iN 0) h2→Y4.p4 (aH h Q) h2:=fun h2 hq=>by
   refine Y4.i4 ?_
   simp only [Y4.t4]
   exact .inl hq
  refine Y4.i3 ?_
  simp only [Y4.t3, ← Y4.p4.eq_1]
  cases last with
  | true=>exact aN rfl (aTX (r:={ r with hd:=hd',nm:=nm' }) hf hp' R' fun h2 l2 U2 R2=>done h2 (hq h2 l2 U2 R2))
  | false=>exact aG rfl (done h' (hq h' rfl (Upd.refl _ _) R'))
 have adv_name:∀ (hd':Hd) (last:Bool),(eV hd' last).name=hd'.name:=fun hd' last=>by unfold eV; split <;> rfl
 have fin0:∀ (h':aA) (hd':Hd) (last:Bool),Upd (· = g) h3 h'→aZ h' g ({ r with hd:=hd' }:GR).cells→hd'.flags<32→hd'.part<8→hd'.name=r.hd.name →
   (∀ h2 nm',Upd (fun i=>i=g∨aQ r.nm i) h h2→aZ h2 g ({ r with hd:=eV hd' last,nm:=nm' }:GR).cells→iT u8T h2 nm' (eV hd' last).name→(∀ i,aQ nm' i→aQ r.nm i∨h.length≤i)→¬ aQ nm' g→Q (iN 0) h2)→Y4.p3 (aH h Q) (zp g) last h':=by
  intro h' hd' last U' R' hf hp' hn hq
  have UN':Upd (fun i=>i=g∨aQ r.nm i) h h':=UN.trans U' fun i _ e=>.inl e
  refine fin h' hd' r.nm last UN' R' hf hp' fun h2 l2 U2 R2=>hq h2 r.nm (UN'.trans U2 fun i _ e=>.inl e) R2 ?_ (fun i hi=>.inl hi) hv
  rw [adv_name,hn]
  exact (T3.upd U' fun i hi e=>hv (e ▸ hi)).upd U2 fun i hi e=>hv (e ▸ hi)
 have dec3:∀ n k:Nat,decide (((n:Nat):Int)=((k:Nat):Int))=(n == k):=fun n k=>by
  by_cases h:n=k
  ·subst h
   rw [decide_eq_true rfl]; exact (beq_self_eq_true n).symm
  ·rw [decide_eq_false (by omega)]; exact (beq_eq_false_iff_ne.2 h).symm
 have np:∀ k:Int,((r.hd.part:Nat):Int)≠k→decide (((r.hd.part:Nat):Int)=k)=false:=fun k h=>decide_eq_false h
 have yp:∀ k:Int,((r.hd.part:Nat):Int)=k→decide (((r.hd.part:Nat):Int)=k)=true:=fun k h=>decide_eq_true h
 have dec0:decide (((c.toNat:Nat):Int)=0)=(c == 0):=by
  by_cases h:c=0
  ·subst h; rfl
  ·have h2 : ¬ ((c.toNat : Nat) : Int) = 0 := fun e => h (UInt8.toNat.inj (by show c.toNat = 0; omega))
   have h3:(c == 0)=false:=by simpa using h
   rw [h3]; exact decide_eq_false h2
 have hlast:∀ (h':aA) (hd':Hd) (last:Bool),dB r.hd c = .inr (eV hd' last)→Upd (· = g) h3 h'→aZ h' g ({ r with hd:=hd' }:GR).cells→hd'.flags<32→hd'.part<8→hd'.name=r.hd.name→Y4.p3 (aH h Q) (zp g) last h':=
  fun h' hd' last ht U' R' hf hp' hn=>fin0 h' hd' last U' R' hf hp' hn fun h2 nm' a b cc d e=>hqo _ h2 nm' ht a b cc d e
 refine aE R3 rfl rfl (aC ?_)
 show (bif decide (((r.hd.part:Nat):Int)=0) then _ else _)
 have hcases:r.hd.part=0∨r.hd.part=1∨r.hd.part=2∨r.hd.part=3∨r.hd.part=4∨r.hd.part=5∨r.hd.part=6∨r.hd.part=7:=by omega
 rcases hcases with hpe | hpe | hpe | hpe | hpe | hpe | hpe | hpe
 ·
  have hc3:=H.p0 hpe
  refine aN (yp _ (by omega)) (aE R3 rfl rfl (aC ?_))
  refine aT (n:=((r.hd.count:Nat):Int)) (by show IntKind.wrap .i64 (((r.hd.count+1:Nat):Int) - 1)=_; rw [aY (by omega) (by omega)]; omega) ?_
  obtain ⟨m,hm⟩:∃ m,dW[r.hd.count]? = some m:=⟨_,List.getElem?_eq_getElem (by show r.hd.count<3; exact hc3)⟩
  refine eQ (l:=dW) hm ?_
  rw [aP6]
  by_cases hcm:c=m
  ·rw [decide_eq_true hcm]
   refine aG rfl (aE R3 rfl rfl (aC ?_))
   show Y4.p3 (aH h Q) (zp g) (decide (((r.hd.count+1:Nat):Int)=((3:Nat):Int))) h3
   rw [dec3]
   exact hlast h3 _ _ (by rw [tk0 hpe,if_pos (by rw [hm,hcm])]) (Upd.refl _ _) R3 H.flags hp rfl
  ·rw [decide_eq_false hcm]
   exact aN rfl (.inl (hqe 2 h3 _ (by rw [tk0 hpe,hm,if_neg fun e=>hcm (Option.some.inj e).symm]) UN R3))
 ·
  have hc0:=H.p1 hpe
  refine aG (np _ (by omega)) (aN (yp _ (by omega)) ?_)
  have ew:IntKind.wrap .i64 ((c.toNat:Nat):Int)=((c.toNat:Nat):Int):=aY (by omega) (by omega)
  rw [ew]
  refine aI (fun e=>?_) fun e=>?_
  ·have e : 31 < c.toNat := by have := of_decide_eq_true e; omega
   exact .inl (hqe 2 h3 _ (by rw [tk1 hpe,if_pos e]) UN R3)
  ·have e : ¬ 31 < c.toNat := by have := of_decide_eq_false e; omega
   refine aJ R3 rfl (by show 2<17; decide) (hk:=fun h4 l4 U4 R4=>?_)
   exact hlast h4 { r.hd with sum:=bQ r.hd.sum [c],count:=r.hd.count+1,flags:=c.toNat } true (by rw [tk1 hpe,if_neg e]) U4 R4 (by show c.toNat<32; omega) hp rfl
 ·
  refine aG (np _ (by omega)) (aG (np _ (by omega)) (aN (yp _ (by omega)) (aE R3 rfl rfl (aC ?_))))
  show Y4.p3 (aH h Q) (zp g) (decide (((r.hd.count+1:Nat):Int)=((6:Nat):Int))) h3
  rw [dec3]
  exact hlast h3 _ _ (tk2 hpe) (Upd.refl _ _) R3 H.flags hp rfl
 ·
  have hc3:=H.p3 hpe
  refine aG (np _ (by omega)) (aG (np _ (by omega)) (aG (np _ (by omega)) (aN (yp _ (by omega)) ?_)))
  refine aE R3 rfl rfl (aC (aE R3 rfl rfl (aC ?_)))
  refine aT (n:=((r.hd.count:Nat):Int)) (by show IntKind.wrap .i64 (((r.hd.count+1:Nat):Int) - 1)=_; rw [aY (by omega) (by omega)]; omega) ?_
  refine aT (n:=((8 * r.hd.count:Nat):Int)) (by rw [aY (by omega) (by omega)]; omega) ?_
  refine aF8 hc3.1 ?_
  have hsh:c.toNat * 2 ^ (8 * r.hd.count)<2 ^ 62:=by
   have hk2:r.hd.count=0∨r.hd.count=1:=by omega
   rcases hk2 with e | e <;> rw [e] <;> omega
  refine aT (n:=((r.hd.extra ||| c.toNat * 2 ^ (8 * r.hd.count):Nat):Int)) (aEB (x:=r.hd.extra) (Nat.lt_trans H.extra (by decide)) hsh) ?_
  refine aJ R3 rfl (by show 3<17; decide) (hk:=fun h4 l4 U4 R4=>?_)
  refine aE R4 rfl rfl (aC ?_)
  show Y4.p3 (aH h Q) (zp g) (decide (((r.hd.count+1:Nat):Int)=((2:Nat):Int))) h4
  rw [dec3]
  exact hlast h4 { r.hd with sum:=bQ r.hd.sum [c],count:=r.hd.count+1,extra:=r.hd.extra ||| c.toNat * 2 ^ (8 * r.hd.count) } _ (tk3 hpe) U4 R4 H.flags hp rfl
 ·
  refine aG (np _ (by omega)) (aG (np _ (by omega)) (aG (np _ (by omega)) (aG (np _ (by omega)) (aN (yp _ (by omega)) ?_))))
  refine aE R3 rfl rfl (aC (aE R3 rfl rfl (aC ?_)))
  show Y4.p3 (aH h Q) (zp g) (decide (((r.hd.count+1:Nat):Int)=((r.hd.extra:Nat):Int))) h3
  rw [dec3]
  exact hlast h3 _ _ (tk4 hpe) (Upd.refl _ _) R3 H.flags hp rfl
 ·
  refine aG (np _ (by omega)) (aG (np _ (by omega)) (aG (np _ (by omega)) (aG (np _ (by omega)) (aG (np _ (by omega)) (aN (yp _ (by omega)) ?_)))))
  rw [dec0]
  by_cases c0:c=0
  ·have e0 : (c == 0) = true := by simpa using c0
   rw [e0]
   refine aG rfl ?_
   refine Y4.i0 ?_
   simp only [Y4.t0, ← Y4.p3.eq_1]
   refine aG rfl (aG rfl ?_)
   exact hlast h3 _ true (by rw [tk5 hpe,if_pos c0]) (Upd.refl _ _) R3 H.flags hp rfl
  ·have e0 : (c == 0) = false := by simpa using c0
   rw [e0]
   refine aN rfl (aE R3 rfl rfl (aC ?_))
   refine Y4.i0 ?_
   simp only [Y4.t0,bE,bD, ← Y4.p3.eq_1]
   refine aI (fun e=>?_) fun e=>?_
   ·have e : 256 < r.hd.count + 1 := by have e : (256 : Int) < ((r.hd.count + 1 : Nat) : Int) := of_decide_eq_true e; omega
    exact .inl (hqe 3 h3 _ (by rw [tk5 hpe,if_neg c0,if_pos e]) UN R3)
   ·have e : ¬ 256 < r.hd.count + 1 := by have e : ¬ (256 : Int) < ((r.hd.count + 1 : Nat) : Int) := of_decide_eq_false e; omega
    refine aN rfl (aE R3 rfl rfl ?_)
    refine dH (cs:=[byteAV c]) rfl rfl (hk:=fun y4 h4 l4 U4 R4 hy4=>?_)
    have hnl:=H.name
    refine (T3.upd U4 fun _ _ h=>h).append (t:=[c]) (fun K' hK=>R4.news hK) (by simp; omega) fun v5 h5 U5 B5 g5=>?_
    have R5:=(R3.upd U4 fun h=>h).upd U5 hv
    have hv5:¬ aQ v5 g:=fun hh=>by
     rcases g5 g hh with h | h
     ·exact hv h
     ·have:=R3.lt; omega
    obtain ⟨s1,s2,s3⟩:=slv B5
    refine aJ R5 rfl (by show 6<17; decide) s1 s2 s3 (hk:=fun h6 l6 U6 R6=>?_)
    have UN6:Upd (fun i=>i=g∨aQ r.nm i) h h6:=((UN.trans (U4.mono fun _ _ h=>h.elim) fun _ _ h=>h).trans (U5.mono fun i _ h=>.inr h) fun _ _ h=>h).trans (U6.mono fun i _ h=>.inl h) fun _ _ h=>h
    refine fin h6 { r.hd with sum:=bQ r.hd.sum [c],count:=r.hd.count+1,name:=r.hd.name++[c] } v5 false UN6 R6 H.flags hp fun h7 l7 U7 R7=>?_
    refine hqo { r.hd with sum:=bQ r.hd.sum [c],count:=r.hd.count+1,name:=r.hd.name++[c] } h7 v5 (by rw [tk5 hpe,if_neg c0,if_neg e]) (UN6.trans U7 fun i _ e=>.inl e) R7 ((B5.upd U6 fun i hi e=>hv5 (e ▸ hi)).upd U7 fun i hi e=>hv5 (e ▸ hi)) (fun i hi=>?_) hv5
    rcases g5 i hi with h | h
    ·exact .inl h
    ·exact .inr (by omega)
 ·
  refine aG (np _ (by omega)) (aG (np _ (by omega)) (aG (np _ (by omega)) (aG (np _ (by omega)) (aG (np _ (by omega)) (aG (np _ (by omega)) (aN (yp _ (by omega)) ?_))))))
  rw [dec0]
  exact hlast h3 _ _ (tk6 hpe) (Upd.refl _ _) R3 H.flags hp rfl
 ·
  have hc2:=H.p7 hpe
  refine aG (np _ (by omega)) (aG (np _ (by omega)) (aG (np _ (by omega)) (aG (np _ (by omega)) (aG (np _ (by omega)) (aG (np _ (by omega)) (aG (np _ (by omega)) (aN (yp _ (by omega)) ?_)))))))
  have hsh:c.toNat * 2 ^ (8 * r.hd.count)<2 ^ 62:=by
   have hk2:r.hd.count=0∨r.hd.count=1:=by omega
   rcases hk2 with e | e <;> rw [e] <;> omega
  have ck0:(if r.hd.count=0 then r.hd.sum.toNat % 65536 else r.hd.check)<65536:=by
   split
   ·exact Nat.mod_lt _ (by decide)
   ·exact H.check
  have tail:∀ h4,Upd (· = g) h3 h4→aZ h4 g ({ r with hd:={ r.hd with sum:=bQ r.hd.sum [c],count:=r.hd.count+1,check:=if r.hd.count=0 then r.hd.sum.toNat % 65536 else r.hd.check } }:GR).cells→Y4.p1 (aH h Q) (zp g) ((c.toNat:Nat):Int) h4:=by
   intro h4 U4 R4
   refine Y4.i1 ?_
   simp only [Y4.t1,bE,bD, ← Y4.p2.eq_1]
   refine aE R4 rfl rfl (aC (aE R4 rfl rfl (aC ?_)))
   refine aT (n:=((r.hd.count:Nat):Int)) (by show IntKind.wrap .i64 (((r.hd.count+1:Nat):Int) - 1)=_; rw [aY (by omega) (by omega)]; omega) ?_
   refine aT (n:=((8 * r.hd.count:Nat):Int)) (by rw [aY (by omega) (by omega)]; omega) ?_
   refine aF8 hc2 ?_
   refine aT (n:=((chk r.hd c:Nat):Int)) (aPA (x:=if r.hd.count=0 then r.hd.sum.toNat % 65536 else r.hd.check) (Nat.lt_trans ck0 (by decide)) hsh) ?_
   refine aJ R4 rfl (by show 5<17; decide) (hk:=fun h5 l5 U5 R5=>?_)
   have R5:aZ h5 g ({ r with hd:={ r.hd with sum:=bQ r.hd.sum [c],count:=r.hd.count+1,check:=chk r.hd c } }:GR).cells:=R5
   have U35:Upd (· = g) h3 h5:=U4.trans U5 fun _ _ h=>h
   refine aE R5 rfl rfl (aC ?_)
   refine aI (fun e=>?_) fun e=>?_
   ·have e1 : r.hd.count = 1 := by have e : ((r.hd.count + 1 : Nat) : Int) = 2 := of_decide_eq_true e; omega
    rw [e]
    refine aE R5 rfl rfl (aC ?_)
    refine Y4.i2 ?_
    simp only [Y4.t2, ← Y4.p3.eq_1]
    refine aI (fun ek=>?_) fun ek=>?_
    ·have ek : chk r.hd c ≠ 0 := fun h0 => by
      have ek:(!decide (((chk r.hd c:Nat):Int)=0))=true:=ek
      rw [h0] at ek; cases ek
     exact .inl (hqe 8 h5 _ (by rw [tk7 hpe,if_pos e1,if_neg ek]) (UN.trans U35 fun i _ e=>.inl e) R5)
    ·have ek : chk r.hd c = 0 := by
      have ek:(!decide (((chk r.hd c:Nat):Int)=0))=false:=ek
      have:=of_decide_eq_true (by simpa using ek:decide (((chk r.hd c:Nat):Int)=0)=true)
      omega
     exact hlast h5 { r.hd with sum:=bQ r.hd.sum [c],count:=r.hd.count+1,check:=chk r.hd c } true (by rw [tk7 hpe,if_pos e1,if_pos ek]) U35 R5 H.flags hp rfl
   ·have e1 : ¬ r.hd.count = 1 := by have e : ¬ ((r.hd.count + 1 : Nat) : Int) = 2 := of_decide_eq_false e; omega
    rw [e]
    refine Y4.i2 ?_
    simp only [Y4.t2, ← Y4.p3.eq_1]
    refine aG rfl ?_
    exact hlast h5 { r.hd with sum:=bQ r.hd.sum [c],count:=r.hd.count+1,check:=chk r.hd c } false (by rw [tk7 hpe,if_neg e1] <;> rfl) U35 R5 H.flags hp rfl
  refine aE R3 rfl rfl (aC ?_)
  refine aI (fun e=>?_) fun e=>?_
  ·have e0 : r.hd.count = 0 := by have e : ((r.hd.count + 1 : Nat) : Int) = 1 := of_decide_eq_true e; omega
   refine aT rfl ?_
   rw [aVI hs]
   refine aJ R3 rfl (by show 5<17; decide) (hk:=fun h4 l4 U4 R4=>tail h4 U4 ?_)
   rw [if_pos e0]; exact R4
  ·have e0 : ¬ r.hd.count = 0 := by have e : ¬ ((r.hd.count + 1 : Nat) : Int) = 1 := of_decide_eq_false e; omega
   refine tail h3 (Upd.refl _ _) ?_
   rw [if_neg e0]; exact R3
end
end Go.Proofs.YtfoekpcljhbijaaGreatDoor
namespace Go.Proofs.YtfoekpcljhbijaaGreatDoor
open Go.GAM Go.RowKit
def mkR (g:GS) (nm data names sizes:AV) (dead:Bool):GR:=⟨g.hd,nm,g.out,g.ratio,data,g.crc,g.size,g.trailer,g.within,dead,names,sizes⟩
def aH2 (h:aA) (F:Nat→Prop) (data:AV):Option Inf→Prop
 | none=>data = .p none
 | some i=>∃ d dr told,data=dp d∧DSt i.L h F d dr told (.wait i.k i.w i.c) i.inp []
structure GzB (h:aA) (g:Nat) (O F:Nat→Prop) (gs:GS) (nm data names sizes:AV):Prop where
 recd:aZ h g (mkR gs nm data names sizes false).cells
 nmT:iT u8T h nm gs.hd.name
 namesT:Stk h names (gs.names.map .s)
 sizesT:Stk h sizes (bI gs.sizes)
 gO:O g
 gF:¬ F g
 nmO:∀ i,aQ nm i→O i∧i≠g∧¬ F i
 nsO:∀ i,aQ names i→O i∧i≠g∧¬ F i∧¬ aQ nm i
 szO:∀ i,aQ sizes i→O i∧i≠g∧¬ F i∧¬ aQ nm i∧¬ aQ names i
 fO:∀ i,F i→O i
 lt:∀ i,O i→i<h.length
 ord:dI h
 oO:¬ O 0
 dat:aH2 h F data gs.data
structure GzV (h:aA) (g:Nat) (O F:Nat→Prop) (gs:GS) (N:Nat) (nm data names sizes:AV):Prop extends GzB h g O F gs nm data names sizes where
 ok:GOK gs N
def Gz (h:aA) (g:Nat) (O:Nat→Prop) (gs:GS) (N:Nat):Prop:=∃ F nm data names sizes,GzV h g O F gs N nm data names sizes
def GzD (h:aA) (g:Nat) (O:Nat→Prop):Prop:=(∃ r:GR,aZ h g r.cells∧r.dead=true)∧O g∧(∀ i,O i→i<h.length)∧dI h∧¬ O 0
section
variable {h h':aA} {Q:AV→aA→Prop} {g:Nat} {O F:Nat→Prop} {gs:GS} {N:Nat} {nm data names sizes:AV}
theorem aH2.upd {M F':Nat→Prop} {i:Option Inf} (D:aH2 h F data i) (U:Upd M h h') (hM:∀ i,F i→¬ M i) (ho:¬ M 0) (hF:∀ i,i<h.length→F i→F' i):aH2 h' F' data i:=by
 cases i with
 | none=>exact D
 | some i =>
  obtain ⟨d,dr,told,e,S⟩:=D
  exact ⟨d,dr,told,e,S.upd U hM ho hF⟩
theorem GzV.upd {M:Nat→Prop} (V:GzV h g O F gs N nm data names sizes) (U:Upd M h h') (hM:∀ i,O i→¬ M i) (ho:¬ M 0):GzV h' g O F gs N nm data names sizes:=
 { V with recd:=V.recd.upd U (hM g V.gO),nmT:=V.nmT.upd U fun i hi=>hM i (V.nmO i hi).1,namesT:=V.namesT.upd U fun i hi=>hM i (V.nsO i hi).1,sizesT:=V.sizesT.upd U fun i hi=>hM i (V.szO i hi).1,lt:=fun i hi=>Nat.lt_of_lt_of_le (V.lt i hi) U.1,ord:=V.ord.upd U ho,dat:=V.dat.upd U (fun i hi=>hM i (V.fO i hi)) ho fun _ _ h=>h }
theorem Gz.upd {M:Nat→Prop} (V:Gz h g O gs N) (U:Upd M h h') (hM:∀ i,O i→¬ M i) (ho:¬ M 0):Gz h' g O gs N:=by
 obtain ⟨F,nm,data,names,sizes,V⟩:=V
 exact ⟨F,nm,data,names,sizes,V.upd U hM ho⟩
theorem GzD.upd {M:Nat→Prop} (V:GzD h g O) (U:Upd M h h') (hM:∀ i,O i→¬ M i) (ho:¬ M 0):GzD h' g O:=by
 obtain ⟨⟨r,R,hd⟩,gO,lt,ord,oO⟩:=V
 exact ⟨⟨r,R.upd U (hM g gO),hd⟩,gO,fun i hi=>Nat.lt_of_lt_of_le (lt i hi) U.1,ord.upd U ho,oO⟩
theorem aMO {id n k:Nat} {cs ws:List AV} {K:aA→Prop} (R:aZ h id cs) (hn:n=cs.length) (hw:ws.length=k) (hkn:k≤n) (hc:ws.all AV.cellOK=true)
  (hk:∀ h',h'.length=h.length→Upd (· = id) h h'→aZ h' id (ws++cs.drop k)→K h'):aP k (.p (some ⟨id,n,0⟩)) (.ag ws) h K:=by
 have hl:=R.lt
 obtain ⟨b,h1,rfl,h3,h4⟩:=R
 subst hn
 refine ⟨b,h1,h4,h3,rfl,(by show 0+k≤b.cells.length; omega),rfl,hw,hc, ?_⟩
 have e:wr b.cells 0 ws=ws++b.cells.drop k:=by
  have:=aEJ ws [] b.cells (by omega)
  rw [List.nil_append,List.nil_append,List.length_nil] at this
  rw [this,hw]
 refine hk _ (by simp) (Upd.set _ _ _) ⟨_,List.getElem?_set_self hl,e, ?_,h4⟩
 rw [List.length_append,List.length_drop]; show b.cells.length≤_; omega
theorem aQ0 {c:UInt8} (V:GzV h g O F gs N nm data names sizes) (hw:gs.within=false)
  (hqe:∀ e,(c≠31∧e=2∨c=31∧gs.names.length=16∧e=3)→Q (.i .i64 e) h)
  (hqo:∀ h',c=31→gs.names.length≠16→h'.length=h.length→Upd (· = g) h h'→GzV h' g O F { gs with hd:={},within:=true } N yW data names sizes→Q (iN 0) h'):C Y77.id [zp g,byteAV c] h Q:=by
 unfold byteAV
 refine Y77.call ?_
 simp only [Y77.t,bE,bD]
 refine eQ (l:=[31,139,8]) (i:=0) (c:=31) rfl ?_
 rw [aP6]
 by_cases hc:c=31
 ·rw [decide_eq_true hc]
  refine aG rfl (aE V.recd rfl rfl ?_)
  refine V.namesT.rd.len ?_
  have hl:(gs.names.map AV.s).length=gs.names.length:=by simp
  rw [hl]
  refine aI (fun e=>?_) fun e=>?_
  ·have e : gs.names.length = 16 := by have := of_decide_eq_true e; omega
   exact .inl (hqe 3 (.inr ⟨hc,e,rfl⟩))
  ·have e : gs.names.length ≠ 16 := by have := of_decide_eq_false e; omega
   have hdat:gs.data=none:=V.ok.idle hw
   refine aMO (k:=7) V.recd rfl rfl (by show 7≤17; decide) rfl fun h1 l1 U1 R1=>?_
   refine aJ R1 rfl (by show 13<17; decide) (hk:=fun h2 l2 U2 R2=>?_)
   have U12:Upd (· = g) h h2:=U1.trans U2 fun _ _ h=>h
   have hU:∀ i,F i→¬ (i=g):=fun i hi e=>V.gF (e ▸ hi)
   have ho:¬ (0=g):=fun e=>V.oO (by rw [e]; exact V.gO)
   refine .inl (hqo h2 hc e (by omega) U12 ⟨⟨R2,.inl ⟨rfl,rfl⟩,V.namesT.upd U12 fun i hi e=>(V.nsO i hi).2.1 e,V.sizesT.upd U12 fun i hi e=>(V.szO i hi).2.1 e,V.gO,V.gF,fun i hi=>hi.elim, ?_, ?_,V.fO,fun i hi=>(by have:=V.lt i hi; omega),V.ord.upd U12 ho,V.oO,V.dat.upd U12 hU ho fun _ _ h=>h⟩,V.ok.begin hw e⟩)
   ·exact fun i hi=>⟨(V.nsO i hi).1,(V.nsO i hi).2.1,(V.nsO i hi).2.2.1,fun h=>h⟩
   ·exact fun i hi=>⟨(V.szO i hi).1,(V.szO i hi).2.1,(V.szO i hi).2.2.1,fun h=>h,(V.szO i hi).2.2.2.2⟩
 ·rw [decide_eq_false hc]
  exact aN rfl (.inl (hqe 2 (.inl ⟨hc,rfl⟩)))
end
end Go.Proofs.YtfoekpcljhbijaaGreatDoor
namespace Go.Proofs.YtfoekpcljhbijaaGreatDoor
open Go.GAM Go.RowKit
open Go.Infl (bG cG bS Out Lim)
section
variable {h h':aA} {Q:AV→aA→Prop} {g:Nat} {O F:Nat→Prop} {gs:GS} {N:Nat} {nm data names sizes:AV}
theorem aFQ {h:aA} {v:AV} {l:List AV} (S:Stk h v l):v.parts=[v]∧v.sizeOK=true∧v.cellOK=true:=by
 rcases S with ⟨rfl,_⟩ | ⟨id,b,rfl,_⟩ <;> exact ⟨rfl,rfl,rfl⟩
theorem aM0 {h : aA} {v x : AV} {l : List AV} (S : Stk h v l) {i : Nat} (hi : i < l.length) (hx : x.parts = [x]) (hs : x.sizeOK = true) (hc : x.cellOK = true) {K : aA → Prop} (hk : ∀ h', h'.length = h.length → Upd (aQ v) h h' → Stk h' v (l.set i x) → K h') :
  aU 1 v (.i .i64 (i:Int)) h fun a=>aP 1 a x h K:=by
 rcases S with ⟨rfl,rfl⟩ | ⟨id,b,rfl,h1,h2,h3,h4,h5,h6,h7⟩
 ·simp at hi
 ·have hl := aV h1
  refine ⟨by omega,by omega,⟨b,h1,h5,h5⟩, ?_⟩
  refine ⟨b,h1,h6,h5,rfl, ?_,hs,by rw [hx] <;> rfl,by rw [hx]; simp [hc], ?_⟩
  ·show 0 + (i : Int).toNat * 1 + 1 ≤ b.cells.length
   rw [Int.toNat_natCast]; omega
  ·have ew : wr b.cells (0 + (i : Int).toNat * 1) x.parts = b.cells.set i x := by rw [hx, Int.toNat_natCast, Nat.mul_one, Nat.zero_add] <;> rfl
   rw [ew]
   refine hk _ (by simp) ((Upd.set _ _ _).mono fun j _ e=>e.symm) (.inr ⟨id,{ b with cells:=b.cells.set i x,floor:=b.cells.length }, ?_,List.getElem?_set_self hl,h2,by simpa using h3, ?_,by simp,h6,h7⟩)
   ·simp
   ·show (b.cells.set i x).take (l.set i x).length = l.set i x
    rw [List.length_set,List.take_set,h4]
theorem aTO (V : GzB h g O F gs nm data names sizes) (hsame : gs.sizes.length = gs.names.length) (hw : gs.within = true) (hd : gs.data = none) (hn : gs.names.length < 16) {N' : Nat} (ok : GOK (aGW gs) N')
  (hq:∀ h' O',Upd O h h'→(∀ i,O' i→O i∨h.length≤i)→Gz h' g O' (aGW gs) N'→Q (.tu []) h'):C Y93.id [zp g] h Q:=by
 refine Y93.call ?_
 simp only [Y93.t,bE,bD]
 rw [aKR (n:=17) V.recd rfl (by show 0+7+2≤17; omega)]
 show C Y65.id [.ag [iN gs.out,iN gs.ratio]] h _
 refine aU0 V.ord fun h1 d r U1 hdl D1=>?_
 have hgl:=V.recd.lt
 have R1:=V.recd.upd U1 fun h=>h
 refine aJ R1 rfl (by show 9<17; decide) (hk:=fun h2 l2 U2 R2=>?_)
 refine aJ R2 rfl (by show 10<17; decide) (hk:=fun h3 l3 U3 R3=>?_)
 refine aJ R3 rfl (by show 11<17; decide) (hk:=fun h4 l4 U4 R4=>?_)
 refine aJ R4 rfl (by show 12<17; decide) (hk:=fun h5 l5 U5 R5=>?_)
 have U15:Upd (· = g) h h5:=((((U1.mono fun _ _ h=>h.elim).trans U2 fun _ _ h=>h).trans U3 fun _ _ h=>h).trans U4 fun _ _ h=>h).trans U5 fun _ _ h=>h
 have U25:Upd (· = g) h1 h5:=((U2.trans U3 fun _ _ h=>h).trans U4 fun _ _ h=>h).trans U5 fun _ _ h=>h
 have l15:h5.length=h1.length:=by omega
 have ngi:∀ {v:AV},(∀ i,aQ v i→i≠g)→∀ i,aQ v i→¬ (i=g):=fun hv i hi e=>hv i hi e
 have T5:=V.nmT.upd U15 (ngi fun i hi=>(V.nmO i hi).2.1)
 have S5:=V.namesT.upd U15 (ngi fun i hi=>(V.nsO i hi).2.1)
 have Z5:=V.sizesT.upd U15 (ngi fun i hi=>(V.szO i hi).2.1)
 refine aE R5 rfl rfl (aE R5 rfl rfl (iT.str T5 ?_))
 refine dH (cs:=[.s gs.hd.name]) rfl rfl (hk:=fun y h6 l6 U6 R6 hy=>?_)
 have Rg6:=R5.upd U6 fun h=>h
 refine aE Rg6 rfl rfl ⟨rfl, ?_⟩
 have hnl:(gs.names.map AV.s).length=gs.names.length:=by simp
 refine (S5.upd U6 fun _ _ h=>h).app1 R6 rfl (by rw [hnl]; omega) (by rw [hnl]; omega) fun v7 h7 U7 S7 g7=>?_
 have hv0:¬ aQ names g:=fun hh=>(V.nsO g hh).2.1 rfl
 have Rg7:=Rg6.upd U7 hv0
 have hl1:=U1.1
 have hv7:∀ i,aQ v7 i→aQ names i∨h1.length≤i:=fun i hi=>(g7 i hi).imp (fun h=>h) fun h=>by omega
 have hv7g:¬ aQ v7 g:=fun hh=>by
  rcases hv7 g hh with h | h
  ·exact hv0 h
  ·omega
 obtain ⟨s1,s2,s3⟩:=aFQ S7
 refine aJ Rg7 rfl (by show 15<17; decide) s1 s2 s3 (hk:=fun h8 l8 U8 R8=>?_)
 have S8:=S7.upd U8 fun i hi e=>hv7g (e ▸ hi)
 have Z7:Stk h7 sizes (bI gs.sizes):=(Z5.upd U6 fun _ _ h=>h).upd U7 fun i hi h=>(V.szO i hi).2.2.2.2 h
 have Z8:=Z7.upd U8 fun i hi e=>(V.szO i hi).2.1 e
 refine aE R8 rfl rfl ?_
 refine dH (cs:=[iN 0]) rfl rfl (hk:=fun y9 h9 l9 U9 R9 hy9=>?_)
 have hzl:(bI gs.sizes).length=gs.sizes.length:=bB _
 refine (Z8.upd U9 fun _ _ h=>h).app1 R9 rfl (by rw [hzl]; omega) (by rw [hzl]; omega) fun v10 h10 U10 Z10 g10=>?_
 have hz0:¬ aQ sizes g:=fun hh=>(V.szO g hh).2.1 rfl
 have hU7:=U7.1
 have hU10:=U10.1
 have hU6:=U6.1
 have hv10:∀ i,aQ v10 i→aQ sizes i∨h8.length≤i:=fun i hi=>(g10 i hi).imp (fun h=>h) fun h=>by omega
 have hv10g:¬ aQ v10 g:=fun hh=>by
  rcases hv10 g hh with h | h
  ·exact hz0 h
  ·omega
 have R10:=(R8.upd U9 fun h=>h).upd U10 hz0
 obtain ⟨t1,t2,t3⟩:=aFQ Z10
 refine aJ R10 rfl (by show 16<17; decide) t1 t2 t3 (hk:=fun h11 l11 U11 R11=>?_)
 have Oall:Upd O h h11:=by
  refine (U15.mono fun i _ e=>(e ▸ V.gO:O i)).trans ?_ fun _ _ h=>h
  refine ((((((U6.mono fun _ _ h=>h.elim).trans (U7.mono fun i _ hi=>(V.nsO i hi).1) fun _ _ h=>h).trans (U8.mono fun i _ e=>(e ▸ V.gO:O i)) fun _ _ h=>h).trans (U9.mono fun _ _ h=>h.elim) fun _ _ h=>h).trans (U10.mono fun i _ hi=>(V.szO i hi).1) fun _ _ h=>h).trans (U11.mono fun i _ e=>(e ▸ V.gO:O i)) fun _ _ h=>h)
 have hlt:∀ i,O i→i<h.length:=V.lt
 have hordl:=V.ord.lt
 let F1:Nat→Prop:=fun i=>h.length≤i∧i<h1.length
 have U1_11:Upd O h1 h11:=by
  refine (U25.mono fun i _ e=>(e ▸ V.gO:O i)).trans ?_ fun _ _ h=>h
  refine ((((((U6.mono fun _ _ h=>h.elim).trans (U7.mono fun i _ hi=>(V.nsO i hi).1) fun _ _ h=>h).trans (U8.mono fun i _ e=>(e ▸ V.gO:O i)) fun _ _ h=>h).trans (U9.mono fun _ _ h=>h.elim) fun _ _ h=>h).trans (U10.mono fun i _ hi=>(V.szO i hi).1) fun _ _ h=>h).trans (U11.mono fun i _ e=>(e ▸ V.gO:O i)) fun _ _ h=>h)
 have D11:DSt (dZ (gs.out:Int) (gs.ratio:Int)) h11 F1 d r 0 Infl.start 0 []:=D1.upd U1_11 (fun i hi hh=>by have:=hlt i hh; have hi:h.length≤i:=hi; omega) V.oO fun i hl hi=>⟨hi,hl⟩
 have hU11:h11.length=h10.length:=l11
 have Tn:iT u8T h11 nm gs.hd.name:=by
  have T6:=T5.upd U6 fun _ _ h=>h
  have T7:=T6.upd U7 fun i hi hn=>(V.nsO i hn).2.2.2 hi
  have T8:=T7.upd U8 fun i hi e=>(V.nmO i hi).2.1 e
  have T9:=T8.upd U9 fun _ _ h=>h
  have T10:=T9.upd U10 fun i hi hn=>(V.szO i hn).2.2.2.1 hi
  exact T10.upd U11 fun i hi e=>(V.nmO i hi).2.1 e
 have S11:Stk h11 v7 ((gs.names++[gs.hd.name]).map .s):=by
  rw [List.map_append]
  have S9:=S8.upd U9 fun _ _ h=>h
  have S10:=S9.upd U10 fun i hi hn=>by
   rcases g7 i hi with h | h
   ·exact (V.szO i hn).2.2.2.2 h
   ·have:=hlt i (V.szO i hn).1; omega
  exact S10.upd U11 fun i hi e=>hv7g (e ▸ hi)
 have Z11:Stk h11 v10 (bI (gs.sizes++[0])):=by
  have e:bI (gs.sizes++[0])=bI gs.sizes++[iN 0]:=by unfold bI; rw [List.map_append] <;> rfl
  rw [e]
  exact Z10.upd U11 fun i hi e=>hv10g (e ▸ hi)
 have hl8:h8.length=h7.length:=l8
 have b7:∀ i,aQ v7 i→i<h7.length:=fun i hi=>S7.rd.lt hi
 have b10:∀ i,aQ v10 i→i<h10.length:=fun i hi=>Z10.rd.lt hi
 have bnm:∀ i,aQ nm i→i<h.length:=fun i hi=>V.nmT.lt hi
 have bns:∀ i,aQ names i→i<h.length:=fun i hi=>hlt i (V.nsO i hi).1
 have bsz:∀ i,aQ sizes i→i<h.length:=fun i hi=>hlt i (V.szO i hi).1
 have hU9:=U9.1
 refine .inl (hq h11 (fun i=>(O i∨h.length≤i)∧i<h11.length) Oall (fun i hi=>hi.1) ⟨F1,nm,dp d,v7,v10, ?_⟩)
 refine ⟨⟨R11,Tn,S11,Z11,⟨.inl V.gO,by omega⟩,fun hh=>by have hh:h.length≤g∧g<h1.length:=hh; omega,fun i hi=>⟨⟨.inl (V.nmO i hi).1,by have:=bnm i hi; omega⟩,(V.nmO i hi).2.1,fun hf=>by have:=bnm i hi; have hf:_≤i∧_:=hf; omega⟩,fun i hi=>?_,fun i hi=>?_,fun i hi=>⟨.inr hi.1,by have:=hi.2; omega⟩,fun i hi=>hi.2,V.ord.upd Oall V.oO,fun hh=>?_,⟨d,r,0,rfl,D11⟩⟩,ok⟩
 ·have hb := b7 i hi
  rcases g7 i hi with hn | hn
  ·exact ⟨⟨.inl (V.nsO i hn).1,by omega⟩,(V.nsO i hn).2.1,fun hf=>by have:=bns i hn; have hf:_≤i∧_:=hf; omega,(V.nsO i hn).2.2.2⟩
  ·exact ⟨⟨.inr (by omega),by omega⟩,by omega,fun hf=>by have hf:_∧i<h1.length:=hf; omega,fun hx=>by have:=bnm i hx; omega⟩
 ·have hb := b10 i hi
  rcases g10 i hi with hn | hn
  ·have := bsz i hn
   exact ⟨⟨.inl (V.szO i hn).1,by omega⟩,(V.szO i hn).2.1,fun hf=>by have hf:_≤i∧_:=hf; omega,(V.szO i hn).2.2.2.1,fun hx=>by
    rcases g7 i hx with h | h
    ·exact (V.szO i hn).2.2.2.2 h
    ·omega⟩
  ·exact ⟨⟨.inr (by omega),by omega⟩,by omega,fun hf=>by have hf:_∧i<h1.length:=hf; omega,fun hx=>by have:=bnm i hx; omega,fun hx=>by have:=b7 i hx; omega⟩
 ·rcases hh.1 with h | h
  ·exact V.oO h
  ·omega
end
end Go.Proofs.YtfoekpcljhbijaaGreatDoor
namespace Go.Proofs.YtfoekpcljhbijaaGreatDoor
open Go.GAM Go.RowKit
open Go.Infl (bG cG bS Out Lim)
section
variable {h h':aA} {Q:AV→aA→Prop} {g:Nat} {O F:Nat→Prop} {gs:GS} {N:Nat} {nm data names sizes:AV}
theorem aJF {e:Nat} (h:e=1∨e=2):eno e≠0:=by rcases h with rfl | rfl <;> decide
theorem aMI {s:List UInt8} {i:Inf} (V:GzV h g O F gs N nm data names sizes) (hd:gs.data=some i) (hN:N+s.length<1099511627776)
  (hql:∀ h' (O':Nat→Prop) gs' b,Upd O h h'→(∀ j,O' j→O j∨h.length≤j)→Gz h' g O' gs' (N+(s.length - (dR s i.inp (Infl.run i.L (Infl.bitsOf s) (8 * i.inp) (.wait i.k i.w i.c))).length))→aER gs i (Infl.run i.L (Infl.bitsOf s) (8 * i.inp) (.wait i.k i.w i.c)).2 s.length=(.live gs',b,0)→b.length≤gs.out →
   Q (.tu [.s b,.s (dR s i.inp (Infl.run i.L (Infl.bitsOf s) (8 * i.inp) (.wait i.k i.w i.c))),iN 0]) h')
  (hqe:∀ h' (O':Nat→Prop) r' b e,Upd O h h'→(∀ j,O' j→O j∨h.length≤j)→aZ h' g (GR.cells r')→O' g→(∀ j,O' j→j<h'.length)→dI h'→¬ O' 0→aER gs i (Infl.run i.L (Infl.bitsOf s) (8 * i.inp) (.wait i.k i.w i.c)).2 s.length=(.dead,b,e)→e≠0→b.length≤gs.out→Q (.tu [.s b,.s [],.i .i64 e]) h') :
  C Y22.id [zp g,.s s] h Q:=by
 have hdat:=V.dat
 rw [hd] at hdat
 obtain ⟨d,dr,told,rfl,D⟩:=hdat
 obtain ⟨k1,k2,k3,k4,k5⟩:=V.ok.data i hd
 have hout:=V.ok.out
 have hordl:=V.ord.lt
 have hgl:=V.lt
 let F1:Nat→Prop:=fun j=>F j∨h.length≤j
 have D':DSt i.L h F1 d dr told (.wait i.k i.w i.c) i.inp []:=D.upd (Upd.refl (fun _=>False) h) (fun _ _ h=>h) (fun h=>h) fun j _ hj=>.inl hj
 refine Y22.call ?_
 simp only [Y22.t,bE,bD, ← Y22.p0.eq_1]
 refine aE V.recd rfl rfl ?_
 have hF0:¬ F1 0:=fun hh=>by
  rcases hh with h | h
  ·exact V.oO (V.fO _ h)
  ·omega
 refine aTH hF0 (by omega) D' (fun j hj=>.inr hj) fun h1 r1 U1 D1=>?_
 simp only [cX,cW]
 have hbound:=aKI (L:=i.L) (k:=i.k) (w:=i.w) (c:=i.c) (by omega) (Infl.bitsOf s) (8 * i.inp)
 obtain ⟨tx,htx⟩:=Infl.ext_run i.L (Infl.bitsOf s) (8 * i.inp) (.wait i.k i.w i.c)
 have hinf:=tA gs i (Infl.run i.L (Infl.bitsOf s) (8 * i.inp) (.wait i.k i.w i.c)).2 s.length
 have hpos:=fun {k':bG} {w':cG} {c':bS} hh=>Infl.run_pos (L:=i.L) (Infl.bitsOf s) (8 * i.inp) (.wait i.k i.w i.c) (k:=k') (w:=w') (c:=c') hh
 generalize hX:Infl.run i.L (Infl.bitsOf s) (8 * i.inp) (.wait i.k i.w i.c)=X at D1 hql hqe hbound htx hinf hpos ⊢
 obtain ⟨p,x⟩:=X
 simp only at D1 hql hqe hbound htx hinf hpos ⊢
 have htx:x.core.out=i.k.out++tx:=htx
 have hb:x.core.out.drop i.k.out.length=tx:=by rw [htx,List.drop_left]
 have hgrow:aAB i.k x=tx:=hb
 rw [hgrow] at hinf
 rw [hb]
 have hlen:tx.length≤gs.out:=by rw [htx,List.length_append] at hbound; omega
 have hsz:=V.ok.size
 have hF1:∀ j,F1 j→j<h.length→F j:=fun j hj hl=>by
  rcases hj with h | h
  ·exact h
  ·omega
 have nF:∀ {P:Nat→Prop},(∀ j,P j→j<h.length∧¬ F j)→∀ j,P j→¬ F1 j:=fun hP j hj hf=>(hP j hj).2 (hF1 j hf (hP j hj).1)
 have gl:g<h.length:=V.recd.lt
 have R1:=V.recd.upd U1 fun hf=>V.gF (hF1 g hf gl)
 have bnm:∀ j,aQ nm j→j<h.length:=fun j hj=>V.nmT.lt hj
 have bns:∀ j,aQ names j→j<h.length:=fun j hj=>V.namesT.rd.lt hj
 have bsz:∀ j,aQ sizes j→j<h.length:=fun j hj=>V.sizesT.rd.lt hj
 have T1:=V.nmT.upd U1 (nF (P:=aQ nm) fun j hj=>⟨bnm j hj,(V.nmO j hj).2.2⟩)
 have S1:=V.namesT.upd U1 (nF (P:=aQ names) fun j hj=>⟨bns j hj,(V.nsO j hj).2.2.1⟩)
 have Z1:=V.sizesT.upd U1 (nF (P:=aQ sizes) fun j hj=>⟨bsz j hj,(V.szO j hj).2.2.1⟩)
 refine bM (aC (aE R1 rfl rfl (cY (aN4 (by omega) (cY ?_)))))
 refine aJ R1 rfl (by show 10<17; decide) (hk:=fun h2 l2 U2 R2=>?_)
 refine aE R2 rfl rfl (aC ?_)
 refine aT (n:=((gs.size+tx.length:Nat):Int)) (by show IntKind.wrap .i64 ((gs.size:Int)+(tx.length:Int))=_; rw [aY (by omega) (by omega)]; omega) ?_
 refine aJ R2 rfl (by show 11<17; decide) (hk:=fun h3 l3 U3 R3=>?_)
 refine aE R3 rfl rfl (aC ?_)
 refine aT (n:=((gs.out - tx.length:Nat):Int)) (by show IntKind.wrap .i64 ((gs.out:Int) - (tx.length:Int))=_; rw [aY (by omega) (by omega)]; omega) ?_
 refine aJ R3 rfl (by show 7<17; decide) (hk:=fun h4 l4 U4 R4=>?_)
 have U14:Upd (· = g) h1 h4:=(U2.trans U3 fun _ _ h=>h).trans U4 fun _ _ h=>h
 have Z4:=Z1.upd U14 fun j hj e=>(V.szO j hj).2.1 e
 refine aE R4 rfl rfl (aE R4 rfl rfl (Z4.rd.len ?_))
 have hzl:(bI gs.sizes).length=gs.sizes.length:=bB _
 have hsame:=V.ok.same
 rw [hzl]
 refine aT (n:=((gs.sizes.length - 1:Nat):Int)) (by have:=V.ok.len; rw [aY (by omega) (by omega)]; omega) ?_
 have hlt:gs.sizes.length - 1<gs.sizes.length:=by omega
 have hat:gs.sizes[gs.sizes.length - 1]? = some (gs.sizes.getD (gs.sizes.length - 1) 0):=by rw [List.getD_eq_getElem?_getD,List.getElem?_eq_getElem hlt] <;> rfl
 have hmem:gs.sizes.getD (gs.sizes.length - 1) 0∈gs.sizes:=List.mem_of_getElem? hat
 have hzb:=V.ok.sizes _ hmem
 have RZ:RdI 1 h4 sizes (bI gs.sizes) gs.sizes.length:=by have:=Z4.rd.i; rwa [hzl] at this
 refine RdI.nat RZ hat (aC ?_)
 refine aT (n:=((gs.sizes.getD (gs.sizes.length - 1) 0+tx.length:Nat):Int)) (by rw [aY (by omega) (by omega)]; omega) ?_
 refine aM0 Z4 (x:=iN (gs.sizes.getD (gs.sizes.length - 1) 0+tx.length)) (by rw [hzl]; omega) rfl rfl rfl fun h5 l5 U5 Z5=>?_
 have hz0:¬ aQ sizes g:=fun hh=>(V.szO g hh).2.1 rfl
 have R5:=R4.upd U5 hz0
 let O1:Nat→Prop:=fun j=>(O j∨h.length≤j)∧j<h5.length
 let F2:Nat→Prop:=fun j=>F1 j∧j<h1.length
 have hl1:=U1.1
 have U15:Upd (fun j=>j=g∨aQ sizes j) h1 h5:=(U14.mono fun _ _ h=>.inl h).trans U5 fun _ _ h=>.inr h
 have UO:Upd O h h5:=((U1.mono fun j hl hj=>V.fO j (hF1 j hj hl)).trans (U15.mono fun j hl hj=>by
  rcases hj with h | h
  ·exact (h ▸ V.gO:O j)
  ·exact (V.szO j h).1) fun _ _ h=>h)
 have nF2:∀ j,F2 j→¬ (j=g∨aQ sizes j):=fun j hj hh=>by
  rcases hh with rfl | hh
  ·exact V.gF (hF1 _ hj.1 gl)
  ·exact (V.szO j hh).2.2.1 (hF1 j hj.1 (bsz j hh))
 have no5:¬ (0=g∨aQ sizes 0):=fun hh=>by
  rcases hh with h | h
  ·exact V.oO (by rw [h]; exact V.gO)
  ·exact V.oO (V.szO _ h).1
 have D5:∀ inp rest,DSt i.L h1 F1 d r1 i.k.out.length x inp rest→DSt i.L h5 F2 d r1 i.k.out.length x inp rest:=fun inp rest D=>by
  have Da:DSt i.L h1 F2 d r1 i.k.out.length x inp rest:=D.upd (Upd.refl (fun _=>False) h1) (fun _ _ h=>h) (fun h=>h) fun j hl hj=>⟨hj,hl⟩
  exact Da.upd U15 nF2 no5 fun _ _ h=>h
 have D5:=D5 _ _ D1
 have T5:=T1.upd U15 fun j hj hh=>by
  rcases hh with h | h
  ·exact (V.nmO j hj).2.1 h
  ·exact (V.szO j h).2.2.2.1 hj
 have S5:=S1.upd U15 fun j hj hh=>by
  rcases hh with h | h
  ·exact (V.nsO j hj).2.1 h
  ·exact (V.szO j h).2.2.2.2 hj
 have Z5':Stk h5 sizes (bI (fF gs.sizes tx.length)):=by
  unfold fF
  rw [← mM]; exact Z5
 have hl5:h5.length=h1.length:=by omega
 have hO1:∀ j,O1 j→O j∨h.length≤j:=fun j hj=>hj.1
 have oO1:¬ O1 0:=fun hh=>by
  rcases hh.1 with h | h
  ·exact V.oO h
  ·omega
 have in1:∀ j,j<h.length→O j→O1 j:=fun j hj ho=>⟨.inl ho,by omega⟩
 have F2n:∀ j,j<h.length→¬ F j→¬ F2 j:=fun j hj hn hf=>hn (hF1 j hf.1 hj)
 have mk:∀ (h6:aA) (gs':GS) (data':AV) (N':Nat),h6.length=h5.length→Upd (· = g) h5 h6→aZ h6 g (mkR gs' nm data' names sizes false).cells→gs'.hd.name=gs.hd.name→gs'.names=gs.names→gs'.sizes=fF gs.sizes tx.length→aH2 h6 F2 data' gs'.data→GOK gs' N'→Gz h6 g O1 gs' N':=by
  intro h6 gs' data' N' l6 U6 R6 e1 e2 e3 Dt ok
  refine ⟨F2,nm,data',names,sizes,⟨R6,by rw [e1]; exact T5.upd U6 fun j hj e=>(V.nmO j hj).2.1 e,by rw [e2]; exact S5.upd U6 fun j hj e=>(V.nsO j hj).2.1 e,by rw [e3]; exact Z5'.upd U6 fun j hj e=>(V.szO j hj).2.1 e,in1 g gl V.gO,F2n g gl V.gF, ?_, ?_, ?_, ?_,fun j hj=>by have:=hj.2; omega,(V.ord.upd UO V.oO).upd U6 fun e=>V.oO (by show O _; rw [e]; exact V.gO),oO1,Dt⟩,ok⟩
  ·exact fun j hj=>⟨in1 j (bnm j hj) (V.nmO j hj).1,(V.nmO j hj).2.1,F2n j (bnm j hj) (V.nmO j hj).2.2⟩
  ·exact fun j hj=>⟨in1 j (bns j hj) (V.nsO j hj).1,(V.nsO j hj).2.1,F2n j (bns j hj) (V.nsO j hj).2.2.1,(V.nsO j hj).2.2.2⟩
  ·exact fun j hj=>⟨in1 j (bsz j hj) (V.szO j hj).1,(V.szO j hj).2.1,F2n j (bsz j hj) (V.szO j hj).2.2.1,(V.szO j hj).2.2.2⟩
  ·intro j hj
   refine ⟨?_,by have:=hj.2; omega⟩
   rcases hj.1 with h | h
   ·exact .inl (V.fO j h)
   ·exact .inr h
 cases x with
 | err e k =>
  have he:e=1∨e=2:=D1.st.2.2
  have hc0:aFZ (.err e k)=eno e:=rfl
  refine aG (decide_eq_false (by rw [hc0]; exact aJF he)) ?_
  refine Y22.i0 ?_
  simp only [Y22.t0, ← Y22.p1.eq_1]
  refine aG rfl (Y22.i1 ?_)
  simp only [Y22.t1]
  rw [hc0]
  exact .inl (hqe h5 O1 (mkR { fQ gs tx with data:=some i } nm (dp d) names sizes false) tx (eno e) UO hO1 R5 (in1 g gl V.gO) (fun j hj=>hj.2) (V.ord.upd UO V.oO) oO1 hinf (aJF he) hlen)
 | wait k w c =>
  refine aN rfl (aE R5 rfl rfl (aOJ D5 (aR ?_)))
  refine Y22.i0 ?_
  simp only [Y22.t0, ← Y22.p1.eq_1]
  refine aG rfl (Y22.i1 ?_)
  simp only [Y22.t1]
  refine .inl (hql h5 O1 _ tx UO hO1 (mk h5 { fQ gs tx with data:=some ⟨i.L,i.inp+s.length,k,w,c⟩ } (dp d) (N+s.length) rfl (Upd.refl _ _) R5 rfl rfl rfl ⟨d,r1,_,rfl,D5⟩ ?_) hinf hlen)
  refine V.ok.dat hd hlen fun j hj=>?_
  cases hj
  have htx:k.out=i.k.out++tx:=htx
  refine ⟨?_,by show i.inp+s.length≤_; omega⟩
  show i.L.output=gs.out - tx.length+k.out.length
  rw [htx,List.length_append]; omega
 | done k =>
  refine aN rfl (aE R5 rfl rfl (aOJ D5 (aR ?_)))
  refine Y22.i0 ?_
  simp only [Y22.t0,bE,bD, ← Y22.p1.eq_1]
  refine aN rfl (aE R5 rfl rfl (aT4 D5 (bM ?_)))
  refine aJ R5 rfl (by show 9<17; decide) (hk:=fun h6 l6 U6 R6=>?_)
  refine Y22.i1 ?_
  simp only [Y22.t1]
  have UO6:Upd O h h6:=UO.trans U6 fun j _ e=>(e ▸ V.gO:O j)
  refine .inl (hql h6 O1 _ tx UO6 hO1 (mk h6 { fQ gs tx with data:=none } (.p none) _ l6 U6 R6 rfl rfl rfl rfl ?_) hinf hlen)
  exact V.ok.dat hd hlen fun j hj=>by cases hj
end
end Go.Proofs.YtfoekpcljhbijaaGreatDoor
namespace Go.Proofs.YtfoekpcljhbijaaGreatDoor
open Go.GAM Go.RowKit
open Go.Infl (bG cG bS Out Lim)
section
variable {h h':aA} {Q:AV→aA→Prop} {g:Nat} {O F:Nat→Prop} {gs:GS} {N:Nat} {nm data names sizes:AV}
theorem vW:∀ l:List UInt8,bN l<256 ^ l.length
 | []=>by decide
 | c :: r => by
  have h:=vW r
  have hc:=c.toNat_lt
  rw [List.length_cons,Nat.pow_succ]
  show c.toNat+256 * bN r<_
  omega
theorem aGA {n:Nat} (h:n<4294967296):IntKind.wrap .u32 (n:Int)=(n:Int):=by
 simp only [IntKind.wrap,IntKind.bits,IntKind.signed,Bool.false_and]
 have:(2:Int) ^ 32=4294967296:=by decide
 rw [this]
 simp
 omega
theorem aUX {c : UInt8} (V : GzV h g O F gs N nm data names sizes) (hw : gs.within = true) (hp : gs.hd.part = 8) (hd : gs.data = none)
  (hqe:∀ h' r' e,rD gs c=(.dead,[],e)→e≠0→Upd (· = g) h h'→aZ h' g (GR.cells r')→Q (.i .i64 e) h')
  (hqo:∀ h' gs',rD gs c=(.live gs',[],0)→Upd (· = g) h h'→GzV h' g O F gs' (N+1) nm data names sizes→Q (iN 0) h') :
  C Y46.id [zp g,byteAV c] h Q:=by
 have htl:=V.ok.trail hw hd hp
 have hlen:(gs.trailer++[c]).length=gs.trailer.length+1:=by simp
 unfold byteAV
 refine Y46.call ?_
 simp only [Y46.t,bE,bD, ← Y46.p0.eq_1]
 refine aE V.recd rfl rfl (bM ?_)
 refine dH (cs:=[byteAV c]) rfl rfl (hk:=fun y h1 l1 U1 R1 hy=>?_)
 have Ra:=V.recd.upd U1 fun h=>h
 refine aE Ra rfl rfl (bM ⟨rfl, ?_⟩)
 have Yb:Byt h1 y [c]:=R1
 refine Yb.str ⟨by show ((gs.trailer.length+1:Nat):Int)≤_; omega, ?_⟩
 refine aJ Ra rfl (by show 12<17; decide) (hk:=fun h2 l2 U2 R2=>?_)
 have U12:Upd (· = g) h h2:=(U1.mono fun _ _ h=>h.elim).trans U2 fun _ _ h=>h
 refine aE R2 rfl rfl (bM ?_)
 have R2:aZ h2 g (mkR { gs with trailer:=gs.trailer++[c] } nm data names sizes false).cells:=R2
 have hge:=U12.1
 have dat2:∀ h3,Upd (· = g) h2 h3→aH2 h3 F data gs.data:=fun h3 U3=>V.dat.upd (U12.trans U3 fun _ _ h=>h) (fun i hi e=>V.gF (e ▸ hi)) (fun e=>V.oO (by show O _; rw [e]; exact V.gO)) fun _ _ h=>h
 have vgo:∀ h3 w,Upd (· = g) h2 h3→aZ h3 g (mkR { gs with trailer:=gs.trailer++[c],within:=w } nm data names sizes false).cells→(w=true→(gs.trailer++[c]).length<8)→GzV h3 g O F { gs with trailer:=gs.trailer++[c],within:=w } (N+1) nm data names sizes:=fun h3 w U3 R3 hl=>by
  have U:=U12.trans U3 fun _ _ h=>h
  have hU:=U.1
  exact { V with recd:=R3,nmT:=V.nmT.upd U fun i hi e=>(V.nmO i hi).2.1 e,namesT:=V.namesT.upd U fun i hi e=>(V.nsO i hi).2.1 e,sizesT:=V.sizesT.upd U fun i hi e=>(V.szO i hi).2.1 e,lt:=(fun i hi=>by have:=V.lt i hi; omega),ord:=V.ord.upd U (fun e=>V.oO (by show O _; rw [e]; exact V.gO)),dat:=dat2 h3 U3,ok:=V.ok.endd hd hp hl }
 refine aI (fun e=>?_) fun e4=>?_
 ·have e : (gs.trailer ++ [c]).length = 4 := by have e : ((gs.trailer ++ [c]).length : Int) = 4 := of_decide_eq_true e; omega
  refine aE R2 rfl rfl (bM ?_)
  refine tY (s:=gs.trailer++[c]) (at':=0) (by omega) (by omega) ?_
  simp only [cX,cW,List.drop_zero]
  refine aC (aC (aE R2 rfl rfl (cY ?_)))
  have hlt:=vW ((gs.trailer++[c]).take (0+4))
  rw [List.length_take,e] at hlt
  rw [aGA (by exact hlt)]
  refine aI (fun ek=>?_) fun ek=>?_
  ·have ek : (bN ((gs.trailer ++ [c]).take 4) : Int) ≠ gs.crc := fun hh => by
    have ek:(!decide (((bN ((gs.trailer++[c]).take (0+4)):Nat):Int)=gs.crc))=true:=ek
    rw [decide_eq_true hh] at ek; cases ek
   refine .inl (hqe h2 _ 8 ?_ (by decide) U12 R2)
   unfold rD
   simp only
   rw [if_pos ⟨e,ek⟩]
  ·have ek : (bN ((gs.trailer ++ [c]).take 4) : Int) = gs.crc := by
    have ek:(!decide (((bN ((gs.trailer++[c]).take (0+4)):Nat):Int)=gs.crc))=false:=ek
    exact of_decide_eq_true (by simpa using ek)
   refine Y46.i0 ?_
   simp only [Y46.t0]
   refine .inl (hqo h2 _ ?_ U12 (vgo h2 gs.within (Upd.refl _ _) R2 fun _=>by omega))
   unfold rD
   simp only
   rw [if_neg (fun hh=>hh.2 ek),if_neg (by omega)]
 ·have e4 : (gs.trailer ++ [c]).length ≠ 4 := by have e : ¬ ((gs.trailer ++ [c]).length : Int) = 4 := of_decide_eq_false e4; omega
  refine aI (fun e=>?_) fun e8=>?_
  ·have e : (gs.trailer ++ [c]).length = 8 := by have e : ((gs.trailer ++ [c]).length : Int) = 8 := of_decide_eq_true e; omega
   refine aE R2 rfl rfl (bM ?_)
   refine tY (s:=gs.trailer++[c]) (at':=4) (by omega) (by omega) ?_
   have et:(gs.trailer++[c]).take (4+4)=gs.trailer++[c]:=List.take_of_length_le (by omega)
   simp only [cX,cW,et]
   refine aC (aC (aE R2 rfl rfl (aC ?_)))
   refine aI (fun ek=>?_) fun ek=>?_
   ·have ek : bN ((gs.trailer ++ [c]).drop 4) ≠ gs.size := fun hh => by
     have ek:(!decide (((bN ((gs.trailer++[c]).drop 4):Nat):Int)=((gs.size:Nat):Int)))=true:=ek
     rw [hh,decide_eq_true rfl] at ek; cases ek
    refine .inl (hqe h2 _ 8 ?_ (by decide) U12 R2)
    unfold rD
    simp only
    rw [if_neg (fun hh=>e4 hh.1),if_pos e,if_neg ek]
   ·have ek : bN ((gs.trailer ++ [c]).drop 4) = gs.size := by
     have ek:(!decide (((bN ((gs.trailer++[c]).drop 4):Nat):Int)=((gs.size:Nat):Int)))=false:=ek
     have:=of_decide_eq_true (by simpa using ek:decide (((bN ((gs.trailer++[c]).drop 4):Nat):Int)=((gs.size:Nat):Int))=true)
     omega
    refine aJ R2 rfl (by show 13<17; decide) (hk:=fun h3 l3 U3 R3=>?_)
    refine Y46.i0 ?_
    simp only [Y46.t0]
    refine .inl (hqo h3 _ ?_ (U12.trans U3 fun _ _ h=>h) (vgo h3 false U3 R3 fun h=>by cases h))
    unfold rD
    simp only
    rw [if_neg (fun hh=>e4 hh.1),if_pos e,if_pos ek]
  ·have e8 : (gs.trailer ++ [c]).length ≠ 8 := by have e : ¬ ((gs.trailer ++ [c]).length : Int) = 8 := of_decide_eq_false e8; omega
   refine Y46.i0 ?_
   simp only [Y46.t0]
   refine .inl (hqo h2 _ ?_ U12 (vgo h2 gs.within (Upd.refl _ _) R2 fun _=>by omega))
   unfold rD
   simp only
   rw [if_neg (fun hh=>e4 hh.1),if_neg e8]
def aD3 (o r:Int):GS:={ out:=bnd o 0 65536,ratio:=bnd r 1 1100 }
theorem aCU (o r:Int):GOK (aD3 o r) 0:=
 { hd:=vT.zero,cnt:=Nat.le_refl _,nml:=Nat.le_refl _,out:=(by show bnd o 0 65536≤_; unfold bnd; omega),ratio:=(by show 1≤bnd r 1 1100∧bnd r 1 1100≤_; unfold bnd; omega),size:=(by show 0+bnd o 0 65536≤_; unfold bnd; omega),sizes:=(fun x hx=>by cases hx),len:=Nat.zero_le _,same:=rfl,room:=(fun h=>by cases h),data:=(fun i hi=>by cases hi),trail:=(fun h=>by cases h),fresh:=(fun h=>by cases h),idle:=fun _=>rfl,crc:=⟨0,rfl⟩,tdat:=(fun i hi=>by cases hi) }
theorem aTF {o r:Int} (OO:dI h) (hq:∀ h' g,Upd (fun _=>False) h h'→h.length≤g→Gz h' g (fun i=>h.length≤i∧i<h'.length) (aD3 o r) 0→Q (zp g) h'):C Y85.id [.ag [.i .i64 o,.i .i64 r]] h Q:=by
 have hol:=OO.lt
 refine Y85.call ?_
 simp only [Y85.t]
 refine cB (hk:=fun h1 l1 U1 R1=>?_)
 have R1:aZ h1 h.length [.i .i64 o,.i .i64 r]:=R1
 have e2:(AV.ag [.i .i64 o,.i .i64 r]).parts.length=2:=rfl
 simp only [e2,bD]
 refine aE R1 rfl rfl (aC ?_)
 refine aT (n:=((bnd o 0 65536:Nat):Int)) (aDO (lo:=0) (hi:=65536) o (by decide)) ?_
 refine aE R1 rfl rfl (aC ?_)
 refine aT (n:=((bnd r 1 1100:Nat):Int)) (aDO (lo:=1) (hi:=1100) r (by decide)) ?_
 refine aJ R1 rfl (by show 0<2; decide) (hk:=fun h2 l2 U2 R2=>?_)
 refine aJ R2 rfl (by show 1<2; decide) (hk:=fun h3 l3 U3 R3=>?_)
 have R3:aZ h3 h.length [iN (bnd o 0 65536),iN (bnd r 1 1100)]:=R3
 rw [aKR (n:=2) R3 rfl (by show 0+0+2≤2; omega)]
 refine aGX (cs:=(mkR (aD3 o r) yW (.p none) yW yW false).cells) rfl ?_
 refine cB (hk:=fun h4 l4 U4 R4=>?_)
 have U13:Upd (· = h.length) h1 h3:=U2.trans U3 fun _ _ h=>h
 have U03:Upd (fun _=>False) h h3:=U1.own U13 (Nat.le_refl _)
 have U:Upd (fun _=>False) h h4:=U03.trans U4 fun _ _ h=>h
 have hU3:=U03.1
 have hl3:h3.length=h1.length:=by omega
 have hn:∀ i, ¬ aQ yW i:=fun i hi=>hi
 refine .inl (hq h4 h3.length U hU3 ⟨fun _=>False,yW,.p none,yW,yW, ?_⟩)
 exact { recd:=R4,nmT:=.inl ⟨rfl,rfl⟩,namesT:=.inl ⟨rfl,rfl⟩,sizesT:=.inl ⟨rfl,rfl⟩,gO:=⟨hU3,by omega⟩,gF:=fun h=>h,nmO:=fun i hi=>(hn i hi).elim,nsO:=fun i hi=>(hn i hi).elim,szO:=fun i hi=>(hn i hi).elim,fO:=fun i hi=>hi.elim,lt:=fun i hi=>hi.2,ord:=OO.upd U fun h=>h,oO:=(fun hh=>by have:=hh.1; omega),dat:=rfl,ok:=aCU o r }
def hH (g:GS):Int:=if g.within=true∨g.names=[] then 1 else 0
theorem aPP (V:Gz h g O gs N) (hq:Q (.i .i64 (hH gs)) h):C Y40.id [zp g] h Q:=by
 obtain ⟨F,nm,data,names,sizes,V⟩:=V
 have fin:∀ b,(b=true→hH gs=1)→(b=false→hH gs=0)→Y40.p0 (aH h Q) b h:=fun b h1 h2=>by
  refine Y40.i0 ?_
  simp only [Y40.t0]
  cases b with
  | true=>rw [h1 rfl] at hq; exact aN rfl (.inl hq)
  | false=>rw [h2 rfl] at hq; exact aG rfl (.inl hq)
 refine Y40.call ?_
 simp only [Y40.t,bE,bD, ← Y40.p0.eq_1]
 refine cF (by kernel_rfl) (aR (aG rfl ?_))
 refine aE V.recd rfl rfl (aR (aG rfl ?_))
 refine aE V.recd rfl rfl (aR ?_)
 show (bif gs.within then _ else _)
 cases hw:gs.within with
 | true=>exact aN rfl (fin true (fun _=>by unfold hH; rw [if_pos (.inl hw)]) fun h=>by cases h)
 | false =>
  refine aG rfl (aE V.recd rfl rfl (V.namesT.rd.len ?_))
  have hl:(gs.names.map AV.s).length=gs.names.length:=by simp
  rw [hl]
  refine fin _ (fun e=>?_) fun e=>?_
  ·have e : (gs.names.length : Int) = 0 := of_decide_eq_true e
   unfold hH
   rw [if_pos (.inr (List.length_eq_zero_iff.1 (by omega)))]
  ·have e : ¬ (gs.names.length : Int) = 0 := of_decide_eq_false e
   unfold hH
   rw [if_neg]
   rintro (h | h)
   ·rw [hw] at h; cases h
   ·rw [h] at e; exact e rfl
theorem aCP (V:GzD h g O) (hq:Q (.i .i64 10) h):C Y40.id [zp g] h Q:=by
 obtain ⟨⟨r,R,hd⟩,_⟩:=V
 refine Y40.call ?_
 simp only [Y40.t,bE,bD, ← Y40.p0.eq_1]
 refine cF (by kernel_rfl) (aR (aG rfl ?_))
 refine aE R rfl rfl (aR ?_)
 rw [show r.dead=true from hd]
 exact aN rfl (.inl hq)
end
end Go.Proofs.YtfoekpcljhbijaaGreatDoor
namespace Go.Proofs.YtfoekpcljhbijaaGreatDoor
open Go.GAM Go.RowKit
theorem aS9:∀ n:Fin 256,bA .and .u8 ((n.1:Nat):Int) 2=((n.1 &&& 2:Nat):Int):=by decide +kernel
theorem aTT:∀ n:Fin 256,bA .and .u8 ((n.1:Nat):Int) 4=((n.1 &&& 4:Nat):Int):=by decide +kernel
theorem aUF:∀ n:Fin 256,bA .and .u8 ((n.1:Nat):Int) 8=((n.1 &&& 8:Nat):Int):=by decide +kernel
theorem aRL:∀ n:Fin 256,bA .and .u8 ((n.1:Nat):Int) 16=((n.1 &&& 16:Nat):Int):=by decide +kernel
theorem dz (n:Nat):decide (((n:Nat):Int)=0)=decide (n=0):=by
 by_cases h:n=0
 ·subst h; rfl
 ·rw [decide_eq_false h,decide_eq_false (by omega)]
abbrev tuH (r:HR):AV:=.tu [.s r.1,.b r.2.1,.i .i64 r.2.2]
section
variable [XR] {h:aA} {Q:AV→aA→Prop} {s name:List UInt8} {fl pos:Nat}
theorem aFM {at' : Nat} (ha : at' ≤ s.length) : (eX s at').2.1 ≤ s.length := by
 unfold eX
 cases hx:gS (s.drop at') with
 | none=>exact Nat.zero_le _
 | some j =>
  show at'+j+1≤s.length
  have:∀ (l:List UInt8) (j:Nat),gS l=some j→j<l.length:=by
   intro l
   induction l with
   | nil=>intro j h; cases h
   | cons c l ih =>
    intro j h
    rw [gS] at h
    split at h
    ·cases h; simp
    ·cases hi : gS l with
     | none=>rw [hi] at h; cases h
     | some k=>rw [hi] at h; cases h; have:=ih k hi; simp; omega
  have:=this _ _ hx
  rw [List.length_drop] at this; omega
theorem aO0 (hs : s.length < 1099511627776) (hf : fl < 256) (hp : pos ≤ s.length) (hq : Q (tuH (aA4 s fl pos name)) h) : Y20.p2 Q s (fl : Int) (pos : Int) name h := by
 refine Y20.i2 ?_
 simp only [Y20.t2]
 rw [aS9 ⟨fl,hf⟩,dz]
 unfold aA4 at hq
 by_cases h2:fl &&& 2=0
 ·rw [if_pos h2] at hq
  refine aN (decide_eq_true h2) ?_
  have e:decide (((s.length:Int):Int)=(pos:Int))=(s.length == pos):=by
   by_cases hh:s.length=pos
   ·rw [hh]; simp
   ·rw [decide_eq_false (by omega)]; simp [hh]
  rw [e]; exact hq
 ·rw [if_neg h2] at hq
  refine aG (decide_eq_false h2) (aT (n:=((pos+2:Nat):Int)) (by rw [aY (by omega) (by omega)]; omega) ?_)
  by_cases hl:s.length<pos+2
  ·rw [if_pos hl] at hq
   exact aN (decide_eq_true (by omega)) hq
  ·rw [if_neg hl] at hq
   refine aG (decide_eq_false (by omega)) (qV (at':=pos) (w:=2) hs (by decide) (by omega) ?_)
   simp only [cX,cW]
   refine aC (aC (aFN hp (aRQ (by rw [List.length_take]; omega) (cY ?_))))
   obtain ⟨v,hv⟩:=rB 0 (s.take pos)
   rw [hv] at hq ⊢
   rw [Int.toNat_natCast] at hq
   refine ⟨by decide, ?_⟩
   have e1:((v.toNat:Nat):Int).tmod 65536=((v.toNat % 65536:Nat):Int):=by
    rw [Int.tmod_eq_emod_of_nonneg (by omega)]; omega
   have hm:v.toNat % 65536<65536:=Nat.mod_lt _ (by decide)
   rw [e1]
   show (bif !decide (((bN ((s.take (pos+2)).drop pos):Nat):Int)=IntKind.wrap .i64 ((v.toNat % 65536:Nat):Int)) then _ else _)
   rw [aY (n:=((v.toNat % 65536:Nat):Int)) (by omega) (by omega)]
   by_cases hk:bN ((s.take (pos+2)).drop pos)≠v.toNat % 65536
   ·rw [if_pos hk] at hq
    exact aN (by rw [decide_eq_false (by omega)] <;> rfl) hq
   ·rw [if_neg hk] at hq
    exact aG (by rw [decide_eq_true (by omega)] <;> rfl) hq
theorem aQT (hs:s.length<1099511627776) (hf:fl<256) (hp:pos≤s.length) (hq:Q (tuH (aE2 s fl pos name)) h):Y20.p1 Q s (fl:Int) (pos:Int) name h:=by
 refine Y20.i1 ?_
 simp only [Y20.t1, ← Y20.p2.eq_1]
 rw [aRL ⟨fl,hf⟩,dz]
 unfold aE2 at hq
 by_cases h2:fl &&& 16=0
 ·rw [if_neg (by simpa using h2)] at hq
  exact aG (by rw [decide_eq_true h2] <;> rfl) (aO0 hs hf hp hq)
 ·rw [if_pos h2] at hq
  refine aN (by rw [decide_eq_false h2] <;> rfl) (aJN hs hp ?_)
  simp only [cX,cW,sE]
  refine bM (aC (aR ?_))
  have hle:=aFM hp
  generalize eX s pos=T at hq hle ⊢
  obtain ⟨t,n,ok⟩:=T
  cases ok with
  | true=>exact aG rfl (aO0 hs hf hle (by simpa using hq))
  | false=>exact aN rfl (by simpa using hq)
theorem aKX (hs:s.length<1099511627776) (hf:fl<256) (hp:pos≤s.length) (hq:Q (tuH (qF s fl pos)) h):Y20.p0 Q s (fl:Int) (pos:Int) h:=by
 refine Y20.i0 ?_
 simp only [Y20.t0, ← Y20.p1.eq_1]
 rw [aUF ⟨fl,hf⟩,dz]
 unfold qF at hq
 by_cases h2:fl &&& 8=0
 ·rw [if_neg (by simpa using h2)] at hq
  exact aG (by rw [decide_eq_true h2] <;> rfl) (aQT hs hf hp hq)
 ·rw [if_pos h2] at hq
  refine aN (by rw [decide_eq_false h2] <;> rfl) (aJN hs hp ?_)
  simp only [cX,cW,sE]
  refine bM (aC (aR ?_))
  have hle:=aFM hp
  generalize eX s pos=T at hq hle ⊢
  obtain ⟨t,n,ok⟩:=T
  simp only at hq hle ⊢
  by_cases h256:256<t.length
  ·rw [if_pos h256] at hq
   exact aN (decide_eq_true (by omega)) hq
  ·rw [if_neg h256] at hq
   refine aG (decide_eq_false (by omega)) ?_
   cases ok with
   | true=>exact aG rfl (aQT hs hf hle (by simpa using hq))
   | false=>exact aN rfl (by simpa using hq)
theorem aCH (hs : s.length < 1099511627776) (hq : Q (tuH (dT s)) h) : C Y20.id [.s s] h Q := by
 refine Y20.call ?_
 simp only [Y20.t, ← Y20.p0.eq_1]
 refine aL7 hs (aR ?_)
 unfold dT at hq
 cases hb:dU s with
 | false =>
  rw [hb] at hq
  exact aN rfl (.inl hq)
 | true =>
  rw [hb,if_pos rfl] at hq
  refine aG rfl ?_
  by_cases h10:s.length<10
  ·rw [if_pos h10] at hq
   exact aN (decide_eq_true (by omega)) (.inl hq)
  ·rw [if_neg h10] at hq
   obtain ⟨c,hc⟩:∃ c,s[3]? = some c:=⟨_,List.getElem?_eq_getElem (by omega)⟩
   have ec:s.getD 3 0=c:=by rw [List.getD_eq_getElem?_getD,hc] <;> rfl
   rw [ec] at hq
   have hf:=c.toNat_lt
   refine aG (decide_eq_false (by omega)) (eQ (i:=3) hc ?_)
   rw [aTT ⟨c.toNat,hf⟩,dz]
   unfold iU at hq
   by_cases h4:c.toNat &&& 4=0
   ·rw [if_neg (by simpa using h4)] at hq
    exact aG (by rw [decide_eq_true h4] <;> rfl) (aKX (Q:=aH h Q) (pos:=10) hs hf (by omega) (.inl hq))
   ·rw [if_pos h4] at hq
    refine aN (by rw [decide_eq_false h4] <;> rfl) ?_
    by_cases h12:s.length<12
    ·rw [if_pos h12] at hq
     exact aN (decide_eq_true (by omega)) (.inl hq)
    ·rw [if_neg h12] at hq
     refine aG (decide_eq_false (by omega)) (qV (at':=10) (w:=2) hs (by decide) (by omega) ?_)
     simp only [cX,cW]
     have hlt:=vW ((s.take (10+2)).drop 10)
     have hll:((s.take (10+2)).drop 10).length=2:=by rw [List.length_drop,List.length_take]; omega
     rw [hll] at hlt
     have hq:Q (tuH (if s.length<12+bN ((s.take (10+2)).drop 10) then ([],false,0) else qF s c.toNat (12+bN ((s.take (10+2)).drop 10)))) h:=hq
     generalize bN ((s.take (10+2)).drop 10)=ex at hlt hq ⊢
     have hlt:ex<65536:=hlt
     refine aC (aC (aT (n:=((12+ex:Nat):Int)) (by rw [aY (by omega) (by omega)]; omega) ?_))
     by_cases hx:s.length<12+ex
     ·rw [if_pos hx] at hq
      exact aN (decide_eq_true (by omega)) (.inl hq)
     ·rw [if_neg hx] at hq
      exact aG (decide_eq_false (by omega)) (aKX (Q:=aH h Q) (pos:=12+ex) hs hf (by omega) (.inl hq))
end
end Go.Proofs.YtfoekpcljhbijaaGreatDoor
namespace Go.Proofs.YtfoekpcljhbijaaGreatDoor
open Go.GAM Go.RowKit
open Go.Infl (bG cG bS Out Lim)
def pre (l:List UInt8) (r:GR3):GR3:=(r.1,l++r.2.1,r.2.2)
theorem iF {gs:GS} {s s' l:List UInt8} {r:GR3} (h:cC gs s=dG r s'):dG (.live gs,l,0) s=dG (pre l r) s':=by
 show ((cC gs s).1,l++(cC gs s).2.1,(cC gs s).2.2)=_
 rw [h]
 rcases r with ⟨x,b,e⟩
 cases x with
 | dead=>rfl
 | live g=>simp only [dG,pre,List.append_assoc]
theorem aB6 {hd:Hd} {c:UInt8} {e:Int} (h:dB hd c = .inl e):e=2∨e=3∨e=8:=by
 unfold dB at h
 simp only at h
 split at h <;> (repeat' split at h) <;> first | (cases h; done) | (injection h with h; subst h; simp)
theorem aKE {L:Lim} {c:UInt8} {t:List UInt8} {i:Nat} {k:bG} {w:cG} {c':bS}:(dR (c :: t) i (Infl.run L (Infl.bitsOf (c :: t)) (8 * i) (.wait k w c'))).length<(c :: t).length:=by
 have e:Infl.bitsOf (c :: t)=c.toNat % 2 :: (Huff.loBits (c.toNat / 2) 7++Infl.bitsOf t):=rfl
 rw [e]
 have hf:=vV (L:=L) (b:=c.toNat % 2) (bs:=Huff.loBits (c.toNat / 2) 7++Infl.bitsOf t) (i:=8 * i) (k:=k) (w:=w) (c:=c')
 generalize Infl.run L (c.toNat % 2 :: (Huff.loBits (c.toNat / 2) 7++Infl.bitsOf t)) (8 * i) (.wait k w c')=X at hf
 obtain ⟨p,x⟩:=X
 have hf:8 * i+1≤p:=hf
 cases x with
 | done k =>
  show ((c :: t).drop ((p+7) / 8 - i)).length<_
  rw [List.length_drop,List.length_cons]; omega
 | _=>exact Nat.zero_lt_succ _
theorem aNP {g g':GS} {i:Inf} {x:Out} {n:Nat} {b:List UInt8} {e:Int} (h:aER g i x n=(.live g',b,e)):g'.out=g.out - b.length:=by
 rw [tA] at h
 cases x <;> simp only [Prod.mk.injEq,GO.live.injEq,reduceCtorEq,false_and] at h
 ·obtain ⟨h1,h2,_⟩:=h; rw [← h1, ← h2] <;> rfl
 ·obtain ⟨h1,h2,_⟩:=h; rw [← h1, ← h2] <;> rfl
theorem aFB {g g':GS} {c:UInt8} {b:List UInt8} {e:Int} (h:rD g c=(.live g',b,e)):g'.out=g.out:=by
 unfold rD at h
 simp only at h
 repeat' split at h
 all_goals first | (simp only [Prod.mk.injEq,reduceCtorEq,false_and] at h; done) | (simp only [Prod.mk.injEq,GO.live.injEq] at h; rw [← h.1])
section
variable {h h' hb:aA} {Q:AV→aA→Prop} {g bid:Nat} {O O0 F:Nat→Prop} {gs gs0:GS} {N N1:Nat} {nm data names sizes:AV} {cs:List AV} {buf:AV} {l s0:List UInt8}
theorem aEE {t:TypeId} {a:AA} {K:AV→Prop} (ht:lF prog t=true) (hk:K (.b true)):cI prog .neq t (.p (some a)) (.p none) K:=by
 simp only [cI,ht,cond_true]; exact hk
theorem aC6 {t:TypeId} {K:AV→Prop} (ht:lF prog t=true) (hk:K (.b false)):cI prog .neq t (.p none) (.p none) K:=by
 simp only [cI,ht,cond_true]; exact hk
structure FS (hb h:aA) (bid:Nat) (O0 O:Nat→Prop) (cs:List AV) (buf:AV) (l:List UInt8):Prop where
 upd:Upd O0 hb h
 blks:∀ i,O i→O0 i∨hb.length≤i
 bld:Bld h bid 0 cs buf l
 two:2=cs.length
 bO:¬ O bid
 bufO:∀ i,aQ buf i→¬ O i
 new:hb.length≤bid
 bufn:∀ i,aQ buf i→hb.length≤i
 ordl:0<hb.length
theorem FS.step {O':Nat→Prop} (S:FS hb h bid O0 O cs buf l) (U:Upd O h h') (hO:∀ i,O' i→O i∨h.length≤i):FS hb h' bid O0 O' cs buf l:=
 { S with upd:=S.upd.trans U fun i hl hi=>(S.blks i hi).resolve_right (by omega),blks:=(fun i hi=>(hO i hi).elim (S.blks i) fun h=>.inr (Nat.le_trans S.upd.1 h)),bld:=S.bld.upd U S.bO S.bufO,bO:=(fun hh=>(hO _ hh).elim S.bO fun h=>by have:=S.bld.lt; omega),bufO:=(fun i hi hh=>(hO _ hh).elim (S.bufO i hi) fun h=>by have:=S.bld.is.lt hi; omega) }
theorem FS.write {l':List UInt8} {cs':List AV} {buf':AV} (S:FS hb h bid O0 O cs buf l) (U:Upd (fun i=>i=bid∨aQ buf i) h h') (B:Bld h' bid 0 cs' buf' l') (h2:2=cs'.length) (hb':∀ i,aQ buf' i→aQ buf i∨h.length≤i) (lt:∀ i,O i→i<h.length):FS hb h' bid O0 O cs' buf' l':=
  { S with upd := S.upd.trans U (fun i hl hi => by
      rcases hi with hi | hi
      · have:=S.new; omega
      · have:=S.bufn i hi; omega),bld:=B,two:=h2,bufO:=(fun i hi hh=>(hb' i hi).elim (fun h=>S.bufO i h hh) fun h=>by have:=lt i hh; omega),bufn:=(fun i hi=>(hb' i hi).elim (S.bufn i) fun h=>Nat.le_trans S.upd.1 h) }
theorem FS.no (S:FS hb h bid O0 O cs buf l):¬ (0=bid∨aQ buf 0):=fun hh=>by
 have:=S.ordl
 rcases hh with h | h
 ·have:=S.new; omega
 ·have:=S.bufn _ h; omega
theorem qY {s:List UInt8} {r:GR} {e:Int} (hqd:∀ h' O' b e,Upd O0 hb h'→(∀ i,O' i→O0 i∨hb.length≤i)→GzD h' g O'→cC gs0 s0=(.dead,b,e)→e≠0→b.length≤gs0.out→Q (.tu [.s b,.i .i64 e]) h')
  (S:FS hb h bid O0 O cs buf l) (R:aZ h g (GR.cells r)) (gO:O g) (lt:∀ i,O i→i<h.length) (ord:dI h) (oO:¬ O 0) (he:e≠0) (hout:gs0.out≤65536) (hG:cC gs0 s0=(.dead,l,e)) (hl:l.length≤gs0.out) :
  Y8.p2 (aH hb Q) (zp g) s (.p (some ⟨bid,2,0⟩)) e h:=by
 refine Y8.i2 ?_
 simp only [Y8.t2,bE,bD]
 refine aN (by simp [he]) ?_
 refine aJ R rfl (by show 14<17; decide) (hk:=fun h1 l1 U1 R1=>?_)
 have S1:FS hb h1 bid O0 O cs buf l:=S.step (U1.mono fun i _ e=>e ▸ gO) fun i hi=>.inl hi
 refine aC1 S1.bld S1.two (by omega) fun h2 U2 l2=>bM (.inl (hqd h2 O l e (S1.upd.trans U2 fun i hl hi=>by have:=S1.bufn i hi; omega) S.blks ?_ hG he hl))
 refine ⟨⟨{ r with dead:=true },(show aZ h1 g (GR.cells { r with dead:=true }) from R1).upd U2 fun hh=>S.bufO g hh gO,rfl⟩,gO,fun i hi=>by have:=lt i hi; omega,(ord.upd U1 fun e=>oO (by show O _; rw [e]; exact gO)).upd U2 fun hh=>S.no (.inr hh),oO⟩
theorem aQ2 (hqd : ∀ h' O' b e, Upd O0 hb h' → (∀ i, O' i → O0 i ∨ hb.length ≤ i) → GzD h' g O' → cC gs0 s0 = (.dead, b, e) → e ≠ 0 → b.length ≤ gs0.out → Q (.tu [.s b, .i .i64 e]) h')
    (hql:∀ h' O' gs' b,Upd O0 hb h'→(∀ i,O' i→O0 i∨hb.length≤i)→Gz h' g O' gs' N1→cC gs0 s0=(.live gs',b,0)→b.length+gs'.out≤gs0.out→Q (.tu [.s b,iN 0]) h') (hN1:N1<1099511627776) (hout:gs0.out≤65536) :
    ∀ (n:Nat) (s:List UInt8) (h:aA) (O:Nat→Prop) (gs:GS) (N:Nat) (cs:List AV) (buf:AV) (l:List UInt8),s.length<n→FS hb h bid O0 O cs buf l→Gz h g O gs N→N+s.length≤N1→cC gs0 s0=dG (.live gs,l,0) s→l.length+gs.out≤gs0.out→Y8.p0 (aH hb Q) (zp g) s (.p (some ⟨bid,2,0⟩)) h:=by
  intro n
  induction n with
  | zero=>intro s h O gs N cs buf l hs; omega
  | succ n ih =>
    intro s h O gs N cs buf l hs S V hN hG ho
    cases s with
    | nil =>
      refine Y8.i0 ?_
      simp only [Y8.t0]
      refine aG (by simp) ?_
      refine aC1 S.bld S.two (by omega) fun h2 U2 l2=>bM (.inl (hql h2 O gs l (S.upd.trans U2 fun i hl hi=>by have:=S.bufn i hi; omega) S.blks ?_ ?_ ho))
      · refine Gz.upd ?_ U2 (fun i hi hh => S.bufO i hh hi) fun hh => S.no (.inr hh)
        obtain ⟨F,nm,data,names,sizes,V⟩:=V
        exact ⟨F,nm,data,names,sizes,{ V with ok:=V.ok.mono (by simpa using hN) }⟩
      · rw [hG]; simp [dG,cC]
    | cons c t =>
      have hs:t.length<n:=by simp at hs; omega
      have hN:N+1+t.length≤N1:=by simp at hN; omega
      have hne:(!(decide ((c :: t:List UInt8)=[])))=true:=by simp
      have W : ∀ (h : aA) (gs : GS), gs.within = true → FS hb h bid O0 O cs buf l → Gz h g O gs N → cC gs0 s0 = dG (.live gs, l, 0) (c :: t) → l.length + gs.out ≤ gs0.out → Y8.p0 (aH hb Q) (zp g) (c :: t) (.p (some ⟨bid, 2, 0⟩)) h := by
        intro h gs hw S V hG ho
        obtain ⟨F,nm,data,names,sizes,V⟩:=V
        have goon:∀ (h':aA) (O':Nat→Prop) (gs':GS) (N':Nat) (cs':List AV) (buf':AV) (l' s':List UInt8),s'.length<n→FS hb h' bid O0 O' cs' buf' l'→Gz h' g O' gs' N'→N'+s'.length≤N1→cC gs0 s0=dG (.live gs',l',0) s'→l'.length+gs'.out≤gs0.out→Y8.p2 (aH hb Q) (zp g) s' (.p (some ⟨bid,2,0⟩)) 0 h':=by
          intro h' O' gs' N' cs' buf' l' s' a1 a2 a3 a4 a5 a6
          refine Y8.i2 ?_
          simp only [Y8.t2, ← Y8.p0.eq_1]
          exact aG rfl (ih s' h' O' gs' N' cs' buf' l' a1 a2 a3 a4 a5 a6)
        have hp8:=V.ok.hd.part
        have step:cC gs (c :: t)=dG (dO gs c) t:=j6 gs c t
        refine Y8.i0 ?_
        simp only [Y8.t0,bE,bD, ← Y8.p1.eq_1, ← Y8.p2.eq_1]
        refine aN hne (aE V.recd rfl rfl (aR (aG (by show (!gs.within)=false; rw [hw] <;> rfl) ?_)))
        refine aE V.recd rfl rfl (aC ?_)
        by_cases hp:gs.hd.part<8
        · have hst : dO gs c = hdP gs c := by unfold dO; rw [hw]; simp [hp]
          refine aN (decide_eq_true (by show ((gs.hd.part:Nat):Int)<8; omega)) ?_
          refine eQ (l:=c :: t) (i:=0) (c:=c) rfl ?_
          have hdn:=V.ok.fresh hw hp
          refine aTK (c:=c) (r:=mkR gs nm data names sizes false) V.ok.hd hp V.ok.hd.sum V.recd V.nmT (fun hh=>(V.nmO g hh).2.1 rfl) (fun e h1 r' ht U R=>?_) fun hd' h1 nm' ht U R T hnm hv=>?_
          · have he := aB6 ht
            have e0:e≠0:=by omega
            refine aC (jF (l:=c :: t) (lo:=1) (by simp) (aG (decide_eq_false e0) ?_))
            refine Y8.i1 ?_
            simp only [Y8.t1, ← Y8.p2.eq_1]
            have UO:Upd O h h1:=U.mono fun i _ hi=>by
              rcases hi with rfl | hi
              · exact V.gO
              · exact (V.nmO i hi).1
            have hU:=U.1
            refine aG rfl (qY hqd (S.step UO fun i hi=>.inl hi) R V.gO (fun i hi=>by have:=V.lt i hi; omega) (V.ord.upd UO V.oO) V.oO e0 hout ?_ (by omega))
            rw [hG,iF step,hst]
            unfold hdP
            have ht:dB gs.hd c = .inl e:=ht
            rw [ht]
            simp [dG,pre]
          · have ht : dB gs.hd c = .inr hd' := ht
            have hU:=U.1
            have UO:Upd O h h1:=U.mono fun i _ hi=>by
              rcases hi with rfl | hi
              · exact V.gO
              · exact (V.nmO i hi).1
            have hok:=V.ok.hdr (c:=c) (by omega) hw hp ht
            have hol:=V.ord.lt
            have bF:∀ i,F i→i<h.length:=fun i hi=>V.lt i (V.fO i hi)
            have bns:∀ j,aQ names j→j<h.length:=fun j hj=>V.namesT.rd.lt hj
            have bsz:∀ j,aQ sizes j→j<h.length:=fun j hj=>V.sizesT.rd.lt hj
            have B1:GzB h1 g (fun i=>(O i∨h.length≤i)∧i<h1.length) F { gs with hd:=hd' } nm' data names sizes:=by
              have hg:=V.lt g V.gO
              refine { recd:=R,nmT:=T,namesT:=V.namesT.upd U ?_,sizesT:=V.sizesT.upd U ?_,gO:=⟨.inl V.gO,by omega⟩,gF:=V.gF,nmO:=fun i hi=>?_,nsO:=fun i hi=>⟨⟨.inl (V.nsO i hi).1,by have:=bns i hi; omega⟩,(V.nsO i hi).2.1,(V.nsO i hi).2.2.1,fun hh=>?_⟩,szO:=fun i hi=>⟨⟨.inl (V.szO i hi).1,by have:=bsz i hi; omega⟩,(V.szO i hi).2.1,(V.szO i hi).2.2.1,fun hh=>?_,(V.szO i hi).2.2.2.2⟩,fO:=fun i hi=>⟨.inl (V.fO i hi),by have:=bF i hi; omega⟩,lt:=fun i hi=>hi.2,ord:=V.ord.upd UO V.oO,oO:=fun hh=>?_,dat:=?_ }
              · intro i hi hh
                rcases hh with hh | hh
                · exact (V.nsO i hi).2.1 hh
                · exact (V.nsO i hi).2.2.2 hh
              · intro i hi hh
                rcases hh with hh | hh
                · exact (V.szO i hi).2.1 hh
                · exact (V.szO i hi).2.2.2.1 hh
              · have hl := T.lt hi
                refine ⟨⟨?_,hl⟩,fun e=>hv (e ▸ hi),fun hf=>?_⟩
                · rcases hnm i hi with h | h
                  · exact .inl (V.nmO i h).1
                  · exact .inr h
                · rcases hnm i hi with h | h
                  · exact (V.nmO i h).2.2 hf
                  · have:=bF i hf; omega
              · rcases hnm i hh with h | h
                · exact (V.nsO i hi).2.2.2 h
                · have:=bns i hi; omega
              · rcases hnm i hh with h | h
                · exact (V.szO i hi).2.2.2.1 h
                · have:=bsz i hi; omega
              · rcases hh.1 with h | h
                · exact V.oO h
                · omega
              · have := V.dat
                rw [hdn] at this
                show aH2 h1 F data gs.data
                rw [hdn]; exact this
            have S1:FS hb h1 bid O0 (fun i=>(O i∨h.length≤i)∧i<h1.length) cs buf l:=S.step UO fun i hi=>hi.1
            refine aC (jF (l:=c :: t) (lo:=1) (by simp) (aN rfl (aE R rfl rfl (aC ?_))))
            refine Y8.i1 ?_
            simp only [Y8.t1, ← Y8.p2.eq_1]
            have hG2:∀ r,hdP gs c=(.live r,[],0)→cC gs0 s0=dG (.live r,l,0) t:=fun r hr=>by
              rw [hG,iF step,hst,hr]
              simp only [pre,List.append_nil]
            refine aI (fun e=>?_) fun e=>?_
            · have e : hd'.part = 8 := by have e : ((hd'.part : Nat) : Int) = 8 := of_decide_eq_true e; omega
              rw [if_pos e] at hok
              refine aTO B1 V.ok.same hw hdn (V.ok.room hw hp) hok fun h2 O2 U2 hO2 V2=>?_
              exact goon h2 O2 _ (N+1) cs buf l t hs (S1.step U2 hO2) V2 hN (hG2 _ (by unfold hdP; rw [ht]; simp only; rw [if_pos e])) ho
            · have e : hd'.part ≠ 8 := by have e : ¬ ((hd'.part : Nat) : Int) = 8 := of_decide_eq_false e; omega
              rw [if_neg e] at hok
              exact goon h1 _ _ (N+1) cs buf l t hs S1 ⟨F,nm',data,names,sizes,{ B1 with ok:=hok }⟩ hN (hG2 _ (by unfold hdP; rw [ht]; simp only; rw [if_neg e])) ho
        · have hp8 : gs.hd.part = 8 := by omega
          refine aG (decide_eq_false (by show ¬ ((gs.hd.part:Nat):Int)<8; omega)) ?_
          have hdat:=V.dat
          cases hd:gs.data with
          | some i =>
            rw [hd] at hdat
            obtain ⟨d,dr,told,rfl,D⟩:=hdat
            refine aE V.recd rfl rfl (aEE (by kernel_rfl) (aR (aN rfl ?_)))
            have hchunk:=sY (c :: t) gs i hw hp8 hd (by simp)
            have hrl:=aKE (L:=i.L) (c:=c) (t:=t) (i:=i.inp) (k:=i.k) (w:=i.w) (c':=i.c)
            refine aMI V hd (by simp; omega) (fun h1 O1 gs1 b U hO V1 hinf hb1=>?_) fun h1 O1 r' b e U hO R gO lt ord oO hinf e0 hb1=>?_
            · simp only [cX, cW, sE]
              have S1:=S.step U hO
              refine bM (bM (aC ?_))
              refine rY S1.bld S1.two (by omega) fun buf2 h2 U2 B2 hb2=>?_
              obtain ⟨F1,nm1,data1,names1,sizes1,V1'⟩:=id V1
              have S2:=S1.write U2 B2 (by rw [aKV]; exact S1.two) hb2 V1'.lt
              have V2:=V1.upd U2 (fun i hi hh=>by
                rcases hh with rfl | hh
                · exact S1.bO hi
                · exact S1.bufO i hh hi) S1.no
              refine goon h2 O1 gs1 _ _ buf2 (l++b) _ (by simp at hrl; omega) S2 V2 (by simp at hrl ⊢; omega) ?_ ?_
              · rw [hG,iF hchunk,hinf] <;> rfl
              · have := aNP hinf
                rw [List.length_append]; omega
            · simp only [cX, cW, sE]
              have S1:=S.step U hO
              refine bM (bM (aC ?_))
              refine rY S1.bld S1.two (by omega) fun buf2 h2 U2 B2 hb2=>?_
              have S2:=S1.write U2 B2 (by rw [aKV]; exact S1.two) hb2 lt
              have hU2:=U2.1
              refine qY hqd S2 (R.upd U2 ?_) gO (fun i hi=>by have:=lt i hi; omega) (ord.upd U2 S1.no) oO e0 hout ?_ (by rw [List.length_append]; omega)
              · rintro (rfl | hh)
                · exact S1.bO gO
                · exact S1.bufO _ hh gO
              · rw [hG,iF hchunk,hinf] <;> rfl
          | none =>
            rw [hd] at hdat
            have hdat:data = .p none:=hdat
            subst hdat
            have hst:dO gs c=rD gs c:=by unfold dO; rw [hw,hd]; simp [hp8]
            refine aE V.recd rfl rfl (aC6 (by kernel_rfl) (aR (aG rfl ?_)))
            refine eQ (l:=c :: t) (i:=0) (c:=c) rfl ?_
            refine aUX (c:=c) V hw hp8 hd (fun h1 r' e he e0 U R=>?_) fun h1 gs1 he U V1=>?_
            · refine aC (jF (l := c :: t) (lo := 1) (by simp) ?_)
              have UO:Upd O h h1:=U.mono fun i _ e=>e ▸ V.gO
              have hU:=U.1
              refine qY hqd (S.step UO fun i hi=>.inl hi) R V.gO (fun i hi=>by have:=V.lt i hi; omega) (V.ord.upd UO V.oO) V.oO e0 hout ?_ (by omega)
              rw [hG,iF step,hst,he]
              simp [dG,pre]
            · refine aC (jF (l := c :: t) (lo := 1) (by simp) ?_)
              have UO:Upd O h h1:=U.mono fun i _ e=>e ▸ V.gO
              refine goon h1 O gs1 (N+1) cs buf l t hs (S.step UO fun i hi=>.inl hi) ⟨F,nm,_,names,sizes,V1⟩ hN ?_ (by have:=aFB he; omega)
              rw [hG,iF step,hst,he]
              simp only [pre,List.append_nil]
      cases hw:gs.within with
      | true=>exact W h gs hw S V hG ho
      | false =>
        obtain ⟨F,nm,data,names,sizes,V⟩:=V
        have step:cC gs (c :: t)=dG (dO gs c) t:=j6 gs c t
        refine Y8.i0 ?_
        simp only [Y8.t0,bE,bD, ← Y8.p1.eq_1, ← Y8.p2.eq_1]
        refine aN hne (aE V.recd rfl rfl (aR (aN (by show (!gs.within)=true; rw [hw] <;> rfl) ?_)))
        refine eQ (l:=c :: t) (i:=0) (c:=c) rfl ?_
        refine aQ0 (c:=c) V hw (fun e he=>?_) fun h1 hc hn hl U V1=>?_
        · have e0 : e ≠ 0 := by rcases he with ⟨_, rfl⟩ | ⟨_, _, rfl⟩ <;> decide
          refine aC (qY hqd S V.recd V.gO V.lt V.ord V.oO e0 hout ?_ (by omega))
          have hst:dO gs c=(.dead,[],e):=by
            unfold dO; rw [hw]
            rcases he with ⟨h1,rfl⟩ | ⟨h1,h2,rfl⟩
            · simp [h1]
            · simp [h1,h2]
          rw [hG,iF step,hst]
          simp [dG,pre]
        · refine aC (Y8.i2 ?_)
          simp only [Y8.t2, ← Y8.p0.eq_1]
          refine aG rfl (W h1 { gs with hd:={},within:=true } rfl (S.step (U.mono fun i _ e=>e ▸ V.gO) fun i hi=>.inl hi) ⟨F,yW,data,names,sizes,V1⟩ ?_ ho)
          have e1:dO gs c=dO { gs with hd:={},within:=true } c:=by
            unfold dO; rw [hw]; simp [hc,hn]
          rw [hG,iF step,iF (j6 { gs with hd:={},within:=true } c t),e1]
end
end Go.Proofs.YtfoekpcljhbijaaGreatDoor
namespace Go.Proofs.YtfoekpcljhbijaaGreatDoor
open Go.GAM Go.RowKit
open Go.Infl (bG cG bS Out Lim)
section
variable {h:aA} {Q:AV→aA→Prop} {g:Nat} {O:Nat→Prop} {gs:GS} {N:Nat} {s:List UInt8}
theorem aK2 {K:AV→aA→Prop} (hk:∀ h',h'.length=h.length+1→Upd (fun _=>False) h h'→Bld h' h.length 0 [.p none,.sl none 0 none] (.sl none 0 none) []→K (.p (some ⟨h.length,2,0⟩)) h'):eK (some 67) [.p none,.sl none 0 none] h K:=by
 refine hk _ (by simp) (Upd.app _ _) ?_
 exact { blk:=⟨bC [.p none,.sl none 0 none] 1 true (some 67),67,by simp,rfl,Nat.le_refl _,rfl,rfl,by kernel_rfl⟩,room:=by decide,addr:=.inl rfl,cell:=rfl,is:=.inl ⟨rfl,rfl⟩,own:=fun h=>h }
theorem aR1 (V:Gz h g O gs N) (hN:N+s.length<1099511627776)
  (hql:∀ h' O' gs' b,Upd O h h'→(∀ i,O' i→O i∨h.length≤i)→Gz h' g O' gs' (N+s.length)→cC gs s=(.live gs',b,0)→b.length+gs'.out≤gs.out→Q (.tu [.s b,iN 0]) h')
  (hqd:∀ h' O' b e,Upd O h h'→(∀ i,O' i→O i∨h.length≤i)→GzD h' g O'→cC gs s=(.dead,b,e)→e≠0→b.length≤gs.out→Q (.tu [.s b,.i .i64 e]) h') :
  C Y8.id [zp g,.s s] h Q:=by
 obtain ⟨F,nm,data,names,sizes,V'⟩:=id V
 have hol:=V'.ord.lt
 refine Y8.call ?_
 simp only [Y8.t,bE,bD, ← Y8.p0.eq_1]
 refine cF (by kernel_rfl) (aR (aG rfl ?_))
 refine aE V'.recd rfl rfl (aR (aG rfl ?_))
 refine aK2 fun h1 l1 U1 B1=>?_
 have hlt:=V'.lt
 refine aQ2 (N1:=N+s.length) hqd hql hN (by have:=V'.ok.out; omega) (s.length+1) s h1 O gs N _ _ [] (Nat.lt_succ_self _) ⟨U1.mono fun _ _ h=>h.elim,fun i hi=>.inl hi,B1,rfl,fun hh=>by have:=hlt _ hh; omega,fun i hi=>hi.elim,Nat.le_refl _,fun i hi=>hi.elim,hol⟩ (V.upd U1 (fun _ _ h=>h) fun h=>h) (Nat.le_refl _) ?_ (by show 0+gs.out≤gs.out; omega)
 show cC gs s=((cC gs s).1,[]++(cC gs s).2.1,(cC gs s).2.2)
 simp
end
end Go.Proofs.YtfoekpcljhbijaaGreatDoor
namespace Go.Proofs.YtfoekpcljhbijaaGreatDoor
open Go.GAM Go.RowKit
open Go.Infl (bG cG bS Out Lim)
section
variable {h h':aA} {Q:AV→aA→Prop} {g:Nat} {O:Nat→Prop} {gs:GS} {x:GO} {N:Nat} {s:List UInt8}
end
end Go.Proofs.YtfoekpcljhbijaaGreatDoor
namespace Go.Proofs.YtfoekpcljhbijaaGreatDoor
open Go.GAM Go.RowKit
open Go.Infl (bG cG bS Out Lim)
structure RR where
 members:AV
 spans:AV
 si:Int
 so:Int
 ratio:Int
 out:Nat
 head:List UInt8
 data:AV
 tail:List UInt8
 crc:Int
 size:Nat
 bad:Bool
 begun:Bool
def RR.cells (r:RR):List AV:=[r.members,r.spans,.i .i64 r.si,.i .i64 r.so,.i .i64 r.ratio,iN r.out,.s r.head,r.data,.s r.tail,.i .u32 r.crc,iN r.size,.b r.bad,.b r.begun]
abbrev rzp (g:Nat):AV:=.p (some ⟨g,13,0⟩)
def vL (ms:List (List UInt8 × List UInt8)):List AV:=ms.flatMap fun m=>[.s m.1,.s m.2]
def aMH (h:aA) (ra:Int) (d:Nat):Option Inf→Prop
 | some i=>∃ (o:Nat) (S:List UInt8),aZ h d (RF (o:Int) ra S i.k.out.length false false [])∧aEC i.L S=(8 * S.length,.wait i.k i.w i.c)∧S.length=i.inp∧i.L=dZ (o:Int) ra
 | none=>∃ (o:Int) (S:List UInt8) (told:Nat) (after:List UInt8),aZ h d (RF o ra S told true false after)
theorem aMH.upd {h h':aA} {M:Nat→Prop} {ra:Int} {d:Nat} {i:Option Inf} (D:aMH h ra d i) (U:Upd M h h') (hd:¬ M d):aMH h' ra d i:=by
 cases i with
 | some i=>obtain ⟨o,S,R,e⟩:=D; exact ⟨o,S,R.upd U hd,e⟩
 | none=>obtain ⟨o,S,t,a,R⟩:=D; exact ⟨o,S,t,a,R.upd U hd⟩
structure kK (h:aA) (g:Nat) (O:Nat→Prop) (gs:GS) (ra:Int) (N:Nat) (r:RR) (ms:List (List UInt8 × List UInt8)):Prop where
 recd:aZ h g r.cells
 mem:Arr 2 h r.members (vL ms) ms.length
 spn:∃ l n,Arr 2 h r.spans l n∧n≤N
 gO:O g
 memO:∀ i,aQ r.members i→O i∧i≠g
 spnO:∀ i,aQ r.spans i→O i∧i≠g∧¬ aQ r.members i
 lt:∀ i,O i→i<h.length
 bad:r.bad=false
 ratio:r.ratio=ra∧gs.ratio=bnd ra 1 1100
 out:r.out=gs.out
 names:gs.names=ms.map (·.1)
 sizes:gs.sizes=ms.map (·.2.length)
 begun:r.begun=(gs.within || !gs.names.isEmpty)
 idle:gs.within=false→r.head=[]∧r.data = .p none∧r.tail=[]∧r.crc=0∧r.size=0
 hdr:gs.within=true→gs.hd.part<8→r.head≠[]∧Inv r.head gs.hd∧r.data = .p none∧r.tail=[]∧r.crc=0∧r.size=0∧r.head.length≤N
 dat:gs.within=true→gs.hd.part=8→r.head=[]∧r.tail=gs.trailer∧r.crc=gs.crc∧r.size=gs.size∧∃ d,r.data=qp d∧(O d∧d≠g∧¬ aQ r.members d∧¬ aQ r.spans d)∧aMH h ra d gs.data
 nam:gs.within=true→gs.hd.part=8→gs.names≠[]
 ok:GOK gs N
section
variable {h h':aA} {Q:AV→aA→Prop} {g:Nat} {O:Nat→Prop} {gs:GS} {ra:Int} {N:Nat} {r:RR} {ms:List (List UInt8 × List UInt8)}
theorem kK.upd {M:Nat→Prop} (V:kK h g O gs ra N r ms) (U:Upd M h h') (hM:∀ i,O i→¬ M i):kK h' g O gs ra N r ms:=
 { V with recd:=V.recd.upd U (hM g V.gO),mem:=V.mem.upd U fun i hi=>hM i (V.memO i hi).1,spn:=(by obtain ⟨l,n,A,hn⟩:=V.spn; exact ⟨l,n,A.upd U fun i hi=>hM i (V.spnO i hi).1,hn⟩),lt:=fun i hi=>Nat.lt_of_lt_of_le (V.lt i hi) U.1,dat:=(fun a b=>by obtain ⟨c1,c2,c3,c4,d,c5,c6,c7⟩:=V.dat a b; exact ⟨c1,c2,c3,c4,d,c5,c6,c7.upd U (hM d c6.1)⟩) }
theorem aGF {sz len:Nat} {h:aA} {v:AV} {cs:List AV} (A:Arr sz h v cs len):v.parts=[v]∧v.sizeOK=true∧v.cellOK=true:=by
 rcases A with ⟨rfl,_⟩ | ⟨id,b,rfl,_⟩ <;> exact ⟨rfl,rfl,rfl⟩
theorem aTC {o:Nat} {x:Nat} (hx:x=bnd ra 1 1100):dZ (o:Int) (x:Int)=dZ (o:Int) ra:=by
 subst hx
 unfold dZ bnd
 simp only [Lim.mk.injEq,true_and]
 omega
theorem aQ8 {o:Int} (hq:∀ h' g r,Upd (fun _=>False) h h'→h.length≤g→kK h' g (fun i=>h.length≤i∧i<h'.length) (aD3 o ra) ra 0 r []→Q (rzp g) h'):C Y87.id [.ag [.i .i64 o,.i .i64 ra]] h Q:=by
 refine Y87.call ?_
 simp only [Y87.t]
 refine cB (hk:=fun h1 l1 U1 R1=>?_)
 have R1:aZ h1 h.length [.i .i64 o,.i .i64 ra]:=R1
 have e2:(AV.ag [.i .i64 o,.i .i64 ra]).parts.length=2:=rfl
 simp only [e2,bD]
 refine aE R1 rfl rfl (aC (aE R1 rfl rfl (aC ?_)))
 refine aT (n:=((bnd o 0 65536:Nat):Int)) (aDO (lo:=0) (hi:=65536) o (by decide)) ?_
 refine cB (hk:=fun h2 l2 U2 R2=>?_)
 have U:=U1.then U2
 have hU1:=U1.1
 refine .inl (hq h2 h1.length ⟨yW,yW,0,0,ra,bnd o 0 65536,[],.p none,[],0,0,false,false⟩ U hU1 ?_)
 exact { recd:=R2,mem:=.inl ⟨rfl,rfl,rfl⟩,spn:=⟨[],0,.inl ⟨rfl,rfl,rfl⟩,Nat.le_refl _⟩,gO:=⟨hU1,by omega⟩,memO:=(fun i hi=>by exact False.elim hi),spnO:=(fun i hi=>by exact False.elim hi),lt:=fun i hi=>hi.2,bad:=rfl,ratio:=⟨rfl,rfl⟩,out:=rfl,names:=rfl,sizes:=rfl,begun:=rfl,idle:=fun _=>⟨rfl,rfl,rfl,rfl,rfl⟩,hdr:=(fun h=>by cases h),dat:=(fun h=>by cases h),nam:=(fun h=>by cases h),ok:=aCU o ra }
theorem aLV (V:kK h g O gs ra N r ms) (hq:Q (.i .i64 (hH gs)) h):C Y39.id [rzp g] h Q:=by
 have fin:∀ b,(b=true→hH gs=1)→(b=false→hH gs=0)→Y39.p0 (aH h Q) b h:=fun b h1 h2=>by
  refine Y39.i0 ?_
  simp only [Y39.t0]
  cases b with
  | true=>rw [h1 rfl] at hq; exact aN rfl (.inl hq)
  | false=>rw [h2 rfl] at hq; exact aG rfl (.inl hq)
 have hb:=V.begun
 refine Y39.call ?_
 simp only [Y39.t,bE,bD, ← Y39.p0.eq_1]
 refine cF (by kernel_rfl) (aR (aG rfl ?_))
 refine aE V.recd rfl rfl (aR (aG V.bad ?_))
 refine aE V.recd rfl rfl (aR ?_)
 cases hw:gs.within with
 | true =>
  have c1:hH gs=1:=by unfold hH; rw [if_pos (.inl hw)]
  rw [hw] at hb
  refine aG (by rw [hb] <;> rfl) (aE V.recd rfl rfl ?_)
  by_cases hp:gs.hd.part=8
  ·obtain ⟨_, _, _, _, d, e, _⟩ := V.dat hw hp
   rw [e]
   exact aEE (by kernel_rfl) (aR (aN rfl (fin true (fun _=>c1) fun h=>by cases h)))
  ·obtain ⟨e1, _, e, _⟩ := V.hdr hw (by have := V.ok.hd.part; omega)
   rw [e]
   refine aC6 (by kernel_rfl) (aR (aG rfl (aE V.recd rfl rfl (bM ?_))))
   exact fin _ (fun _=>c1) fun h=>absurd (by simpa using h) e1
 | false =>
  obtain ⟨e1,e,_⟩:=V.idle hw
  rw [hw] at hb
  cases hn:gs.names with
  | nil =>
   rw [hn] at hb
   exact aN (by rw [hb] <;> rfl) (fin true (fun _=>by unfold hH; rw [if_pos (.inr hn)]) fun h=>by cases h)
  | cons x l =>
   rw [hn] at hb
   refine aG (by rw [hb] <;> rfl) (aE V.recd rfl rfl ?_)
   rw [e]
   refine aC6 (by kernel_rfl) (aR (aG rfl (aE V.recd rfl rfl (bM ?_))))
   rw [e1]
   refine fin _ (fun h=>by simp at h) fun _=>?_
   unfold hH
   rw [if_neg]
   rintro (h | h)
   ·rw [hw] at h; cases h
   ·rw [hn] at h; cases h
end
end Go.Proofs.YtfoekpcljhbijaaGreatDoor
namespace Go.Proofs.YtfoekpcljhbijaaGreatDoor
open Go.GAM Go.RowKit
open Go.Infl (bG cG bS Out Lim)
section
variable {h h' h0:aA} {Q:AV→aA→Prop} {g:Nat} {O:Nat→Prop} {gs:GS} {ra:Int} {N:Nat} {r:RR} {ms:List (List UInt8 × List UInt8)}
theorem qW (ms:List (List UInt8 × List UInt8)) (m:List UInt8 × List UInt8):vL (ms++[m])=vL ms++[.s m.1,.s m.2]:=by simp [vL]
theorem aJM {c : UInt8} {gs1 : GS} {h1 : aA} (V : kK h g O gs ra N r ms) (hN : N + 1 < 1099511627776) (U01 : Upd (· = g) h h1) (l01 : h1.length = h.length) (R1 : aZ h1 g ({ r with begun := true } : RR).cells)
  (hw:gs1.within=true) (hp:gs1.hd.part<8) (hI:Inv r.head gs1.hd) (hd0:r.data = .p none) (ht0:r.tail=[]) (hc0:r.crc=0) (hs0:r.size=0) (hhl:r.head.length≤N) (ok:GOK gs1 N) (eo:gs1.out=gs.out) (er:gs1.ratio=gs.ratio) (en:gs1.names=gs.names) (ez:gs1.sizes=gs.sizes)
  (hqe:∀ h' r' e,hdP gs1 c=(.dead,[],e)→e≠0→Upd O h h'→aZ h' g (RR.cells r')→Q (.i .i64 e) h')
  (hqo:∀ h' O' gs' r' ms',hdP gs1 c=(.live gs',[],0)→Upd O h h'→(∀ i,O' i→O i∨h.length≤i)→kK h' g O' gs' ra (N+1) r' ms'→Q (iN 0) h'):Y3.p0 (aH h Q) (rzp g) [c] false h1:=by
 have gl:=V.recd.lt
 refine Y3.i0 ?_
 simp only [Y3.t0,bE,bD, ← Y3.p1.eq_1]
 refine aG rfl (aE R1 rfl rfl (bM ⟨by show ((r.head.length+1:Nat):Int)≤_; omega, ?_⟩))
 refine aJ R1 rfl (by show 6<13; decide) (hk:=fun h2 l2 U2 R2=>?_)
 have R2:aZ h2 g ({ r with begun:=true,head:=r.head++[c] }:RR).cells:=R2
 have U02:Upd (· = g) h h2:=U01.trans U2 fun _ _ h=>h
 have UO2:Upd O h h2:=U02.mono fun i _ e=>e ▸ V.gO
 refine aE R2 rfl rfl (bM (aCH (s:=r.head++[c]) (by rw [List.length_append]; show r.head.length+1<_; omega) ?_))
 simp only [cX,cW,sE]
 refine bM (aR (aC ?_))
 have err:∀ (n:List UInt8) (e:Int),Q (.i .i64 e) h2→Y3.p1 (aH h Q) (rzp g) n e false h2:=fun n e hq=>by
  refine Y3.i1 ?_
  simp only [Y3.t1, ← Y3.p2.eq_1]
  refine aG rfl (Y3.i2 ?_)
  simp only [Y3.t2]
  exact .inl hq
 cases ht:dB gs1.hd c with
 | inl e =>
  have he:=aKY hI hp ht
  have h3:=aB6 ht
  have e0:e≠0:=by omega
  generalize dT (r.head++[c])=X at he ⊢
  obtain ⟨n,b,e'⟩:=X
  simp only [Prod.mk.injEq] at he
  obtain ⟨rfl,rfl⟩:=he
  refine aG rfl (err _ _ (hqe h2 _ _ ?_ e0 UO2 R2))
  unfold hdP; rw [ht]
 | inr hd' =>
  have hI':=aUK ok.hd hI hp ht
  have hok:=ok.hdr (c:=c) (by omega) hw hp ht
  by_cases h8:hd'.part=8
  ·rw [if_pos h8] at hok
   have hX:dT (r.head++[c])=(hd'.name,true,0):=by
    unfold Inv at hI'
    rw [h8] at hI'
    exact hI'.2
   rw [hX]
   refine aN rfl (Y3.i1 ?_)
   simp only [Y3.t1,bE,bD, ← Y3.p2.eq_1]
   refine aN rfl (aE R2 rfl rfl ?_)
   have mem2:Arr 2 h2 r.members (vL ms) ms.length:=V.mem.upd U02 fun i hi e=>(V.memO i hi).2 e
   have hml:ms.length<16:=by
    have h1:=ok.room hw hp
    rw [en,V.names,List.length_map] at h1; exact h1
   refine mem2.push (x:=.ag [.s hd'.name,.s []]) (by decide) rfl rfl rfl (by omega) (by omega) fun v3 h3 U3 A3 F3=>?_
   have A3:Arr 2 h3 v3 (vL (ms++[(hd'.name,[])])) (ms++[(hd'.name,([]:List UInt8))]).length:=by
    rw [qW,List.length_append]; exact A3
   have hgm:¬ aQ r.members g:=fun hh=>(V.memO g hh).2 rfl
   have R3:=R2.upd U3 hgm
   have hv3:∀ i,aQ v3 i→aQ r.members i∨h2.length≤i:=F3
   have hl2:h2.length=h.length:=by omega
   have hv3g:¬ aQ v3 g:=fun hh=>by
    rcases hv3 g hh with h | h
    ·exact hgm h
    ·omega
   obtain ⟨s1,s2,s3⟩:=aGF A3
   refine aJ R3 rfl (by show 0<13; decide) s1 s2 s3 (hk:=fun h4 l4 U4 R4=>?_)
   refine aE R4 rfl rfl (aC (aE R4 rfl rfl (aC ?_)))
   refine aRR fun h5 d U5 hdl R5=>?_
   have R5g:=R4.upd U5 fun h=>h
   refine aJ R5g rfl (by show 7<13; decide) (hk:=fun h6 l6 U6 R6=>?_)
   refine aJ R6 rfl (by show 6<13; decide) (hk:=fun h7 l7 U7 R7=>?_)
   refine Y3.i2 ?_
   simp only [Y3.t2]
   have R7:aZ h7 g (RR.cells { r with begun:=true,members:=v3,data:=qp d,head:=[] }):=R7
   have U67:Upd (· = g) h5 h7:=U6.trans U7 fun _ _ h=>h
   have U47:Upd (· = g) h3 h7:=(U4.trans (U5.mono fun _ _ h=>h.elim) fun _ _ h=>h).trans U67 fun _ _ h=>h
   have u3:=U3.1
   have u5:=U5.1
   have UO7:Upd O h h7:=(UO2.trans (U3.mono fun i _ hi=>(V.memO i hi).1) fun _ _ h=>h).trans (U47.mono fun i _ e=>e ▸ V.gO) fun _ _ h=>h
   have hdg:d≠g:=by omega
   have hol:=V.lt
   have bm:∀ i,aQ r.members i→i<h.length:=fun i hi=>hol i (V.memO i hi).1
   have bs:∀ i,aQ r.spans i→i<h.length:=fun i hi=>hol i (V.spnO i hi).1
   have dlt:d<h5.length:=R5.lt
   have bv:∀ i,aQ v3 i→i<h3.length:=fun i hi=>A3.rd.lt hi
   refine .inl (hqo h7 (fun i=>(O i∨h.length≤i)∧i<h7.length) (aGW { gs1 with hd:=hd' }) { r with begun:=true,members:=v3,data:=qp d,head:=[] } (ms++[(hd'.name,[])]) ?_ UO7 (fun i hi=>hi.1) ?_)
   ·unfold hdP; rw [ht]; simp only; rw [if_pos h8]
   ·refine { recd := R7, mem := A3.upd U47 fun i hi e => hv3g (e ▸ hi), spn := ?_, gO := ⟨.inl V.gO, by omega⟩, memO := fun i hi => ⟨⟨?_, by have := bv i hi; omega⟩, fun e => hv3g (e ▸ hi)⟩, spnO := fun i hi => ⟨⟨.inl (V.spnO i hi).1, by have := bs i hi; omega⟩, (V.spnO i hi).2.1, fun hh => ?_⟩, lt := fun i hi => hi.2, bad := V.bad, ratio := ⟨V.ratio.1, by show gs1.ratio = _; rw [er]; exact V.ratio.2⟩, out := (by show r.out = gs1.out; rw [eo]; exact V.out), names := ?_, sizes := ?_, begun := (by show true = (gs1.within || _); rw [hw] <;> rfl), idle := (fun hh => by have hh : gs1.within = false := hh; rw [hw] at hh; cases hh), hdr := (fun _ hh => by have hh : hd'.part < 8 := hh; omega), dat := fun _ _ => ⟨rfl, ht0, hc0, hs0, d, rfl, ⟨⟨.inr (by omega), by omega⟩, hdg, fun hh => ?_, fun hh => ?_⟩, ?_⟩, nam := (fun _ _ => by show gs1.names ++ [hd'.name] ≠ []; simp), ok := hok }
    ·obtain ⟨l, n, A, hn⟩ := V.spn
     exact ⟨l,n,((A.upd U02 fun i hi e=>(V.spnO i hi).2.1 e).upd U3 fun i hi h=>(V.spnO i hi).2.2 h).upd U47 fun i hi e=>(V.spnO i hi).2.1 e,Nat.le_succ_of_le hn⟩
    ·rcases hv3 i hi with h | h
     ·exact .inl (V.memO i h).1
     ·exact .inr (by omega)
    ·rcases hv3 i hh with h | h
     ·exact (V.spnO i hi).2.2 h
     ·have:=bs i hi; omega
    ·show gs1.names ++ [hd'.name] = _
     rw [en,V.names,List.map_append] <;> rfl
    ·show gs1.sizes ++ [0] = _
     rw [ez,V.sizes,List.map_append] <;> rfl
    ·have hh : aQ v3 d := hh
     have:=bv d hh
     omega
    ·have hh : aQ r.spans d := hh
     have:=bs d hh
     omega
    ·show aMH h7 ra d (some _)
     have eout:r.out=gs1.out:=by rw [eo]; exact V.out
     refine ⟨gs1.out,[], ?_,aQG _,rfl, ?_⟩
     ·rw [← eout, ← V.ratio.1]
      exact R5.upd U67 fun e=>hdg e
     ·show dZ (gs1.out : Int) (gs1.ratio : Int) = _
      exact aTC (by rw [er]; exact V.ratio.2)
  ·rw [if_neg h8] at hok
   have hlt8:hd'.part<8:=by have:=hok.hd.part; have:hd'.part≤8:=this; omega
   have hX:=aPL hI' hlt8
   have hres:Q (iN 0) h2:=by
    refine hqo h2 O { gs1 with hd:=hd' } { r with begun:=true,head:=r.head++[c] } ms ?_ UO2 (fun i hi=>.inl hi) { recd:=R2,mem:=V.mem.upd U02 fun i hi e=>(V.memO i hi).2 e,spn:=?_,gO:=V.gO,memO:=V.memO,spnO:=V.spnO,lt:=fun i hi=>by have:=V.lt i hi; omega,bad:=V.bad,ratio:=⟨V.ratio.1,by show gs1.ratio=_; rw [er]; exact V.ratio.2⟩,out:=(by show r.out=gs1.out; rw [eo]; exact V.out),names:=(by show gs1.names=_; rw [en]; exact V.names),sizes:=(by show gs1.sizes=_; rw [ez]; exact V.sizes),begun:=(by show true=(gs1.within||_); rw [hw] <;> rfl),idle:=(fun hh=>by have hh:gs1.within=false:=hh; rw [hw] at hh; cases hh),hdr:=fun _ _=>⟨by simp,hI',hd0,ht0,hc0,hs0,by rw [List.length_append]; show r.head.length+1≤_; omega⟩,dat:=(fun _ hh=>by have hh:hd'.part=8:=hh; omega),nam:=(fun _ hh=>by have hh:hd'.part=8:=hh; omega),ok:=hok }
    ·unfold hdP; rw [ht]; simp only; rw [if_neg h8]
    ·obtain ⟨l, n, A, hn⟩ := V.spn
     exact ⟨l,n,A.upd U02 fun i hi e=>(V.spnO i hi).2.1 e,Nat.le_succ_of_le hn⟩
   generalize dT (r.head++[c])=X at hX ⊢
   obtain ⟨n,b,e'⟩:=X
   simp only [Prod.mk.injEq] at hX
   obtain ⟨rfl,rfl⟩:=hX
   exact aG rfl (err _ _ hres)
end
end Go.Proofs.YtfoekpcljhbijaaGreatDoor
namespace Go.Proofs.YtfoekpcljhbijaaGreatDoor
open Go.GAM Go.RowKit
open Go.Infl (bG cG bS Out Lim)
section
variable {h h' h0:aA} {Q:AV→aA→Prop} {g:Nat} {O:Nat→Prop} {gs:GS} {ra:Int} {N:Nat} {r:RR} {ms:List (List UInt8 × List UInt8)}
theorem aJ9:Inv [] {}:=⟨(aLK 0#32).symm,rfl,by decide,rfl⟩
theorem aQ6 {c:UInt8} {h1:aA} (R1:aZ h1 g ({ r with begun:=true }:RR).cells) (hh:r.head=[]) (hc:c≠31) (hq:∀ h' r',Upd (· = g) h1 h'→aZ h' g (RR.cells r')→Q (.i .i64 2) h'):Y3.p0 (aH h Q) (rzp g) [c] false h1:=by
 refine Y3.i0 ?_
 simp only [Y3.t0,bE,bD, ← Y3.p1.eq_1]
 refine aG rfl (aE R1 rfl rfl (bM ⟨by rw [show ({ r with begun:=true }:RR).head=[] from hh]; show ((0+1:Nat):Int)≤_; decide, ?_⟩))
 refine aJ R1 rfl (by show 6<13; decide) (hk:=fun h2 l2 U2 R2=>?_)
 have R2:aZ h2 g ({ r with begun:=true,head:=r.head++[c] }:RR).cells:=R2
 refine aE R2 rfl rfl (bM (aCH (s:=r.head++[c]) (by rw [hh]; show 0+1<1099511627776; decide) ?_))
 simp only [cX,cW,sE]
 refine bM (aR (aC ?_))
 have ht:dB {} c = .inl 2:=by rw [tk0 rfl,if_neg]; intro h; exact hc (Option.some.inj h).symm
 have he:=aKY aJ9 (by decide) ht
 rw [List.nil_append] at he
 rw [hh,List.nil_append]
 generalize dT [c]=X at he ⊢
 obtain ⟨n,b,e'⟩:=X
 simp only [Prod.mk.injEq] at he
 obtain ⟨rfl,rfl⟩:=he
 refine aG rfl (Y3.i1 ?_)
 simp only [Y3.t1, ← Y3.p2.eq_1]
 refine aG rfl (Y3.i2 ?_)
 simp only [Y3.t2]
 exact .inl (hq h2 _ U2 R2)
theorem aTU {c : UInt8} (V : kK h g O gs ra N r ms) (hN : N + 1 < 1099511627776) (hnd : gs.data = none)
  (hqe:∀ h' r' e,dO gs c=(.dead,[],e)→e≠0→Upd O h h'→aZ h' g (RR.cells r')→Q (.i .i64 e) h')
  (hqo:∀ h' O' gs' r' ms',dO gs c=(.live gs',[],0)→Upd O h h'→(∀ i,O' i→O i∨h.length≤i)→kK h' g O' gs' ra (N+1) r' ms'→Q (iN 0) h'):C Y3.id [rzp g,.s [c]] h Q:=by
 have gl:=V.recd.lt
 refine Y3.call ?_
 simp only [Y3.t,bE,bD, ← Y3.p0.eq_1, ← Y3.p3.eq_1]
 refine aJ V.recd rfl (by show 12<13; decide) (hk:=fun h1 l1 U1 R1=>?_)
 have R1:aZ h1 g ({ r with begun:=true }:RR).cells:=R1
 have UO1:Upd O h h1:=U1.mono fun i _ e=>e ▸ V.gO
 cases hw:gs.within with
 | false =>
  obtain ⟨i1,i2,i3,i4,i5⟩:=V.idle hw
  refine aE R1 rfl rfl ?_
  rw [show ({ r with begun:=true }:RR).data = .p none from i2]
  refine kN (by kernel_rfl) (aR (aN rfl (aE R1 rfl rfl (bM ?_))))
  rw [show ({ r with begun:=true }:RR).head=[] from i1]
  refine aN (by simp) (aE R1 rfl rfl ?_)
  have mem1:Arr 2 h1 r.members (vL ms) ms.length:=V.mem.upd U1 fun i hi e=>(V.memO i hi).2 e
  refine mem1.rd.len ?_
  have hnl:gs.names.length=ms.length:=by rw [V.names,List.length_map]
  by_cases hc:c=31
  ·by_cases h16 : ms.length = 16
   ·refine aN (decide_eq_true (by omega)) ?_
    rw [hc,decide_eq_true rfl]
    refine Y3.i0 ?_
    simp only [Y3.t0]
    refine aN rfl (.inl (hqe h1 _ 3 ?_ (by decide) UO1 R1))
    unfold dO; rw [hw]; simp [hc,hnl,h16]
   ·refine aG (decide_eq_false (by omega)) ?_
    have hst:dO gs c=hdP { gs with hd:={},within:=true } c:=by
     unfold dO; rw [hw]; simp [hc,hnl,h16]
    rw [hst] at hqe hqo
    exact aJM (gs1:={ gs with hd:={},within:=true }) V hN U1 l1 R1 rfl (by show 0<8; decide) (by rw [i1]; exact aJ9) i2 i3 i4 i5 (by rw [i1]; exact Nat.zero_le _) (V.ok.begin hw (by omega)) rfl rfl rfl rfl hqe hqo
  ·have bad : Y3.p0 (aH h Q) (rzp g) [c] false h1 := aQ6 R1 i1 hc fun h2 r2 U2 R2 => by
    refine hqe h2 r2 2 ?_ (by decide) (UO1.trans U2 fun i _ e=>e ▸ V.gO) R2
    unfold dO; rw [hw]; simp [hc]
   refine aI (fun _=>?_) fun _=>bad
   rw [decide_eq_false (fun h=>hc (List.singleton_inj.1 h))]
   exact bad
 | true =>
  by_cases hp:gs.hd.part<8
  ·obtain ⟨n1, n2, n3, n4, n5, n6, n7⟩ := V.hdr hw hp
   have hst:dO gs c=hdP gs c:=by unfold dO; rw [hw]; simp [hp]
   rw [hst] at hqe hqo
   refine aE R1 rfl rfl ?_
   rw [show ({ r with begun:=true }:RR).data = .p none from n3]
   refine kN (by kernel_rfl) (aR (aN rfl (aE R1 rfl rfl (bM (aG (decide_eq_false n1) ?_)))))
   exact aJM V hN U1 l1 R1 hw hp n2 n3 n4 n5 n6 n7 V.ok rfl rfl rfl rfl hqe hqo
  ·have hp8 : gs.hd.part = 8 := by have := V.ok.hd.part; omega
   obtain ⟨d1,d2,d3,d4,d,d5,d6,d7⟩:=V.dat hw hp8
   have hst:dO gs c=rD gs c:=by unfold dO; rw [hw,hnd]; simp [hp8]
   rw [hst] at hqe hqo
   have htl:=V.ok.trail hw hnd hp8
   have hlen:(gs.trailer++[c]).length=gs.trailer.length+1:=by simp
   refine aE R1 rfl rfl ?_
   rw [show ({ r with begun:=true }:RR).data=qp d from d5]
   refine cF (by kernel_rfl) (aR (aG rfl (aE R1 rfl rfl (bM ?_))))
   rw [show ({ r with begun:=true }:RR).tail=gs.trailer from d2]
   refine ⟨by show ((gs.trailer.length+1:Nat):Int)≤_; omega, ?_⟩
   refine aJ R1 rfl (by show 8<13; decide) (hk:=fun h2 l2 U2 R2=>?_)
   have R2:aZ h2 g ({ r with begun:=true,tail:=gs.trailer++[c] }:RR).cells:=R2
   have U02:Upd (· = g) h h2:=U1.trans U2 fun _ _ h=>h
   have UO2:Upd O h h2:=U02.mono fun i _ e=>e ▸ V.gO
   obtain ⟨v,hv⟩:=V.ok.crc
   have live:∀ (h3:aA) (w:Bool) (r3:RR),Upd (· = g) h2 h3→h3.length=h2.length→aZ h3 g r3.cells→r3.members=r.members→r3.spans=r.spans→r3.bad=r.bad→r3.ratio=r.ratio→r3.out=r.out→r3.begun=true→r3.head=[] →
     (w=true→(gs.trailer++[c]).length<8∧r3.data=qp d∧r3.tail=gs.trailer++[c]∧r3.crc=gs.crc∧r3.size=gs.size)→(w=false→r3.data = .p none∧r3.tail=[]∧r3.crc=0∧r3.size=0)→kK h3 g O { gs with trailer:=gs.trailer++[c],within:=w } ra (N+1) r3 ms:=by
    intro h3 w r3 U3 l3 R3 e1 e2 e3 e4 e5 e6 e7 hT hF
    have U:=U02.trans U3 fun _ _ h=>h
    have hnam:=V.nam hw hp8
    refine { recd:=R3,mem:=by rw [e1]; exact V.mem.upd U fun i hi e=>(V.memO i hi).2 e,spn:=?_,gO:=V.gO,memO:=by rw [e1]; exact V.memO,spnO:=by rw [e2,e1]; exact V.spnO,lt:=fun i hi=>by have:=V.lt i hi; omega,bad:=by rw [e3]; exact V.bad,ratio:=⟨by rw [e4]; exact V.ratio.1,V.ratio.2⟩,out:=by rw [e5]; exact V.out,names:=V.names,sizes:=V.sizes,begun:=?_,idle:=fun hh=>⟨e7,hF hh⟩,hdr:=fun _ hh=>absurd (show gs.hd.part<8 from hh) hp,dat:=fun hh _=>?_,nam:=fun _ _=>hnam,ok:=V.ok.endd hnd hp8 fun hh=>(hT hh).1 }
    ·obtain ⟨l, n, A, hn⟩ := V.spn
     exact ⟨l,n,by rw [e2]; exact A.upd U fun i hi e=>(V.spnO i hi).2.1 e,Nat.le_succ_of_le hn⟩
    ·rw [e6]
     show true=(w || !gs.names.isEmpty)
     cases hn:gs.names with
     | nil=>exact absurd hn hnam
     | cons x l=>simp
    ·obtain ⟨_, f1, f2, f3, f4⟩ := hT hh
     exact ⟨e7,f2,f3,f4,d,f1,⟨d6.1,d6.2.1,by rw [e1]; exact d6.2.2.1,by rw [e2]; exact d6.2.2.2⟩,d7.upd U fun e=>d6.2.1 e⟩
   have p4:∀ h3,Q (iN 0) h3→Y3.p4 (aH h Q) h3:=fun h3 hq=>by
    refine Y3.i4 ?_
    simp only [Y3.t4]
    exact .inl hq
   have p3:((gs.trailer++[c]).length=4→(bN ((gs.trailer++[c]).take 4):Int)=gs.crc)→Y3.p3 (aH h Q) (rzp g) h2:=fun h4=>by
    refine Y3.i3 ?_
    simp only [Y3.t3,bE,bD, ← Y3.p4.eq_1]
    refine aE R2 rfl rfl (bM (aI (fun e=>?_) fun e=>?_))
    ·have e : (gs.trailer ++ [c]).length = 8 := by have e : ((gs.trailer ++ [c]).length : Int) = 8 := of_decide_eq_true e; omega
     refine aE R2 rfl rfl (bM (qV (s:=gs.trailer++[c]) (at':=4) (w:=4) (by omega) (by decide) (by omega) ?_))
     have et:(gs.trailer++[c]).take (4+4)=gs.trailer++[c]:=List.take_of_length_le (by omega)
     simp only [cX,cW,et]
     refine aC (aC (aE R2 rfl rfl (aC ?_)))
     rw [show ({ r with begun:=true,tail:=gs.trailer++[c] }:RR).size=gs.size from d4]
     by_cases hk:bN ((gs.trailer++[c]).drop 4)=gs.size
     ·refine aG (by rw [decide_eq_true (by omega)] <;> rfl) ?_
      refine aJ R2 rfl (by show 7<13; decide) (hk:=fun h3 l3 U3 R3=>?_)
      refine aJ R3 rfl (by show 8<13; decide) (hk:=fun h4 l4 U4 R4=>?_)
      refine aJ R4 rfl (by show 9<13; decide) (hk:=fun h5 l5 U5 R5=>?_)
      refine aJ R5 rfl (by show 10<13; decide) (hk:=fun h6 l6 U6 R6=>?_)
      have U26:Upd (· = g) h2 h6:=((U3.trans U4 fun _ _ h=>h).trans U5 fun _ _ h=>h).trans U6 fun _ _ h=>h
      refine p4 h6 (hqo h6 O _ { r with begun:=true,tail:=[],data:=.p none,crc:=0,size:=0 } ms ?_ (UO2.trans U26 fun i _ e=>e ▸ V.gO) (fun i hi=>.inl hi) (live h6 false { r with begun:=true,tail:=[],data:=.p none,crc:=0,size:=0 } U26 (by omega) R6 rfl rfl rfl rfl rfl rfl d1 (fun h=>by cases h) fun _=>⟨rfl,rfl,rfl,rfl⟩))
      unfold rD
      simp only
      rw [if_neg (fun hh=>by omega),if_pos e,if_pos hk]
     ·refine aN (by rw [decide_eq_false (by omega)] <;> rfl) (.inl (hqe h2 _ 8 ?_ (by decide) UO2 R2))
      unfold rD
      simp only
      rw [if_neg (fun hh=>by omega),if_pos e,if_neg hk]
    ·have e : (gs.trailer ++ [c]).length ≠ 8 := by have e : ¬ ((gs.trailer ++ [c]).length : Int) = 8 := of_decide_eq_false e; omega
     refine p4 h2 (hqo h2 O _ { r with begun:=true,tail:=gs.trailer++[c] } ms ?_ UO2 (fun i hi=>.inl hi) (live h2 gs.within { r with begun:=true,tail:=gs.trailer++[c] } (Upd.refl _ _) rfl R2 rfl rfl rfl rfl rfl rfl d1 (fun _=>⟨by omega,d5,rfl,d3,d4⟩) fun hh=>by rw [hw] at hh; cases hh))
     unfold rD
     simp only
     rw [if_neg (fun hh=>hh.2 (h4 hh.1)),if_neg e]
   refine aE R2 rfl rfl (bM (aI (fun e=>?_) fun e=>?_))
   ·have e : (gs.trailer ++ [c]).length = 4 := by have e : ((gs.trailer ++ [c]).length : Int) = 4 := of_decide_eq_true e; omega
    refine aE R2 rfl rfl (bM (qV (s:=gs.trailer++[c]) (at':=0) (w:=4) (by omega) (by decide) (by omega) ?_))
    simp only [cX,cW,List.drop_zero,Nat.zero_add]
    refine aC (aC (aE R2 rfl rfl (cY ?_)))
    rw [show ({ r with begun:=true,tail:=gs.trailer++[c] }:RR).crc=gs.crc from d3]
    have hvl:=v.isLt
    have ew:IntKind.wrap .i64 gs.crc=gs.crc:=by rw [hv]; exact aY (by omega) (by omega)
    rw [ew]
    by_cases hk:(bN ((gs.trailer++[c]).take 4):Int)=gs.crc
    ·exact aG (by rw [decide_eq_true hk] <;> rfl) (p3 fun _=>hk)
    ·refine aN (by rw [decide_eq_false hk] <;> rfl) (.inl (hqe h2 _ 8 ?_ (by decide) UO2 R2))
     unfold rD
     simp only
     rw [if_pos ⟨e,hk⟩]
   ·have e : (gs.trailer ++ [c]).length ≠ 4 := by have e : ¬ ((gs.trailer ++ [c]).length : Int) = 4 := of_decide_eq_false e; omega
    exact p3 fun h=>absurd h e
end
end Go.Proofs.YtfoekpcljhbijaaGreatDoor
namespace Go.Proofs.YtfoekpcljhbijaaGreatDoor
open Go.Infl (bG cG bS Out Lim)
theorem aFT (k:bG):oH (Infl.block k):=by unfold Infl.block; split <;> exact True.intro
theorem aOP (k:bG) (n:Nat):oH (Infl.raw k n):=by
 unfold Infl.raw; split
 ·exact aFT k
 ·exact True.intro
theorem aFH (k:bG) (a b:List Nat):oH (Infl.codes k a b):=by
 unfold Infl.codes; split
 ·exact True.intro
 ·exact .inl rfl
theorem aDS (k:bG) (c l:List Nat) (x y:Nat):oH (Infl.lensW k c l x y):=by
 unfold Infl.lensW; split
 ·exact aFH _ _ _
 ·exact True.intro
theorem aGR (k:bG) (l:List Nat) (i n x y:Nat):oH (Infl.thirdW k l i n x y):=by
 unfold Infl.thirdW; split
 ·split
  ·exact aDS _ _ _ _ _
  ·exact .inl rfl
 ·exact True.intro
theorem z7 (L : Lim) (i : Nat) (k : bG) (v : Nat) (c : bS) : oH (Infl.apply L i k v c) := by
 cases c with
 | block=>rw [Infl.apply]; split; exact True.intro; exact aFH { k with last:=v % 2 == 1 } _ _; exact True.intro; exact .inl rfl
 | stored1=>exact True.intro
 | stored2 m=>rw [Infl.apply]; split; exact aOP _ _; exact .inl rfl
 | raw m=>rw [Infl.apply]; split; exact .inr rfl; exact aOP _ _
 | lit a b =>
  rw [Infl.apply]
  split
  ·split
   ·exact .inr rfl
   ·exact True.intro
  ·split
   ·exact aFT k
   ·split
    ·exact .inl rfl
    ·exact True.intro
 | more a b m=>exact True.intro
 | far a b m=>rw [Infl.apply]; split; exact .inl rfl; exact True.intro
 | farMore a b m d =>
  rw [Infl.apply]
  split
  ·exact .inl rfl
  ·split
   ·exact True.intro
   ·exact .inr rfl
 | dyn1=>rw [Infl.apply]; split; exact .inl rfl; exact True.intro
 | dyn2 m=>rw [Infl.apply]; split; exact .inl rfl; exact True.intro
 | dyn3 a b=>exact aGR _ _ _ _ _ _
 | third l x m a b=>exact aGR _ _ _ _ _ _
 | lens c l a b =>
  rw [Infl.apply]
  split
  ·exact aDS _ _ _ _ _
  ·split
   ·split
    ·exact .inl rfl
    ·exact True.intro
   ·split <;> exact True.intro
 | rep c l a b m x=>rw [Infl.apply]; split; exact .inl rfl; exact aDS _ _ _ _ _
theorem vB (L:Lim) (i:Nat):∀ (f:Nat) (o:Out),oH o→oH (Infl.settle L i f o)
 | 0,o,h=>h
 | f+1,.wait k (.num 0 x y) c,_=>vB L i f _ (z7 L i k 0 c)
 | f+1,.wait k (.num (n+1) x y) c,h=>h
 | f+1,.wait k (.sym l n x) c,h=>h
 | f+1,.done k,h=>h
 | f+1,.err e k,h=>h
theorem aUJ (L:Lim) (i:Nat) (k:bG) (w:cG) (c:bS) (b:Nat):oH (Infl.bitP L i k w c b):=by
 cases w with
 | num n h a =>
  unfold Infl.bitP
  simp only
  split
  ·exact True.intro
  ·exact vB _ _ _ _ (z7 _ _ _ _ _)
 | sym l n x =>
  unfold Infl.bitP
  simp only
  split
  ·exact vB _ _ _ _ (z7 _ _ _ _ _)
  ·exact True.intro
  ·exact .inl rfl
theorem aJJ (L:Lim):∀ (bs:List Nat) (i:Nat) (o:Out),oH o→oH (Infl.run L bs i o).2
 | bs,i,.done k,h=>by rw [Infl.run_done]; exact h
 | bs,i,.err e k,h=>by rw [Infl.run_err]; exact h
 | [],i,.wait k w c,h=>by rw [Infl.run_nil]; exact h
 | x :: a, i, .wait k w c, _ => by
  rw [Infl.run_bit]
  split
  ·exact aJJ L a _ _ True.intro
  ·exact aJJ L a _ _ (aUJ L (i / 8+1) { k with skip:=false } w c x)
end Go.Proofs.YtfoekpcljhbijaaGreatDoor
namespace Go.Proofs.YtfoekpcljhbijaaGreatDoor
open Go.GAM Go.RowKit
open Go.Infl (bG cG bS Out Lim)
section
variable {h h' h0:aA} {Q:AV→aA→Prop} {g:Nat} {O:Nat→Prop} {gs:GS} {ra:Int} {N:Nat} {r:RR} {ms:List (List UInt8 × List UInt8)}
theorem aMA {sz len i o:Nat} {v x:AV} {cs:List AV} (A:Arr sz h v cs len) (hi:i<len) (ho:o<sz) (hx:x.parts=[x]) (hs:x.sizeOK=true) (hc:x.cellOK=true) {K:aA→Prop} (hk:∀ h',h'.length=h.length→Upd (aQ v) h h'→Arr sz h' v (cs.set (i * sz+o) x) len→K h') :
  aU sz v (.i .i64 (i:Int)) h fun a=>aB o a fun p=>aP 1 p x h K:=by
 have R:=A.rd
 rcases A with ⟨rfl,rfl,rfl⟩ | ⟨id,b,rfl,h2,rfl,h4,h5,h6,h7,h8⟩
 ·omega
 ·have hm : (i + 1) * sz ≤ len * sz := Nat.mul_le_mul_right _ hi
  rw [Nat.add_mul] at hm
  have hl:=aV h2
  refine ⟨by omega,by omega,⟨b,h2,h6,h6⟩, ?_⟩
  have ei:0+(i:Int).toNat * sz+o=i * sz+o:=by rw [Int.toNat_natCast,Nat.zero_add]
  refine ⟨b,h2,h7,h6,rfl, ?_,hs,by rw [hx] <;> rfl,by rw [hx]; simp [hc], ?_⟩
  ·show 0 + (i : Int).toNat * sz + o + 1 ≤ b.cells.length
   rw [ei]; omega
  ·have ew : wr b.cells (0 + (i : Int).toNat * sz + o) x.parts = b.cells.set (i * sz + o) x := by rw [hx, ei] <;> rfl
   show K (h.set id { b with cells:=wr b.cells (0+(i:Int).toNat * sz+o) x.parts,floor:=b.cells.length })
   rw [ew]
   refine hk _ (by simp) ((Upd.set _ _ _).mono fun j _ e=>e.symm) (.inr ⟨id,{ b with cells:=b.cells.set (i * sz+o) x,floor:=b.cells.length }, ?_,List.getElem?_set_self hl,rfl,by simpa using h4,h5,by simp,h7,h8⟩)
   simp
theorem aDJ (l:List Nat) (n b:Nat):fF (l++[n]) b=l++[n+b]:=by
 unfold fF
 have e:(l++[n]).length - 1=l.length:=by simp
 rw [e]
 have e2:(l++[n]).getD l.length 0=n:=by simp
 rw [e2]
 simp
end
end Go.Proofs.YtfoekpcljhbijaaGreatDoor
