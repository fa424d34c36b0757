/- A part. -/
import Derived.Test.YtkofimhnehkdoaaGreatDoorRbG21
set_option linter.unusedVariables false
set_option linter.unusedSimpArgs false
section
namespace Go.Proofs.YtkofimhnehkdoaaGreatDoor.Rf
theorem right_atom {t:S} (h:t.right = true) (ha:t.atom ≠ []) : t.list = [] ∧ ∀ c,c ∈ t.atom → plainC (c.toNat : Int) = true := by
 rw [S.right_eq,if_neg ha] at h
 simp only [Bool.and_eq_true,List.isEmpty_iff,allPlain,List.all_eq_true] at h
 exact h
theorem plain_name {n:Int} (h:nameC n = true) : plainC n = true := by
 simp only [nameC,lowC,Bool.or_eq_true,Bool.and_eq_true,decide_eq_true_eq] at h
 simp only [plainC,Bool.and_eq_true,decide_eq_true_eq,Bool.not_eq_true',decide_eq_false_iff_not]
 omega
theorem plain_dig {c:UInt8} (h:isDig c = true) : plainC (c.toNat : Int) = true := by
 simp only [isDig,Bool.and_eq_true,decide_eq_true_eq] at h
 simp only [plainC,Bool.and_eq_true,decide_eq_true_eq,Bool.not_eq_true',decide_eq_false_iff_not]
 omega
theorem decI_plain (n:Int) : ∀ c,c ∈ decI n → plainC (c.toNat : Int) = true := fun c hc => plain_dig (decI_digs n c hc)
theorem name_plain {n:List UInt8} (h:nameOk n = true) : ∀ c,c ∈ n → plainC (c.toNat : Int) = true := fun c hc => plain_name ((nameOk_mem h).2.2.2.2 c hc)
theorem aS_right {a:List UInt8} (h:a ≠ []) (hp:∀ c,c ∈ a → plainC (c.toNat : Int) = true) : (aS a).right = true := by
 rw [aS,S.right,if_neg h]
 simp only [List.isEmpty_nil,Bool.true_and,allPlain,List.all_eq_true]
 exact hp
theorem nameE_plain {op:Int} (h:opOk op = true) : nameE op ≠ [] ∧ (nameE op).length ≤ 7 ∧ ∀ c,c ∈ nameE op → plainC (c.toNat : Int) = true := by
 rcases opOk_cases h with rfl | rfl | rfl | rfl | rfl | rfl | rfl | rfl | rfl | rfl | rfl | rfl | rfl | rfl | rfl | rfl | rfl | rfl | rfl | rfl | rfl | rfl | rfl | rfl | rfl | rfl
 all_goals decide +kernel
theorem S.rights_app : ∀ (a b:List S),S.rights (a ++ b) = (S.rights a && S.rights b)
 | [],b => rfl
 | t :: r,b => by simp [S.rights,S.rights_app r b,Bool.and_assoc]
theorem headW_right {op:Int} (h:opOk op = true) (w v:Int) : S.rights (headW op w v) = true := by
 have hn := nameE_plain h
 unfold headW
 simp only [S.rights,aS_right hn.1 hn.2.2,Bool.true_and,S.rights_app]
 have hd : ∀ n,(aS (decI n)).right = true := fun n => aS_right (dec_ne _) (decI_plain n)
 split <;> split <;> simp [S.rights,hd]
mutual
theorem write_right : ∀ t : T,(writeT t).right = true
 | .mk op w v n o as => by
   rw [writeT]
   by_cases h : notE (.mk op w v n o as) = false
   · rw [if_pos h]; rfl
   rw [if_neg h]
   have hN : notE (.mk op w v n o as) = true := by cases hh : notE (.mk op w v n o as) <;> simp_all
   rw [notE_mk] at hN
   simp only [Bool.and_eq_true,decide_eq_true_eq] at hN
   obtain ⟨n0,n1,n2,n3⟩ := hN
   have hop : opOk op = true := arE_ok (by omega)
   have h58 : plainC ((58:UInt8).toNat : Int) = true := by decide
   have nm1 : (op = 1 ∨ op = 24 ∨ op = 25) → ∀ c,c ∈ n ++ 58 :: decI w → plainC (c.toNat : Int) = true := fun e c hc => by
     rw [if_pos e] at n3
     simp only [Bool.and_eq_true,decide_eq_true_eq] at n3
     simp only [List.mem_append,List.mem_cons] at hc
     rcases hc with hc | rfl | hc
     · exact name_plain n3.1 c hc
     · exact h58
     · exact decI_plain w c hc
   by_cases h1 : op = 1
   · rw [if_pos h1]; exact aS_right (by simp) (nm1 (.inl h1))
   rw [if_neg h1]
   by_cases h2 : op = 24
   · rw [if_pos h2]; refine aS_right (by simp) fun c hc => ?_
     rcases List.mem_cons.1 hc with rfl | hc
     · decide
     · exact nm1 (.inr (.inl h2)) c hc
   rw [if_neg h2]
   by_cases h3 : op = 25
   · rw [if_pos h3]; refine aS_right (by simp) fun c hc => ?_
     rcases List.mem_cons.1 hc with rfl | hc
     · decide
     · exact nm1 (.inr (.inr h3)) c hc
   rw [if_neg h3]
   by_cases h4 : op = 2
   · rw [if_pos h4]; refine aS_right (by simp) fun c hc => ?_
     simp only [List.mem_append,List.mem_cons] at hc
     rcases hc with hc | rfl | hc
     · exact decI_plain v c hc
     · exact h58
     · exact decI_plain w c hc
   rw [if_neg h4,S.right,if_pos rfl,S.rights_app,headW_right hop,writes_right as]; rfl
theorem writes_right : ∀ as : List T,S.rights (writeTs as) = true
 | [] => rfl
 | t :: r => by simp [writeTs,S.rights,write_right t,writes_right r]
end
mutual
def T.dep : T → Nat
 | .mk _ _ _ _ _ as => 1 + T.deps as
def T.deps : List T → Nat
 | [] => 0
 | t :: r => max t.dep (T.deps r)
end
theorem T.dep_pos (t:T) : 1 ≤ t.dep := by cases t; simp [T.dep]
theorem aS_depth {a:List UInt8} (h:a ≠ []) : (aS a).depth = 1 := by simp [aS,S.depth,h]
theorem S.depths_app2 : ∀ (a b:List S),S.depths (a ++ b) = max (S.depths a) (S.depths b)
 | [],b => by simp [S.depths]
 | t :: r,b => by simp [S.depths,S.depths_app2 r b]
theorem headW_depth {op:Int} (h:opOk op = true) (w v:Int) : S.depths (headW op w v) = 1 := by
 have hn := nameE_plain h
 have hd : ∀ n,(aS (decI n)).depth = 1 := fun n => aS_depth (dec_ne _)
 unfold headW
 simp only [S.depths,aS_depth hn.1,S.depths_app2]
 split <;> split <;> simp [S.depths,hd]
mutual
theorem write_depth : ∀ t : T,(writeT t).depth ≤ t.dep
 | .mk op w v n o as => by
   have hp := T.dep_pos (.mk op w v n o as)
   rw [writeT]
   by_cases h : notE (.mk op w v n o as) = false
   · rw [if_pos h,aS_depth (by simp)]; exact hp
   rw [if_neg h]
   have hN : notE (.mk op w v n o as) = true := by cases hh : notE (.mk op w v n o as) <;> simp_all
   rw [notE_mk] at hN
   simp only [Bool.and_eq_true,decide_eq_true_eq] at hN
   obtain ⟨n0,n1,n2,n3⟩ := hN
   have hop : opOk op = true := arE_ok (by omega)
   by_cases h1 : op = 1
   · rw [if_pos h1,aS_depth (by simp)]; exact hp
   rw [if_neg h1]
   by_cases h2 : op = 24
   · rw [if_pos h2,aS_depth (by simp)]; exact hp
   rw [if_neg h2]
   by_cases h3 : op = 25
   · rw [if_pos h3,aS_depth (by simp)]; exact hp
   rw [if_neg h3]
   by_cases h4 : op = 2
   · rw [if_pos h4,aS_depth (by simp)]; exact hp
   rw [if_neg h4,S.depth,if_pos rfl,S.depths_app2,headW_depth hop]
   have hne := arE_ne hop h1 h4 h2 h3
   have ih := writes_depth as
   have : 1 ≤ T.deps as := by
     cases as with
     | nil => simp at n2; exact absurd n2.symm hne
     | cons t r => have := T.dep_pos t; simp only [T.deps]; omega
   simp only [T.dep]; omega
theorem writes_depth : ∀ as : List T,S.depths (writeTs as) ≤ T.deps as
 | [] => by simp [writeTs,S.depths,T.deps]
 | t :: r => by
   have a := write_depth t
   have b := writes_depth r
   simp only [writeTs,S.depths,T.deps]; omega
end
theorem decI_len {n:Int} (h:n < 18446744073709551616) : (decI n).length ≤ 20 := dec_len20 (by omega)
theorem aS_text (a:List UInt8) (h:a ≠ []) : (aS a).text = a := by simp [aS,S.text,h]
theorem texts_app2 : ∀ (a b:List S),a ≠ [] → S.texts true (a ++ b) = S.texts true a ++ S.texts false b := by
 have h0 : ∀ (a b:List S),S.texts false (a ++ b) = S.texts false a ++ S.texts false b := by
   intro a
   induction a with
   | nil => intro b; rfl
   | cons x r ih => intro b; simp [S.texts,ih b]
 intro a b h
 cases a with
 | nil => exact absurd rfl h
 | cons x r => simp [S.texts,h0 r b]
theorem headW_len {op w v:Int} (h:opOk op = true) (hw:w < 18446744073709551616) (hv:v < 18446744073709551616) : (S.texts true (headW op w v)).length ≤ 50 := by
 have hn := nameE_plain h
 have l1 := decI_len hw
 have l2 := decI_len hv
 have t1 := aS_text (decI w) (dec_ne _)
 have t2 := aS_text (decI v) (dec_ne _)
 unfold headW
 simp only [S.texts,aS_text _ hn.1]
 by_cases h1 : op = 21
 · simp [h1,S.texts,t1,t2]; rw [h1] at hn; omega
 · by_cases h2 : op = 22 ∨ op = 23
   · simp [h1,h2,S.texts,t1]; omega
   · simp [h1,h2,S.texts]; omega
mutual
theorem write_len : ∀ t : T,t.wf → (writeT t).text.length + 1 ≤ 64 * t.size
 | .mk op w v n o as,hw => by
   simp only [T.wf] at hw
   obtain ⟨_,w2,w3,_,_,_,w7⟩ := hw
   have wv : 0 ≤ v ∧ v < 18446744073709551616 := by simp [Lit.wf,IntKind.min,IntKind.max,IntKind.signed,IntKind.bits] at w3; omega
   have ih := writes_len as w7
   rw [writeT,T.size]
   by_cases h : notE (.mk op w v n o as) = false
   · rw [if_pos h,aS_text _ (by simp)]; simp; omega
   rw [if_neg h]
   have hN : notE (.mk op w v n o as) = true := by cases hh : notE (.mk op w v n o as) <;> simp_all
   rw [notE_mk] at hN
   simp only [Bool.and_eq_true,decide_eq_true_eq] at hN
   obtain ⟨n0,n1,n2,n3⟩ := hN
   have hop : opOk op = true := arE_ok (by omega)
   have l1 := decI_len (n := w) (by omega)
   have l2 := decI_len wv.2
   have nl : (op = 1 ∨ op = 24 ∨ op = 25) → n.length ≤ 16 := fun e => by
     rw [if_pos e] at n3
     simp only [Bool.and_eq_true,decide_eq_true_eq] at n3
     exact (nameOk_mem n3.1).2.1
   by_cases h1 : op = 1
   · have := nl (.inl h1)
     rw [if_pos h1,aS_text _ (by simp)]; simp; omega
   rw [if_neg h1]
   by_cases h2 : op = 24
   · have := nl (.inr (.inl h2))
     rw [if_pos h2,aS_text _ (by simp)]; simp; omega
   rw [if_neg h2]
   by_cases h3 : op = 25
   · have := nl (.inr (.inr h3))
     rw [if_pos h3,aS_text _ (by simp)]; simp; omega
   rw [if_neg h3]
   by_cases h4 : op = 2
   · rw [if_pos h4,aS_text _ (by simp)]; simp; omega
   rw [if_neg h4,S.text,if_pos rfl,texts_app2 _ _ (by simp [headW])]
   have l3 := headW_len (w := w) hop (by omega) wv.2
   simp; omega
theorem writes_len : ∀ as : List T,T.wfs as → (S.texts false (writeTs as)).length ≤ 64 * T.sizes as
 | [],_ => by simp [writeTs,S.texts,T.sizes]
 | t :: r,hw => by
   simp only [T.wfs] at hw
   have a := write_len t hw.1
   have b := writes_len r hw.2
   simp only [writeTs,S.texts,T.sizes,List.length_append]
   simp; omega
end
mutual
theorem write_wf : ∀ t : T,t.wf → (writeT t).wf
 | .mk op w v n o as,hw => by
   simp only [T.wf] at hw
   obtain ⟨_,w2,w3,_,wl,_,w7⟩ := hw
   have wv : 0 ≤ v ∧ v < 18446744073709551616 := by simp [Lit.wf,IntKind.min,IntKind.max,IntKind.signed,IntKind.bits] at w3; omega
   have ih := writes_wf as w7
   have hA : ∀ {a:List UInt8},a.length ≤ 1000 → (aS a).wf := fun h => by simp only [aS,S.wf,S.wfs]; exact ⟨by omega,by simp,by simp,trivial⟩
   rw [writeT]
   by_cases h : notE (.mk op w v n o as) = false
   · rw [if_pos h]; exact hA (by simp)
   rw [if_neg h]
   have hN : notE (.mk op w v n o as) = true := by cases hh : notE (.mk op w v n o as) <;> simp_all
   rw [notE_mk] at hN
   simp only [Bool.and_eq_true,decide_eq_true_eq] at hN
   obtain ⟨n0,n1,n2,n3⟩ := hN
   have hop : opOk op = true := arE_ok (by omega)
   have l1 := decI_len (n := w) (by omega)
   have l2 := decI_len wv.2
   have nl : (op = 1 ∨ op = 24 ∨ op = 25) → n.length ≤ 16 := fun e => by
     rw [if_pos e] at n3
     simp only [Bool.and_eq_true,decide_eq_true_eq] at n3
     exact (nameOk_mem n3.1).2.1
   by_cases h1 : op = 1
   · have := nl (.inl h1)
     rw [if_pos h1]; exact hA (by simp; omega)
   rw [if_neg h1]
   by_cases h2 : op = 24
   · have := nl (.inr (.inl h2))
     rw [if_pos h2]; exact hA (by simp; omega)
   rw [if_neg h2]
   by_cases h3 : op = 25
   · have := nl (.inr (.inr h3))
     rw [if_pos h3]; exact hA (by simp; omega)
   rw [if_neg h3]
   by_cases h4 : op = 2
   · rw [if_pos h4]; exact hA (by simp; omega)
   rw [if_neg h4]
   have hn := nameE_plain hop
   have k1 := hA (a := nameE op) (by omega)
   have k2 := hA (a := decI v) (by omega)
   have k3 := hA (a := decI w) (by omega)
   have hl : (headW op w v).length ≤ 3 := by unfold headW; split <;> split <;> simp
   have i6 : arE op ≤ 3 := by
     unfold arE; split
     · omega
     · split
       · omega
       · split
         · omega
         · split <;> omega
   simp only [S.wf]
   refine ⟨by simp,by rw [List.length_append,writeTs_len]; omega,by simp,?_⟩
   rw [S.wfs_iff]
   intro t ht
   rcases List.mem_append.1 ht with ht | ht
   · have : t = aS (nameE op) ∨ t = aS (decI v) ∨ t = aS (decI w) := by
       unfold headW at ht
       rcases List.mem_cons.1 ht with e | ht
       · exact .inl e
       · rcases List.mem_append.1 ht with ht | ht
         · split at ht
           · simp at ht; exact .inr (.inl ht)
           · simp at ht
         · split at ht
           · simp at ht; exact .inr (.inr ht)
           · simp at ht
     rcases this with rfl | rfl | rfl
     · exact k1
     · exact k2
     · exact k3
   · exact (S.wfs_iff _).1 ih t ht
theorem writes_wf : ∀ as : List T,T.wfs as → S.wfs (writeTs as)
 | [],_ => trivial
 | t :: r,hw => by
   simp only [T.wfs] at hw
   exact ⟨write_wf t hw.1,writes_wf r hw.2⟩
end
end Go.Proofs.YtkofimhnehkdoaaGreatDoor.Rf
end
section
namespace Go.Proofs.YtkofimhnehkdoaaGreatDoor.Rf
end Go.Proofs.YtkofimhnehkdoaaGreatDoor.Rf
end
