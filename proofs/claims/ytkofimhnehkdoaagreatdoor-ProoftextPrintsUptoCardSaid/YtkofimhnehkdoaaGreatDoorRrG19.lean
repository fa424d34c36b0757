/- A part of the proof: see the last text. -/
import Derived.Test.YtkofimhnehkdoaaGreatDoorRrG18
import Derived.Test.YtkofimhnehkdoaaGreatDoorRrG17
import Derived.Test.YtkofimhnehkdoaaGreatDoorRrG16
set_option linter.unusedVariables false
set_option linter.unusedSimpArgs false
section
namespace Go.Proofs.YtkofimhnehkdoaaGreatDoor.Rf
theorem insE_all {as:List Int} (h:¬ as.all insE = false) (i:Nat) : 0 ≤ as.getD i 0 ∧ as.getD i 0 ≤ 64 := by
 have h : as.all insE = true := by cases hh : as.all insE <;> simp_all
 by_cases hi : i < as.length
 · have e : as.getD i 0 = as[i] := by simp [List.getD,hi]
   have := List.all_eq_true.1 h as[i] (List.getElem_mem hi)
   simp only [insE,Bool.and_eq_true,decide_eq_true_eq] at this
   rw [e]; exact this
 · have e : as.getD i 0 = 0 := by simp [List.getD,hi]
   rw [e]; omega
theorem widE_idem {op w v:Int} {as:List Int} (h:(widE op w v as).2 = 0) : opOk op = true ∧ (as.length : Int) = arE op ∧ 0 ≤ (widE op w v as).1 ∧ (widE op w v as).1 ≤ 64 ∧ widE op (widE op w v as).1 v as = ((widE op w v as).1,0) := by
 by_cases c1 : opOk op = false ∨ (as.length : Int) ≠ arE op
 · unfold widE at h; rw [if_pos c1] at h; simp at h
 by_cases c2 : as.all insE = false
 · unfold widE at h; rw [if_neg c1,if_pos c2] at h; simp at h
 have hop : opOk op = true := by cases hh : opOk op <;> simp_all
 have hlen : (as.length : Int) = arE op := by
   by_cases e : (as.length : Int) = arE op
   · exact e
   · exact absurd (.inr e) c1
 refine ⟨hop,hlen,?_⟩
 have g := insE_all c2
 have g0 := g 0
 have g1 := g 1
 unfold widE at h ⊢
 simp only [if_neg c1,if_neg c2] at h ⊢
 by_cases k1 : op = 1 ∨ op = 2 ∨ op = 24 ∨ op = 25
 · simp only [if_pos k1] at h ⊢
   unfold leafE at h ⊢
   by_cases k : insE w = false ∨ (op = 2 ∧ 0 < w ∧ 2 ^ w.toNat ≤ v)
   · rw [if_pos k] at h; simp at h
   · simp only [if_neg k]
     have : insE w = true := by cases hh : insE w <;> simp_all
     simp only [insE,Bool.and_eq_true,decide_eq_true_eq] at this
     exact ⟨this.1,this.2,trivial⟩
 simp only [if_neg k1] at h ⊢
 by_cases k2 : op = 3 ∨ op = 4 ∨ op = 26
 · simp only [if_pos k2]; exact ⟨g0.1,g0.2,trivial⟩
 simp only [if_neg k2] at h ⊢
 by_cases k3 : op = 21 ∨ op = 22 ∨ op = 23
 · simp only [if_pos k3] at h ⊢
   unfold resE at h ⊢
   by_cases k : w < 1 ∨ 64 < w ∨ as.getD 0 0 < 1
   · rw [if_pos k] at h; simp at h
   · simp only [if_neg k] at h ⊢
     by_cases k' : (op ≠ 21 ∧ w < as.getD 0 0) ∨ (op = 21 ∧ (as.getD 0 0 < w ∨ as.getD 0 0 - w < v))
     · rw [if_pos k'] at h; simp at h
     · simp only [if_neg k']
       rw [if_neg k]
       exact ⟨by omega,by omega,rfl⟩
 simp only [if_neg k3] at h ⊢
 by_cases k4 : op = 19
 · simp only [if_pos k4] at h ⊢
   by_cases k : as.getD 0 0 = 1 ∧ as.getD 1 0 = as.getD 2 0
   · simp only [if_pos k]; exact ⟨g1.1,g1.2,trivial⟩
   · rw [if_neg k] at h; simp at h
 simp only [if_neg k4] at h ⊢
 by_cases k5 : op = 20
 · simp only [if_pos k5] at h ⊢
   by_cases k : 1 ≤ as.getD 0 0 ∧ 1 ≤ as.getD 1 0 ∧ as.getD 0 0 + as.getD 1 0 ≤ 64
   · simp only [if_pos k]; exact ⟨by omega,by omega,trivial⟩
   · rw [if_neg k] at h; simp at h
 simp only [if_neg k5] at h ⊢
 by_cases k6 : op = 16 ∨ op = 17 ∨ op = 18
 · simp only [if_pos k6] at h ⊢
   by_cases k : as.getD 0 0 = as.getD 1 0
   · simp only [if_pos k]; exact ⟨by omega,by omega,trivial⟩
   · rw [if_neg k] at h; simp at h
 simp only [if_neg k6] at h ⊢
 by_cases k : as.getD 0 0 = as.getD 1 0
 · simp only [if_pos k]; exact ⟨g0.1,g0.2,trivial⟩
 · rw [if_neg k] at h; simp at h
theorem i64_wf {n:Int} (h0:0 ≤ n) (h1:n ≤ 1000) : (Lit.int .i64 n).wf = true := by simp [Lit.wf,IntKind.min,IntKind.max,IntKind.signed,IntKind.bits]; omega
theorem u64_wf {n:Int} (h0:0 ≤ n) (h1:n < 18446744073709551616) : (Lit.int .u64 n).wf = true := by simp [Lit.wf,IntKind.min,IntKind.max,IntKind.signed,IntKind.bits]; omega
theorem constR_valid {l:List UInt8} {w e:Int} {t:T} (hw:0 ≤ w) (h:constR l w e = .ok t) : t.valid = true ∧ t.wf := by
 have hb := numE_bd l
 unfold constR at h
 split at h
 · cases h
 · split at h
   · cases h
   · rename_i k
     have k : e = 0 ∧ (numE l).2 = 0 ∧ w ≤ 64 := Decidable.not_not.1 k
     split at h
     · cases h
     · rename_i k2
       have k2 : (widE 2 w (numE l).1 []).2 = 0 := Decidable.not_not.1 k2
       cases h
       obtain ⟨i1,i2,i3,i4,i5⟩ := widE_idem k2
       have i6 : (widE 2 w (numE l).1 []).1 = w := by
         unfold widE at k2 ⊢
         rw [if_neg (by decide),if_neg (by decide),if_pos (by decide)] at k2 ⊢
         unfold leafE at k2 ⊢
         split at k2
         · simp at k2
         · rename_i k3; rw [if_neg k3]
       refine ⟨?_,?_⟩
       · simp only [T.valid,T.valids,List.map_nil,k2,i6]
         simp [notE_mk,hw,k.2.2]; rfl
       · simp only [T.wf,T.wfs]
         exact ⟨by decide,i64_wf hw (by omega),u64_wf hb.1 hb.2,by simp,by simp,by simp,trivial⟩
theorem leafOp_cases (l:List UInt8) : leafOp l = 1 ∨ leafOp l = 24 ∨ leafOp l = 25 := by
 unfold leafOp; split
 · simp
 · split <;> simp
theorem name_valid {op w:Int} {n:List UInt8} (h:op = 1 ∨ op = 24 ∨ op = 25) (h0:0 ≤ w) (h1:w ≤ 64) (hn:nameOk n = true) : (T.mk op w 0 n true []).valid = true ∧ (T.mk op w 0 n true []).wf := by
 have ins : insE w = true := by simp [insE,h0,h1]
 have hm := nameOk_mem hn
 refine ⟨?_,?_⟩
 · have hw : widE op w 0 [] = (w,0) := by
     have h2 : op ≠ 2 := by omega
     have h3 : op = 1 ∨ op = 2 ∨ op = 24 ∨ op = 25 := by omega
     have h4 : opOk op = true := by simp [opOk]; omega
     have h5 : arE op = 0 := by rcases h with rfl | rfl | rfl <;> rfl
     unfold widE
     rw [if_neg (by simp [h4,h5]),if_neg (by simp),if_pos h3]
     unfold leafE
     rw [if_neg (by simp [ins,h2])]
   have h5 : arE op = 0 := by rcases h with rfl | rfl | rfl <;> rfl
   simp only [T.valid,T.valids,List.map_nil,hw,notE_mk]
   rw [if_pos h]
   simp [h0,h1,hn,h5]
 · simp only [T.wf,T.wfs]
   exact ⟨i64_wf (by omega) (by omega),i64_wf h0 (by omega),by decide,by omega,by simp,by simp,trivial⟩
theorem leafR_valid {s:List UInt8} {t:T} (h:leafR s = .ok t) : t.valid = true ∧ t.wf := by
 unfold leafR at h
 have hb := numE_bd (cutB s 58).2.1
 split at h
 · cases h
 · split at h
   · exact constR_valid hb.1 h
   · split at h
     · cases h
     · rename_i k
       split at h
       · cases h
       · rename_i k2
         have k2 := Decidable.not_not.1 k2
         cases h
         exact name_valid (leafOp_cases _) hb.1 k2.2 (by simpa using k)
theorem nodeR_valid {op v w:Int} {ts:List T} {t:T} (h1:op ≠ 1) (h2:op ≠ 2) (h3:op ≠ 24) (h4:op ≠ 25) (hv0:op ≠ 21 → v = 0) (hvr:0 ≤ v ∧ v < 18446744073709551616) (hts:T.valids ts = true) (hwf:T.wfs ts) (h:nodeR op v w (.ok ts) = .ok t) : t.valid = true ∧ t.wf := by
 simp only [nodeR] at h
 split at h
 · cases h
 · rename_i k
   have k := Decidable.not_not.1 k
   cases h
   obtain ⟨i1,i2,i3,i4,i5⟩ := widE_idem k
   have i1' : 1 ≤ op ∧ op ≤ 26 := by simpa [opOk] using i1
   have i2' : (ts.length : Int) = arE op := by simpa using i2
   have i6 : arE op ≤ 3 := by
     unfold arE; split
     · omega
     · split
       · omega
       · split
         · omega
         · split <;> omega
   refine ⟨?_,?_⟩
   · simp only [T.valid,hts,i5,Bool.true_and]
     have : notE (.mk op (widE op w v (ts.map T.width)).1 v [] ts.isEmpty ts) = true := by
       rw [notE_mk]
       rw [if_neg (by omega)]
       by_cases h21 : op = 21
       · rw [if_pos (.inr h21)]; simp [i3,i4,i2']
       · rw [if_neg (by omega),hv0 h21]; rw [hv0 h21] at i3 i4; simp [i3,i4,i2']
     simp [this]
   · simp only [T.wf]
     exact ⟨i64_wf (by omega) (by omega),i64_wf i3 (by omega),u64_wf hvr.1 hvr.2,by simp,by omega,by simp,hwf⟩
theorem numsR_val (op:Int) (l:List S) : (op ≠ 21 → (numsR op l).1 = 0) ∧ 0 ≤ (numsR op l).1 ∧ (numsR op l).1 < 18446744073709551616 := by
 have hb := numR_bd (l.getD 1 S.z).atom 18446744073709551615 (by omega)
 unfold numsR
 by_cases h : op = 21
 · rw [if_pos h]
   refine ⟨fun e => absurd h e,?_⟩
   split
   · simp
   · split
     · simp
     · simp only; omega
 · rw [if_neg h]
   split
   · split <;> simp
   · simp
mutual
theorem readS_valid : ∀ (e:S) (t:T),readS e = .ok t → t.valid = true ∧ t.wf
 | .mk a o l,t,h => by
   rw [readS] at h
   split at h
   · exact leafR_valid h
   · split at h
     · cases h
     · rename_i hh
       split at h
       · cases h
       · cases hs : readsS l (1 + numsN (ofE (l.getD 0 S.z).atom).1) with
         | err e => rw [hs] at h; simp [nodeR] at h
         | ok ts =>
           rw [hs] at h
           have hv := readsS_valid l _ ts hs
           have hn := numsR_val (ofE (l.getD 0 S.z).atom).1 l
           have hR : headR l = true := by cases hx : headR l <;> simp_all
           simp only [headR,Bool.and_eq_true,Bool.not_eq_true',decide_eq_false_iff_not] at hR
           have ha := hR.2.2.1
           exact nodeR_valid (fun e => ha (by rw [e]; rfl)) (fun e => ha (by rw [e]; rfl)) (fun e => ha (by rw [e]; rfl)) (fun e => ha (by rw [e]; rfl)) hn.1 hn.2 hv.1 hv.2 h
theorem readsS_valid : ∀ (l:List S) (k:Nat) (ts:List T),readsS l k = .ok ts → T.valids ts = true ∧ T.wfs ts
 | [],k,ts,h => by simp [readsS] at h; subst h; exact ⟨rfl,trivial⟩
 | x :: r,k + 1,ts,h => by rw [readsS] at h; exact readsS_valid r k ts h
 | x :: r,0,ts,h => by
   rw [readsS] at h
   cases hx : readS x with
   | err e => rw [hx] at h; simp [TRs.cons] at h
   | ok t =>
     cases hr : readsS r 0 with
     | err e => rw [hx,hr] at h; simp [TRs.cons] at h
     | ok us =>
       rw [hx,hr] at h; simp [TRs.cons] at h; subst h
       have a := readS_valid x t hx
       have b := readsS_valid r 0 us hr
       exact ⟨by simp [T.valids,a.1,b.1],a.2,b.2⟩
end
end Go.Proofs.YtkofimhnehkdoaaGreatDoor.Rf
end
section
namespace Go.Proofs.YtkofimhnehkdoaaGreatDoor.Rf
section
variable {hp:List HObj} {lo:Nat} (q:Bool)
end
end Go.Proofs.YtkofimhnehkdoaaGreatDoor.Rf
end
section
namespace Go.Proofs.YtkofimhnehkdoaaGreatDoor.Rf
inductive SbR where
 | ok (l:List Sb) | err (e:Int)
inductive StR where
 | ok (s:St7) | err (e:Int)
def ownSb (acc:List Sb) : Own := if acc.isEmpty then .nil else .own 6 0
@[simp] theorem ownSb_cp (acc:List Sb) : (ownSb acc).cp = ownB acc.isEmpty := by cases acc <;> rfl
@[simp] theorem ownSb_app (acc:List Sb) (x:Sb) : ownSb (acc ++ [x]) = .own 6 0 := by cases acc <;> rfl
@[simp] theorem sbs_nil : sbs [] = [] := rfl
@[simp] theorem okSize_sbs (l:List Sb) : okSize 6 (sbs l) = true := by cases l <;> simp [sbs,Sb.av_eq]
section
variable {hp:List HObj} {lo:Nat}
end
end Go.Proofs.YtkofimhnehkdoaaGreatDoor.Rf
end
section
namespace Go.Proofs.YtkofimhnehkdoaaGreatDoor.Rf
mutual
theorem T.av_closed (n:Nat) : ∀ t : T,AV.closed n t.av = true
 | .mk a b c d o l => by simp [T.av,AV.closed,AV.closedL,T.avs_closed n l]
theorem T.avs_closed (n:Nat) : ∀ l : List T,AV.closedL n (T.avs l) = true
 | [] => rfl
 | t :: r => by simp [T.avs,AV.closedL,T.av_closed n t,T.avs_closed n r]
end
end Go.Proofs.YtkofimhnehkdoaaGreatDoor.Rf
end
section
namespace Go.Proofs.YtkofimhnehkdoaaGreatDoor.Rf
def St7.z : St7 := ⟨0,true,[],0,true,[],T.z,T.z⟩
def StR.tup (hp:List HObj) : StR → COut
 | .ok s => .ret (.tup [s.av,.int .i64 0]) hp
 | .err c => .ret (.tup [St7.z.av,.int .i64 c]) hp
theorem st_av (s:St7) : s.av = .agg s.cells := rfl
section
variable {hp:List HObj} {lo:Nat}
end
end Go.Proofs.YtkofimhnehkdoaaGreatDoor.Rf
end
section
namespace Go.Proofs.YtkofimhnehkdoaaGreatDoor.Rf
theorem all_range {α:Type} (l:List α) (d:α) (p:α → Bool) : ((List.range l.length).any fun i => !p (l.getD i d)) = !(l.all p) := by
 induction l with
 | nil => rfl
 | cons x r ih => rw [List.length_cons,List.range_succ_eq_map]; simp only [List.any_cons,List.any_map,Function.comp_def,List.all_cons]; simp only [List.getD_cons_zero,List.getD_cons_succ]; rw [ih]; cases p x <;> simp
section
variable {hp:List HObj} {lo:Nat}
end
end Go.Proofs.YtkofimhnehkdoaaGreatDoor.Rf
end
section
namespace Go.Proofs.YtkofimhnehkdoaaGreatDoor.Rf
section
variable {hp:List HObj} {lo:Nat}
end
end Go.Proofs.YtkofimhnehkdoaaGreatDoor.Rf
end
section
namespace Go.Proofs.YtkofimhnehkdoaaGreatDoor.Rf
section
variable {hp:List HObj} {lo:Nat}
end
end Go.Proofs.YtkofimhnehkdoaaGreatDoor.Rf
end
section
namespace Go.Proofs.YtkofimhnehkdoaaGreatDoor.Rf
inductive PrR where
 | ok (l:List St7) | err (i:Int) (e:Int)
def ownSt (acc:List St7) : Own := if acc.isEmpty then .nil else .own 14 0
@[simp] theorem ownSt_cp (acc:List St7) : (ownSt acc).cp = ownB acc.isEmpty := by cases acc <;> rfl
@[simp] theorem ownSt_app (acc:List St7) (x:St7) : ownSt (acc ++ [x]) = .own 14 0 := by cases acc <;> rfl
@[simp] theorem avs7_nil : St7.avs [] = [] := rfl
@[simp] theorem okSize_avs7 (l:List St7) : okSize 14 (St7.avs l) = true := by cases l <;> simp [St7.avs,st_av]
section
variable {hp:List HObj} {lo:Nat}
end
end Go.Proofs.YtkofimhnehkdoaaGreatDoor.Rf
end
section
namespace Go.Proofs.YtkofimhnehkdoaaGreatDoor.Rf
def digN : Nat → Nat → List UInt8
 | 0,_ => []
 | n + 1,u => digN n (u / 10) ++ [dig (u % 10)]
theorem digN_len : ∀ n u,(digN n u).length = n
 | 0,u => rfl
 | n + 1,u => by simp [digN,digN_len n]
theorem digN_dec : ∀ (n u:Nat),u < 10 ^ (n + 1) → (n = 0 ∨ 10 ^ n ≤ u) → digN (n + 1) u = dec u
 | 0,u,h,_ => by
   rw [dec_small (by omega)]; simp [digN]; congr 1; omega
 | n + 1,u,h,h2 => by
   have h3 : 10 ^ (n + 1) ≤ u := by omega
   have h10 : 10 ≤ u := by
     have : 10 ^ 1 ≤ 10 ^ (n + 1) := Nat.pow_le_pow_right (by omega) (by omega)
     omega
   have e : 10 ^ (n + 2) = 10 * 10 ^ (n + 1) := by rw [Nat.pow_succ]; omega
   have e1 : 10 ^ (n + 1) = 10 * 10 ^ n := by rw [Nat.pow_succ]; omega
   rw [dec_big h10,digN,digN_dec n (u / 10) (by rw [e] at h; omega) (by right; rw [e1] at h3; omega)]
theorem digN_app : ∀ (a b u:Nat),digN (a + b) u = digN a (u / 10 ^ b) ++ digN b u
 | a,0,u => by simp [digN]
 | a,b + 1,u => by
   rw [← Nat.add_assoc,digN,digN_app a b (u / 10),digN,Nat.div_div_eq_div_mul,List.append_assoc,Nat.pow_succ,Nat.mul_comm 10]
theorem digN_mod : ∀ (b u:Nat),digN b (u % 10 ^ b) = digN b u
 | 0,u => rfl
 | b + 1,u => by
   have e : 10 ^ (b + 1) = 10 * 10 ^ b := by rw [Nat.pow_succ]; omega
   rw [digN,digN,e,Nat.mod_mul_right_div_self,digN_mod b (u / 10),Nat.mod_mul_right_mod]
section
variable {hp:List HObj} {lo:Nat} (q:Bool)
theorem smalls2_at (d:Nat) (h:d < 100) : smalls2[2 * d]? = some (dig (d / 10)) ∧ smalls2[2 * d + 1]? = some (dig (d % 10)) := by
 have : ∀ d : Fin 100,smalls2[2 * d.val]? = some (dig (d.val / 10)) ∧ smalls2[2 * d.val + 1]? = some (dig (d.val % 10)) := by decide +kernel
 exact this ⟨d,h⟩
theorem smalls2_len : smalls2.length = 200 := by decide +kernel
def d36 : List UInt8 := [48,49,50,51,52,53,54,55,56,57,97,98,99,100,101,102,103,104,105,106,107,108,109,110,111,112,113,114,115,116,117,118,119,120,121,122]
theorem d36_at (d:Nat) (h:d < 10) : (d36.take (d + 1)).drop d = [dig d] := by
 have : ∀ d : Fin 10,(d36.take (d.val + 1)).drop d.val = [dig d.val] := by decide +kernel
 exact this ⟨d,h⟩
theorem smalls2_cut (d:Nat) (h:d < 100) : (smalls2.take (2 * d + 2)).drop (2 * d) = [dig (d / 10),dig (d % 10)] := by
 have : ∀ d : Fin 100,(smalls2.take (2 * d.val + 2)).drop (2 * d.val) = [dig (d.val / 10),dig (d.val % 10)] := by decide +kernel
 exact this ⟨d,h⟩
theorem small_D (n:Nat) (h:n < 100) : callD G0 IP n_isc_small [.int .i64 n] hp lo q = some (.ret (.str (dec n)) hp) := by
 rw [callD_eq]
 by_cases h1 : n < 10
 · have h1' : (n:Int) < 10 := by omega
   have hw : IntKind.wrap .i64 ((n:Int) + 1) = (n:Int) + 1 := wrap_small (by omega) (by omega)
   have e1 : (0:Int) ≤ (n:Int) + 1 := by omega
   have e2 : n + 1 ≤ 36 := by omega
   have e3 := d36_at n h1
   simp only [d36] at e3
   rw [dec_small h1]
   simp at e3
   simp [IP_isc_small,i_isc_small,h1',hw,e1,e2,e3]
 · have h1' : ¬ (n:Int) < 10 := by omega
   have hw : IntKind.wrap .i64 ((n:Int) * 2) = (n:Int) * 2 := wrap_small (by omega) (by omega)
   have hw2 : IntKind.wrap .i64 ((n:Int) * 2 + 2) = (n:Int) * 2 + 2 := wrap_small (by omega) (by omega)
   have e1 : (0:Int) ≤ (n:Int) * 2 := by omega
   have e2 : (0:Int) ≤ (n:Int) * 2 + 2 := by omega
   have e3 : ((n:Int) * 2).toNat = 2 * n := by omega
   have e4 : ((n:Int) * 2 + 2).toNat = 2 * n + 2 := by omega
   have e5 : 2 * n + 2 ≤ 200 := by omega
   rw [dec_big (by omega),dec_small (by omega)]
   simp [IP_isc_small,i_isc_small,h1',hw,hw2,e1,e2,e3,e4,e5,smalls2_len,smalls2_cut n h]
theorem len8t_len : len8t.length = 256 := by decide +kernel
theorem len8t_at (x:Nat) (h:x < 256) (h0:0 < x) : ∃ t : UInt8,len8t[x]? = some t ∧ 1 ≤ t.toNat ∧ t.toNat ≤ 8 ∧ 2 ^ (t.toNat - 1) ≤ x ∧ x < 2 ^ t.toNat := by
 have : ∀ x : Fin 256,0 < x.val → 1 ≤ (len8t.getD x.val 0).toNat ∧ (len8t.getD x.val 0).toNat ≤ 8 ∧ 2 ^ ((len8t.getD x.val 0).toNat - 1) ≤ x.val ∧ x.val < 2 ^ (len8t.getD x.val 0).toNat := by decide +kernel
 have := this ⟨x,h⟩ h0
 simp only at this
 have hl : x < len8t.length := by rw [len8t_len]; exact h
 refine ⟨len8t.getD x 0,?_,this⟩
 simp [List.getD,hl]
def bitsOf (u L:Nat) : Prop := 1 ≤ L ∧ 2 ^ (L - 1) ≤ u ∧ u < 2 ^ L
theorem bitsOf_shift {u L k:Nat} (h:bitsOf (u / 2 ^ k) L) : bitsOf u (L + k) := by
 obtain ⟨h1,h2,h3⟩ := h
 have hp : 0 < 2 ^ k := Nat.two_pow_pos k
 refine ⟨by omega,?_,?_⟩
 · rw [show L + k - 1 = (L - 1) + k by omega,Nat.pow_add]
   exact (Nat.le_div_iff_mul_le hp).1 h2
 · rw [Nat.pow_add]
   exact (Nat.div_lt_iff_lt_mul hp).1 h3
theorem len8_D (x:Nat) (h:x < 256) (h0:0 < x) : ∃ L : Nat,L ≤ 8 ∧ bitsOf x L ∧ ∃ t : UInt8,len8t[x]? = some t ∧ t.toNat = L := by
 obtain ⟨t,t1,t2,t3,t4,t5⟩ := len8t_at x h h0
 exact ⟨t.toNat,t3,⟨t2,t4,t5⟩,t,t1,rfl⟩
theorem len64_D (u:Nat) (h0:0 < u) (h:u < 18446744073709551616) : ∃ L : Nat,L ≤ 64 ∧ bitsOf u L ∧ ∀ (hp:List HObj) (lo:Nat) (q:Bool),callD G0 IP n_math_bits_Len64 [.int .u64 u] hp lo q = some (.ret (.int .i64 L) hp) := by
 have f1 : ∀ x : Int,x.fdiv (2 ^ min 32 IntKind.u64.bits) = x / 4294967296 := fun x => by rw [show (2:Int) ^ min 32 IntKind.u64.bits = 4294967296 by decide,Int.fdiv_eq_ediv_of_nonneg _ (by decide)]
 have f2 : ∀ x : Int,x.fdiv (2 ^ min 16 IntKind.u64.bits) = x / 65536 := fun x => by rw [show (2:Int) ^ min 16 IntKind.u64.bits = 65536 by decide,Int.fdiv_eq_ediv_of_nonneg _ (by decide)]
 have f3 : ∀ x : Int,x.fdiv (2 ^ min 8 IntKind.u64.bits) = x / 256 := fun x => by rw [show (2:Int) ^ min 8 IntKind.u64.bits = 256 by decide,Int.fdiv_eq_ediv_of_nonneg _ (by decide)]
 by_cases a : 4294967296 ≤ u
 · have a' : (4294967296:Int) ≤ (u:Int) := by omega
   by_cases b : 65536 ≤ u / 4294967296
   · have b' : (65536:Int) ≤ (u:Int) / 4294967296 := by omega
     by_cases c : 256 ≤ u / 4294967296 / 65536
     · have c' : (256:Int) ≤ (u:Int) / 4294967296 / 65536 := by omega
       obtain ⟨L,l1,l2,t,t1,t2⟩ := len8_D (u / 4294967296 / 65536 / 256) (by omega) (by omega)
       have hw1 : IntKind.wrap .u8 ((u:Int) / 4294967296 / 65536 / 256) = ((u:Int) / 4294967296 / 65536 / 256) := by simp [IntKind.wrap,IntKind.signed,IntKind.bits]; omega
       have hI : ((u:Int) / 4294967296 / 65536 / 256).toNat = u / 4294967296 / 65536 / 256 := by omega
       have hJ : 0 ≤ ((u:Int) / 4294967296 / 65536 / 256) := by omega
       have hw2 : IntKind.wrap .i64 (t.toNat : Int) = (t.toNat : Int) := wrap_small (by omega) (by omega)
       have hw3 : IntKind.wrap .i64 (56 + (t.toNat : Int)) = 56 + (t.toNat : Int) := wrap_small (by omega) (by omega)
       have hk : (u / 4294967296 / 65536 / 256) < 256 := by omega
       obtain ⟨hl1,hl2⟩ := List.getElem?_eq_some_iff.1 t1
       refine ⟨L + 8 + 16 + 32,by omega,bitsOf_shift (k := 32) (bitsOf_shift (k := 16) (bitsOf_shift (k := 8) (l2))),fun hp lo q => ?_⟩
       rw [callD_eq]
       simp [IP_math_bits_Len64,i_math_bits_Len64,f1,f2,f3,a',b',c',hw1,hw2,hw3,hI,hJ,hk,len8t_len,hl2,t1,hl1,hl2,show IntKind.wrap .i64 (32 + 16) = 48 from rfl,show IntKind.wrap .i64 48 = 48 from rfl,show IntKind.wrap .i64 16 = 16 from rfl,show IntKind.wrap .i64 8 = 8 from rfl,show IntKind.wrap .i64 24 = 24 from rfl,show IntKind.wrap .i64 40 = 40 from rfl,show IntKind.wrap .i64 56 = 56 from rfl]
       try omega
     · have c' : ¬ (256:Int) ≤ (u:Int) / 4294967296 / 65536 := by omega
       obtain ⟨L,l1,l2,t,t1,t2⟩ := len8_D (u / 4294967296 / 65536) (by omega) (by omega)
       have hw1 : IntKind.wrap .u8 ((u:Int) / 4294967296 / 65536) = ((u:Int) / 4294967296 / 65536) := by simp [IntKind.wrap,IntKind.signed,IntKind.bits]; omega
       have hI : ((u:Int) / 4294967296 / 65536).toNat = u / 4294967296 / 65536 := by omega
       have hJ : 0 ≤ ((u:Int) / 4294967296 / 65536) := by omega
       have hw2 : IntKind.wrap .i64 (t.toNat : Int) = (t.toNat : Int) := wrap_small (by omega) (by omega)
       have hw3 : IntKind.wrap .i64 (48 + (t.toNat : Int)) = 48 + (t.toNat : Int) := wrap_small (by omega) (by omega)
       have hk : (u / 4294967296 / 65536) < 256 := by omega
       obtain ⟨hl1,hl2⟩ := List.getElem?_eq_some_iff.1 t1
       refine ⟨L + 16 + 32,by omega,bitsOf_shift (k := 32) (bitsOf_shift (k := 16) (l2)),fun hp lo q => ?_⟩
       rw [callD_eq]
       simp [IP_math_bits_Len64,i_math_bits_Len64,f1,f2,f3,a',b',c',hw1,hw2,hw3,hI,hJ,hk,len8t_len,hl2,t1,hl1,hl2,show IntKind.wrap .i64 (32 + 16) = 48 from rfl,show IntKind.wrap .i64 48 = 48 from rfl,show IntKind.wrap .i64 16 = 16 from rfl,show IntKind.wrap .i64 8 = 8 from rfl,show IntKind.wrap .i64 24 = 24 from rfl,show IntKind.wrap .i64 40 = 40 from rfl,show IntKind.wrap .i64 56 = 56 from rfl]
       try omega
   · have b' : ¬ (65536:Int) ≤ (u:Int) / 4294967296 := by omega
     by_cases c : 256 ≤ u / 4294967296
     · have c' : (256:Int) ≤ (u:Int) / 4294967296 := by omega
       obtain ⟨L,l1,l2,t,t1,t2⟩ := len8_D (u / 4294967296 / 256) (by omega) (by omega)
       have hw1 : IntKind.wrap .u8 ((u:Int) / 4294967296 / 256) = ((u:Int) / 4294967296 / 256) := by simp [IntKind.wrap,IntKind.signed,IntKind.bits]; omega
       have hI : ((u:Int) / 4294967296 / 256).toNat = u / 4294967296 / 256 := by omega
       have hJ : 0 ≤ ((u:Int) / 4294967296 / 256) := by omega
       have hw2 : IntKind.wrap .i64 (t.toNat : Int) = (t.toNat : Int) := wrap_small (by omega) (by omega)
       have hw3 : IntKind.wrap .i64 (40 + (t.toNat : Int)) = 40 + (t.toNat : Int) := wrap_small (by omega) (by omega)
       have hk : (u / 4294967296 / 256) < 256 := by omega
       obtain ⟨hl1,hl2⟩ := List.getElem?_eq_some_iff.1 t1
       refine ⟨L + 8 + 32,by omega,bitsOf_shift (k := 32) (bitsOf_shift (k := 8) (l2)),fun hp lo q => ?_⟩
       rw [callD_eq]
       simp [IP_math_bits_Len64,i_math_bits_Len64,f1,f2,f3,a',b',c',hw1,hw2,hw3,hI,hJ,hk,len8t_len,hl2,t1,hl1,hl2,show IntKind.wrap .i64 48 = 48 from rfl,show IntKind.wrap .i64 16 = 16 from rfl,show IntKind.wrap .i64 8 = 8 from rfl,show IntKind.wrap .i64 24 = 24 from rfl,show IntKind.wrap .i64 40 = 40 from rfl,show IntKind.wrap .i64 56 = 56 from rfl]
       try omega
     · have c' : ¬ (256:Int) ≤ (u:Int) / 4294967296 := by omega
       obtain ⟨L,l1,l2,t,t1,t2⟩ := len8_D (u / 4294967296) (by omega) (by omega)
       have hw1 : IntKind.wrap .u8 ((u:Int) / 4294967296) = ((u:Int) / 4294967296) := by simp [IntKind.wrap,IntKind.signed,IntKind.bits]; omega
       have hI : ((u:Int) / 4294967296).toNat = u / 4294967296 := by omega
       have hJ : 0 ≤ ((u:Int) / 4294967296) := by omega
       have hw2 : IntKind.wrap .i64 (t.toNat : Int) = (t.toNat : Int) := wrap_small (by omega) (by omega)
       have hw3 : IntKind.wrap .i64 (32 + (t.toNat : Int)) = 32 + (t.toNat : Int) := wrap_small (by omega) (by omega)
       have hk : (u / 4294967296) < 256 := by omega
       obtain ⟨hl1,hl2⟩ := List.getElem?_eq_some_iff.1 t1
       refine ⟨L + 32,by omega,bitsOf_shift (k := 32) (l2),fun hp lo q => ?_⟩
       rw [callD_eq]
       simp [IP_math_bits_Len64,i_math_bits_Len64,f1,f2,f3,a',b',c',hw1,hw2,hw3,hI,hJ,hk,len8t_len,hl2,t1,hl1,hl2,show IntKind.wrap .i64 48 = 48 from rfl,show IntKind.wrap .i64 16 = 16 from rfl,show IntKind.wrap .i64 8 = 8 from rfl,show IntKind.wrap .i64 24 = 24 from rfl,show IntKind.wrap .i64 40 = 40 from rfl,show IntKind.wrap .i64 56 = 56 from rfl]
       try omega
 · have a' : ¬ (4294967296:Int) ≤ (u:Int) := by omega
   by_cases b : 65536 ≤ u
   · have b' : (65536:Int) ≤ (u:Int) := by omega
     by_cases c : 256 ≤ u / 65536
     · have c' : (256:Int) ≤ (u:Int) / 65536 := by omega
       obtain ⟨L,l1,l2,t,t1,t2⟩ := len8_D (u / 65536 / 256) (by omega) (by omega)
       have hw1 : IntKind.wrap .u8 ((u:Int) / 65536 / 256) = ((u:Int) / 65536 / 256) := by simp [IntKind.wrap,IntKind.signed,IntKind.bits]; omega
       have hI : ((u:Int) / 65536 / 256).toNat = u / 65536 / 256 := by omega
       have hJ : 0 ≤ ((u:Int) / 65536 / 256) := by omega
       have hw2 : IntKind.wrap .i64 (t.toNat : Int) = (t.toNat : Int) := wrap_small (by omega) (by omega)
       have hw3 : IntKind.wrap .i64 (24 + (t.toNat : Int)) = 24 + (t.toNat : Int) := wrap_small (by omega) (by omega)
       have hk : (u / 65536 / 256) < 256 := by omega
       obtain ⟨hl1,hl2⟩ := List.getElem?_eq_some_iff.1 t1
       refine ⟨L + 8 + 16,by omega,bitsOf_shift (k := 16) (bitsOf_shift (k := 8) (l2)),fun hp lo q => ?_⟩
       rw [callD_eq]
       simp [IP_math_bits_Len64,i_math_bits_Len64,f1,f2,f3,a',b',c',hw1,hw2,hw3,hI,hJ,hk,len8t_len,hl2,t1,hl1,hl2,show IntKind.wrap .i64 (0 + 16) = 16 from rfl,show IntKind.wrap .i64 48 = 48 from rfl,show IntKind.wrap .i64 16 = 16 from rfl,show IntKind.wrap .i64 8 = 8 from rfl,show IntKind.wrap .i64 24 = 24 from rfl,show IntKind.wrap .i64 40 = 40 from rfl,show IntKind.wrap .i64 56 = 56 from rfl]
       try omega
     · have c' : ¬ (256:Int) ≤ (u:Int) / 65536 := by omega
       obtain ⟨L,l1,l2,t,t1,t2⟩ := len8_D (u / 65536) (by omega) (by omega)
       have hw1 : IntKind.wrap .u8 ((u:Int) / 65536) = ((u:Int) / 65536) := by simp [IntKind.wrap,IntKind.signed,IntKind.bits]; omega
       have hI : ((u:Int) / 65536).toNat = u / 65536 := by omega
       have hJ : 0 ≤ ((u:Int) / 65536) := by omega
       have hw2 : IntKind.wrap .i64 (t.toNat : Int) = (t.toNat : Int) := wrap_small (by omega) (by omega)
       have hw3 : IntKind.wrap .i64 (16 + (t.toNat : Int)) = 16 + (t.toNat : Int) := wrap_small (by omega) (by omega)
       have hk : (u / 65536) < 256 := by omega
       obtain ⟨hl1,hl2⟩ := List.getElem?_eq_some_iff.1 t1
       refine ⟨L + 16,by omega,bitsOf_shift (k := 16) (l2),fun hp lo q => ?_⟩
       rw [callD_eq]
       simp [IP_math_bits_Len64,i_math_bits_Len64,f1,f2,f3,a',b',c',hw1,hw2,hw3,hI,hJ,hk,len8t_len,hl2,t1,hl1,hl2,show IntKind.wrap .i64 (0 + 16) = 16 from rfl,show IntKind.wrap .i64 48 = 48 from rfl,show IntKind.wrap .i64 16 = 16 from rfl,show IntKind.wrap .i64 8 = 8 from rfl,show IntKind.wrap .i64 24 = 24 from rfl,show IntKind.wrap .i64 40 = 40 from rfl,show IntKind.wrap .i64 56 = 56 from rfl]
       try omega
   · have b' : ¬ (65536:Int) ≤ (u:Int) := by omega
     by_cases c : 256 ≤ u
     · have c' : (256:Int) ≤ (u:Int) := by omega
       obtain ⟨L,l1,l2,t,t1,t2⟩ := len8_D (u / 256) (by omega) (by omega)
       have hw1 : IntKind.wrap .u8 ((u:Int) / 256) = ((u:Int) / 256) := by simp [IntKind.wrap,IntKind.signed,IntKind.bits]; omega
       have hI : ((u:Int) / 256).toNat = u / 256 := by omega
       have hJ : 0 ≤ ((u:Int) / 256) := by omega
       have hw2 : IntKind.wrap .i64 (t.toNat : Int) = (t.toNat : Int) := wrap_small (by omega) (by omega)
       have hw3 : IntKind.wrap .i64 (8 + (t.toNat : Int)) = 8 + (t.toNat : Int) := wrap_small (by omega) (by omega)
       have hk : (u / 256) < 256 := by omega
       obtain ⟨hl1,hl2⟩ := List.getElem?_eq_some_iff.1 t1
       refine ⟨L + 8,by omega,bitsOf_shift (k := 8) (l2),fun hp lo q => ?_⟩
       rw [callD_eq]
       simp [IP_math_bits_Len64,i_math_bits_Len64,f1,f2,f3,a',b',c',hw1,hw2,hw3,hI,hJ,hk,len8t_len,hl2,t1,hl1,hl2,show IntKind.wrap .i64 48 = 48 from rfl,show IntKind.wrap .i64 16 = 16 from rfl,show IntKind.wrap .i64 8 = 8 from rfl,show IntKind.wrap .i64 24 = 24 from rfl,show IntKind.wrap .i64 40 = 40 from rfl,show IntKind.wrap .i64 56 = 56 from rfl]
       try omega
     · have c' : ¬ (256:Int) ≤ (u:Int) := by omega
       obtain ⟨L,l1,l2,t,t1,t2⟩ := len8_D (u) (by omega) (by omega)
       have hw1 : IntKind.wrap .u8 ((u:Int)) = ((u:Int)) := by simp [IntKind.wrap,IntKind.signed,IntKind.bits]; omega
       have hI : ((u:Int)).toNat = u := by omega
       have hJ : 0 ≤ ((u:Int)) := by omega
       have hw2 : IntKind.wrap .i64 (t.toNat : Int) = (t.toNat : Int) := wrap_small (by omega) (by omega)
       have hw3 : IntKind.wrap .i64 (0 + (t.toNat : Int)) = 0 + (t.toNat : Int) := wrap_small (by omega) (by omega)
       have hk : (u) < 256 := by omega
       obtain ⟨hl1,hl2⟩ := List.getElem?_eq_some_iff.1 t1
       refine ⟨L,by omega,l2,fun hp lo q => ?_⟩
       rw [callD_eq]
       simp [IP_math_bits_Len64,i_math_bits_Len64,f1,f2,f3,a',b',c',hw1,hw2,hw3,hI,hJ,hk,len8t_len,hl2,t1,hl1,hl2,show IntKind.wrap .i64 48 = 48 from rfl,show IntKind.wrap .i64 16 = 16 from rfl,show IntKind.wrap .i64 8 = 8 from rfl,show IntKind.wrap .i64 24 = 24 from rfl,show IntKind.wrap .i64 40 = 40 from rfl,show IntKind.wrap .i64 56 = 56 from rfl]
       try omega
end
end Go.Proofs.YtkofimhnehkdoaaGreatDoor.Rf
end
section
namespace Go.Proofs.YtkofimhnehkdoaaGreatDoor.Rf
theorem g_2_eq : g_2 = (List.range 20).map fun k => AV.int .u64 ((10 ^ k : Nat) : Int) := by rfl
theorem g_2_len : g_2.length = 20 := rfl
theorem g_2_at {t:Nat} (h:t < 20) : (g_2.drop t).take 1 = [AV.int .u64 ((10 ^ t : Nat) : Int)] := by
 rw [g_2_eq,List.drop_eq_getElem_cons (by simpa using h)]
 simp
theorem logF (L:Nat) (h1:1 ≤ L) (h:L ≤ 64) : L * 78913 / 262144 ≤ 19 ∧ 2 ^ L ≤ 10 ^ (L * 78913 / 262144 + 1) ∧ (L * 78913 / 262144 = 0 ∨ 10 ^ (L * 78913 / 262144 - 1) ≤ 2 ^ (L - 1)) := by
 have : ∀ L : Fin 65,1 ≤ L.val → L.val * 78913 / 262144 ≤ 19 ∧ 2 ^ L.val ≤ 10 ^ (L.val * 78913 / 262144 + 1) ∧ (L.val * 78913 / 262144 = 0 ∨ 10 ^ (L.val * 78913 / 262144 - 1) ≤ 2 ^ (L.val - 1)) := by decide +kernel
 exact this ⟨L,by omega⟩ h1
section
variable {hp:List HObj} {lo:Nat} (q:Bool)
theorem log10_D (L:Nat) (h:L ≤ 64) (hp:List HObj) (lo:Nat) (q:Bool) : callD G0 IP n_isc_log10Pow2 [.int .i64 L] hp lo q = some (.ret (.int .i64 ((L * 78913 / 262144 : Nat) : Int)) hp) := by
 rw [callD_eq]
 have hw : IntKind.wrap .i64 ((L:Int) * 78913) = (L:Int) * 78913 := wrap_small (by omega) (by omega)
 have f1 : ∀ x : Int,x.fdiv (2 ^ min 18 IntKind.i64.bits) = x / 262144 := fun x => by rw [show (2:Int) ^ min 18 IntKind.i64.bits = 262144 by decide,Int.fdiv_eq_ediv_of_nonneg _ (by decide)]
 simp [IP_isc_log10Pow2,i_isc_log10Pow2,hw,f1]
theorem b2i_D (b:Bool) (hp:List HObj) (lo:Nat) (q:Bool) : callD G0 IP n_isc_bool2_int [.bool b] hp lo q = some (.ret (.int .i64 (if b then 1 else 0)) hp) := by
 rw [callD_eq]
 cases b <;> simp [IP_isc_bool2_int,i_isc_bool2_int]
theorem numDigits_D (u:Nat) (h0:0 < u) (h:u < 18446744073709551616) : ∃ n : Nat,n ≤ 19 ∧ 10 ^ n ≤ u ∧ u < 10 ^ (n + 1) ∧ ∀ (hp:List HObj) (lo:Nat) (q:Bool),callD G0 IP n_isc_numDigits [.int .u64 u] hp lo q = some (.ret (.int .i64 ((n:Int) + 1)) hp) := by
 obtain ⟨L,l1,⟨l2,l3,l4⟩,l5⟩ := len64_D u h0 h
 obtain ⟨t1,t2,t3⟩ := logF L l2 l1
 have e1 := log10_D L l1
 generalize ht : L * 78913 / 262144 = t at *
 have hg := g_2_at (t := t) (by omega)
 have hlt : (t:Int) < 20 := by omega
 have hlt2 : t + 1 ≤ 20 := by omega
 by_cases hc : 10 ^ t ≤ u
 · refine ⟨t,t1,hc,by omega,fun hp lo q => ?_⟩
   rw [callD_eq]
   have hc' : ((10 ^ t : Nat) : Int) ≤ (u:Int) := by omega
   have hw : IntKind.wrap .i64 ((t:Int) + 1) = (t:Int) + 1 := wrap_small (by omega) (by omega)
   generalize ((10 ^ t : Nat) : Int) = p at *
   simp [IP_isc_numDigits,i_isc_numDigits,l5,e1,G0_2,hlt,hlt2,hg,g_2_len,hc',b2i_D,hw]
 · have htp : t ≠ 0 := fun e => by rw [e] at hc; simp at hc; omega
   obtain ⟨m,rfl⟩ : ∃ m,t = m + 1 := ⟨t - 1,by omega⟩
   have t4 : 10 ^ m ≤ 2 ^ (L - 1) := by
     rcases t3 with e | e
     · omega
     · simpa using e
   refine ⟨m,by omega,by omega,by omega,fun hp lo q => ?_⟩
   rw [callD_eq]
   have hc' : ¬ ((10 ^ (m + 1) : Nat) : Int) ≤ (u:Int) := by omega
   have hw : IntKind.wrap .i64 ((m:Int) + 1) = (m:Int) + 1 := wrap_small (by omega) (by omega)
   generalize ((10 ^ (m + 1) : Nat) : Int) = p at *
   have hlt3 : (m:Int) + 1 < 20 := by omega
   have hI : ((m:Int) + 1).toNat = m + 1 := by omega
   have hJ : (0:Int) ≤ (m:Int) + 1 := by omega
   simp [IP_isc_numDigits,i_isc_numDigits,l5,e1,G0_2,hlt3,hlt2,hI,hJ,hg,g_2_len,hc',b2i_D,hw]
end
end Go.Proofs.YtkofimhnehkdoaaGreatDoor.Rf
end
section
namespace Go.Proofs.YtkofimhnehkdoaaGreatDoor.Rf
theorem put_set {cs:List AV} {k:Nat} {v:AV} (h:k < cs.length) : put cs k [v] = cs.set k v := by
 unfold put
 rw [List.set_eq_take_append_cons_drop,if_pos h]; simp
theorem toNat_add (j m:Nat) : ((j:Int) + (m:Int)).toNat = j + m := by omega
def dg (n:Nat) : AV := .int .u8 ((dig n).toNat : Int)
def set8 (cs:List AV) (k:Nat) (b1 b0 a1 a0:Nat) : List AV :=
 (((((((cs.set (k + 7) (dg (b0 % 10))).set (k + 6) (dg (b0 / 10))).set (k + 5) (dg (b1 % 10))).set (k + 4) (dg (b1 / 10))).set (k + 3) (dg (a0 % 10))).set (k + 2) (dg (a0 / 10))).set (k + 1) (dg (a1 % 10))).set k (dg (a1 / 10))
section
variable {hp:List HObj} {lo:Nat}
abbrev HB (hp:List HObj) (cs:List AV) : List HObj := hp ++ [.cells 0 cs]
abbrev frB (hp:List HObj) (off n:Nat) (u i:Int) : Fr := [(0,.sref hp.length off n 1),(1,.int .u64 u),(4,.int .i64 i)]
set_option maxHeartbeats 4000000 in
theorem fb_step (hlo:lo ≤ hp.length) (off n j u:Nat) (cs:List AV) (hn:off + n ≤ cs.length) (hj:j + 8 ≤ n) (hn2:n ≤ 100) (hu:u < 18446744073709551616) :
   ∃ b1 b0 a1 a0 : Nat,b1 < 100 ∧ b0 < 100 ∧ a1 < 100 ∧ a0 < 100 ∧ u % 100000000 = ((a1 * 100 + a0) * 100 + b1) * 100 + b0 ∧
   evalC G0 (callD G0 IP) (loopD G0 IP lo) lo l_isc_formatBase10_0 ⟨frB hp off n u ((j:Int) + 8),HB hp cs⟩ =
     some (.normal,⟨frB hp off n (u / 100000000 : Nat) j,HB hp (set8 cs (off + j) b1 b0 a1 a0)⟩) := by
 have q1 : (u:Int).tmod 100000000 = ((u % 100000000 : Nat) : Int) := rfl
 have q2 : (u:Int).tdiv 100000000 = ((u / 100000000 : Nat) : Int) := rfl
 have hr0 : u % 100000000 < 100000000 := Nat.mod_lt _ (by omega)
 have hw0 : u / 100000000 < 18446744073709551616 := by omega
 generalize u % 100000000 = r at *
 generalize u / 100000000 = w at *
 have q3 : (r:Int).tdiv 10000 = ((r / 10000 : Nat) : Int) := rfl
 have q4 : (r:Int).tmod 10000 = ((r % 10000 : Nat) : Int) := rfl
 have hd := Nat.div_add_mod r 10000
 have ha0 : r / 10000 < 10000 := by omega
 have hb0 : r % 10000 < 10000 := Nat.mod_lt _ (by omega)
 generalize r / 10000 = a at *
 generalize r % 10000 = b at *
 have q5 : (b:Int).tdiv 100 = ((b / 100 : Nat) : Int) := rfl
 have q6 : (b:Int).tmod 100 = ((b % 100 : Nat) : Int) := rfl
 have q7 : (a:Int).tdiv 100 = ((a / 100 : Nat) : Int) := rfl
 have q8 : (a:Int).tmod 100 = ((a % 100 : Nat) : Int) := rfl
 have hdb := Nat.div_add_mod b 100
 have hda := Nat.div_add_mod a 100
 have hb1 : b / 100 < 100 := by omega
 have hb2 : b % 100 < 100 := Nat.mod_lt _ (by omega)
 have ha1 : a / 100 < 100 := by omega
 have ha2 : a % 100 < 100 := Nat.mod_lt _ (by omega)
 refine ⟨b / 100,b % 100,a / 100,a % 100,hb1,hb2,ha1,ha2,by omega,?_⟩
 generalize b / 100 = b1 at *
 generalize b % 100 = b0 at *
 generalize a / 100 = a1 at *
 generalize a % 100 = a0 at *
 have wr : IntKind.wrap .u32 (r:Int) = r := by simp [IntKind.wrap,IntKind.signed,IntKind.bits]; omega
 have ww : IntKind.wrap .u64 (w:Int) = w := by simp [IntKind.wrap,IntKind.signed,IntKind.bits]; omega
 have wa : IntKind.wrap .u32 (a:Int) = a := by simp [IntKind.wrap,IntKind.signed,IntKind.bits]; omega
 have w32 : ∀ x : Nat,x < 100 → IntKind.wrap .u32 (x:Int) = x := fun x h => by simp [IntKind.wrap,IntKind.signed,IntKind.bits]; omega
 have w32b : ∀ x : Nat,x < 100 → IntKind.wrap .u32 ((x:Int) * 2) = (x:Int) * 2 := fun x h => by simp [IntKind.wrap,IntKind.signed,IntKind.bits]; omega
 have w32c : ∀ x : Nat,x < 100 → IntKind.wrap .u32 ((x:Int) * 2 + 1) = (x:Int) * 2 + 1 := fun x h => by simp [IntKind.wrap,IntKind.signed,IntKind.bits]; omega
 have t1 : ∀ x : Nat,((x:Int) * 2).toNat = 2 * x := fun x => by omega
 have t2 : ∀ x : Nat,((x:Int) * 2 + 1).toNat = 2 * x + 1 := fun x => by omega
 have t3 : ∀ x : Nat,(0:Int) ≤ (x:Int) * 2 := fun x => by omega
 have t4 : ∀ x : Nat,(0:Int) ≤ (x:Int) * 2 + 1 := fun x => by omega
 have s1 : ∀ x : Nat,x < 100 → smalls2[2 * x]? = some (dig (x / 10)) := fun x h => (smalls2_at x h).1
 have s2 : ∀ x : Nat,x < 100 → smalls2[2 * x + 1]? = some (dig (x % 10)) := fun x h => (smalls2_at x h).2
 have i8 : (8:Int) ≤ (j:Int) + 8 := by omega
 have k1 : ∀ m : Int,1 ≤ m → m ≤ 8 → IntKind.wrap .i64 ((j:Int) + 8 - m) = (j:Int) + (8 - m) := fun m h1 h2 => by rw [wrap_small (by omega) (by omega)]; omega
 have d1 : IntKind.wrap .i64 ((j:Int) + 8 - 1) = (j:Int) + 7 := k1 1 (by omega) (by omega)
 have d2 : IntKind.wrap .i64 ((j:Int) + 8 - 2) = (j:Int) + 6 := k1 2 (by omega) (by omega)
 have d3 : IntKind.wrap .i64 ((j:Int) + 8 - 3) = (j:Int) + 5 := k1 3 (by omega) (by omega)
 have d4 : IntKind.wrap .i64 ((j:Int) + 8 - 4) = (j:Int) + 4 := k1 4 (by omega) (by omega)
 have d5 : IntKind.wrap .i64 ((j:Int) + 8 - 5) = (j:Int) + 3 := k1 5 (by omega) (by omega)
 have d6 : IntKind.wrap .i64 ((j:Int) + 8 - 6) = (j:Int) + 2 := k1 6 (by omega) (by omega)
 have d7 : IntKind.wrap .i64 ((j:Int) + 8 - 7) = (j:Int) + 1 := k1 7 (by omega) (by omega)
 have d8 : IntKind.wrap .i64 ((j:Int) + 8 - 8) = (j:Int) := by rw [k1 8 (by omega) (by omega)]; omega
 have p7a : (0:Int) ≤ (j:Int) + 7 := by omega
 have p7b : (j:Int) + 7 < n := by omega
 have p7d : off + (j + 7) < cs.length := by omega
 have p6a : (0:Int) ≤ (j:Int) + 6 := by omega
 have p6b : (j:Int) + 6 < n := by omega
 have p6d : off + (j + 6) < cs.length := by omega
 have p5a : (0:Int) ≤ (j:Int) + 5 := by omega
 have p5b : (j:Int) + 5 < n := by omega
 have p5d : off + (j + 5) < cs.length := by omega
 have p4a : (0:Int) ≤ (j:Int) + 4 := by omega
 have p4b : (j:Int) + 4 < n := by omega
 have p4d : off + (j + 4) < cs.length := by omega
 have p3a : (0:Int) ≤ (j:Int) + 3 := by omega
 have p3b : (j:Int) + 3 < n := by omega
 have p3d : off + (j + 3) < cs.length := by omega
 have p2a : (0:Int) ≤ (j:Int) + 2 := by omega
 have p2b : (j:Int) + 2 < n := by omega
 have p2d : off + (j + 2) < cs.length := by omega
 have p1a : (0:Int) ≤ (j:Int) + 1 := by omega
 have p1b : (j:Int) + 1 < n := by omega
 have p1d : off + (j + 1) < cs.length := by omega
 have p7e : off + (j + 7) + 1 ≤ cs.length := by omega
 have p6e : off + (j + 6) + 1 ≤ cs.length := by omega
 have p5e : off + (j + 5) + 1 ≤ cs.length := by omega
 have p4e : off + (j + 4) + 1 ≤ cs.length := by omega
 have p3e : off + (j + 3) + 1 ≤ cs.length := by omega
 have p2e : off + (j + 2) + 1 ≤ cs.length := by omega
 have p1e : off + (j + 1) + 1 ≤ cs.length := by omega
 have p0e : off + j + 1 ≤ cs.length := by omega
 have p0b : (j:Int) < n := by omega
 have p0d : off + j < cs.length := by omega
 have hlo' : lo ≤ hp.length := hlo
 have d9 : IntKind.wrap .i64 (j:Int) = (j:Int) := wrap_small (by omega) (by omega)
 have p7c : ((j:Int) + 7).toNat = j + 7 := toNat_add j 7
 have p6c : ((j:Int) + 6).toNat = j + 6 := toNat_add j 6
 have p5c : ((j:Int) + 5).toNat = j + 5 := toNat_add j 5
 have p4c : ((j:Int) + 4).toNat = j + 4 := toNat_add j 4
 have p3c : ((j:Int) + 3).toNat = j + 3 := toNat_add j 3
 have p2c : ((j:Int) + 2).toNat = j + 2 := toNat_add j 2
 have p1c : ((j:Int) + 1).toNat = j + 1 := toNat_add j 1
 simp [-put,l_isc_formatBase10_0,i8,q1,q2,q3,q4,q5,q6,q7,q8,wr,ww,wa,w32,w32b,w32c,hb1,hb2,ha1,ha2,t1,t2,t3,t4,s1,s2,d1,d2,d3,d4,d5,d6,d7,d8,d9,p7a,p7b,p7c,p7d,p6a,p6b,p6c,p6d,p5a,p5b,p5c,p5d,p4a,p4b,p4c,p4d,p3a,p3b,p3c,p3d,p2a,p2b,p2c,p2d,p1a,p1b,p1c,p1d,p0b,p0d,hlo',put_set,p7e,p6e,p5e,p4e,p3e,p2e,p1e,p0e]
 simp only [set8,dg,Nat.add_assoc]
end
end Go.Proofs.YtkofimhnehkdoaaGreatDoor.Rf
end
section
namespace Go.Proofs.YtkofimhnehkdoaaGreatDoor.Rf
def digA (l:List UInt8) : List AV := l.map fun c => AV.int .u8 (c.toNat : Int)
@[simp] theorem digA_len (l:List UInt8) : (digA l).length = l.length := by simp [digA]
theorem digA_app (a b:List UInt8) : digA (a ++ b) = digA a ++ digA b := by simp [digA]
theorem set8_eq (p r:List AV) (x0 x1 x2 x3 x4 x5 x6 x7:AV) (b1 b0 a1 a0:Nat) :
   set8 (p ++ x0 :: x1 :: x2 :: x3 :: x4 :: x5 :: x6 :: x7 :: r) p.length b1 b0 a1 a0 =
     p ++ dg (a1 / 10) :: dg (a1 % 10) :: dg (a0 / 10) :: dg (a0 % 10) :: dg (b1 / 10) :: dg (b1 % 10) :: dg (b0 / 10) :: dg (b0 % 10) :: r := by
 simp [set8,List.set_append_right]
theorem digN8 {u b1 b0 a1 a0:Nat} (h:u % 100000000 = ((a1 * 100 + a0) * 100 + b1) * 100 + b0) (h1:b1 < 100) (h2:b0 < 100) (h3:a1 < 100) (h4:a0 < 100) :
   digA (digN 8 u) = [dg (a1 / 10),dg (a1 % 10),dg (a0 / 10),dg (a0 % 10),dg (b1 / 10),dg (b1 % 10),dg (b0 / 10),dg (b0 % 10)] := by
 rw [← digN_mod 8 u,show 10 ^ 8 = 100000000 from rfl,h]
 generalize hx : ((a1 * 100 + a0) * 100 + b1) * 100 + b0 = x
 have e0 : x % 10 = b0 % 10 := by omega
 have e1 : x / 10 % 10 = b0 / 10 := by omega
 have e2 : x / 10 / 10 % 10 = b1 % 10 := by omega
 have e3 : x / 10 / 10 / 10 % 10 = b1 / 10 := by omega
 have e4 : x / 10 / 10 / 10 / 10 % 10 = a0 % 10 := by omega
 have e5 : x / 10 / 10 / 10 / 10 / 10 % 10 = a0 / 10 := by omega
 have e6 : x / 10 / 10 / 10 / 10 / 10 / 10 % 10 = a1 % 10 := by omega
 have e7 : x / 10 / 10 / 10 / 10 / 10 / 10 / 10 % 10 = a1 / 10 := by omega
 simp only [digN,e0,e1,e2,e3,e4,e5,e6,e7]
 simp [digA,dg]
theorem list8 {α:Type} (f:List α) (j:Nat) (h:f.length = j + 8) : ∃ x0 x1 x2 x3 x4 x5 x6 x7,f = f.take j ++ [x0,x1,x2,x3,x4,x5,x6,x7] := by
 have hd : (f.drop j).length = 8 := by simp; omega
 match hq : f.drop j,hd with
 | [x0,x1,x2,x3,x4,x5,x6,x7],_ => exact ⟨x0,x1,x2,x3,x4,x5,x6,x7,by rw [← hq,List.take_append_drop]⟩
section
variable {hp:List HObj} {lo:Nat}
theorem fb_exit (off n:Nat) (u:Int) (i:Int) (cs:List AV) (h:¬ 8 ≤ i) : loopD G0 IP lo l_isc_formatBase10_0 ⟨frB hp off n u i,HB hp cs⟩ = some (.exit 0,⟨frB hp off n u i ++ [(20,.bool false)],HB hp cs⟩) := by
 rw [loopD_eq,loopBody]
 simp [l_isc_formatBase10_0,h]
theorem fb_loop (hlo:lo ≤ hp.length) (p r:List AV) (n:Nat) (hn2:n ≤ 100) : ∀ (i:Nat) (f:List AV) (d:List UInt8) (u:Nat),f.length = i → i + d.length = n → u < 18446744073709551616 →
   loopD G0 IP lo l_isc_formatBase10_0 ⟨frB hp p.length n u i,HB hp (p ++ (f ++ (digA d ++ r)))⟩ =
     some (.exit 0,⟨frB hp p.length n ((u / 10 ^ (8 * (i / 8)) : Nat) : Int) ((i % 8 : Nat) : Int) ++ [(20,.bool false)],HB hp (p ++ (f.take (i % 8) ++ (digA (digN (8 * (i / 8)) u ++ d) ++ r)))⟩) := by
 intro i
 induction i using Nat.strongRecOn with
 | _ i ih =>
   intro f d u hf hd hu
   by_cases h8 : i < 8
   · rw [fb_exit _ _ _ _ _ (by omega)]
     have e1 : i / 8 = 0 := by omega
     have e2 : i % 8 = i := by omega
     rw [e1,e2]
     simp [digN,← hf]
   · obtain ⟨j,rfl⟩ : ∃ j,i = j + 8 := ⟨i - 8,by omega⟩
     obtain ⟨x0,x1,x2,x3,x4,x5,x6,x7,hx⟩ := list8 f j hf
     have hcs : p ++ (f ++ (digA d ++ r)) = (p ++ f.take j) ++ (x0 :: x1 :: x2 :: x3 :: x4 :: x5 :: x6 :: x7 :: (digA d ++ r)) := by
       conv => lhs; rw [hx]
       simp
     have hlen : (p ++ f.take j).length = p.length + j := by simp; omega
     obtain ⟨b1,b0,a1,a0,l1,l2,l3,l4,hm,hst⟩ := fb_step (hp := hp) hlo p.length n j u (p ++ (f ++ (digA d ++ r))) (by simp; omega) (by omega) hn2 hu
     rw [loopD_eq,loopBody,show (((j + 8 : Nat) : Int)) = (j:Int) + 8 from rfl,hst]
     simp only
     rw [hcs,← hlen,set8_eq]
     have h3 := ih j (by omega) (f.take j) (digN 8 u ++ d) (u / 100000000) (by simp; omega) (by simp [digN_len]; omega) (by omega)
     have hc2 : (p ++ f.take j) ++ dg (a1 / 10) :: dg (a1 % 10) :: dg (a0 / 10) :: dg (a0 % 10) :: dg (b1 / 10) :: dg (b1 % 10) :: dg (b0 / 10) :: dg (b0 % 10) :: (digA d ++ r) = p ++ (f.take j ++ (digA (digN 8 u ++ d) ++ r)) := by
       rw [digA_app,digN8 hm l1 l2 l3 l4]; simp
     rw [hc2,h3]
     have e1 : (j + 8) / 8 = j / 8 + 1 := by omega
     have e2 : (j + 8) % 8 = j % 8 := by omega
     have e3 : u / 100000000 / 10 ^ (8 * (j / 8)) = u / 10 ^ (8 * (j / 8 + 1)) := by
       rw [Nat.div_div_eq_div_mul,show (100000000:Nat) = 10 ^ 8 from rfl,← Nat.pow_add]; congr 2; omega
     have e4 : digN (8 * (j / 8 + 1)) u = digN (8 * (j / 8)) (u / 100000000) ++ digN 8 u := by
       rw [show 8 * (j / 8 + 1) = 8 * (j / 8) + 8 by omega,digN_app]
     have e5 : (f.take j).take (j % 8) = f.take (j % 8) := by rw [List.take_take]; congr 1; omega
     rw [e1,e2,e3,e4,e5,List.append_assoc]
end
end Go.Proofs.YtkofimhnehkdoaaGreatDoor.Rf
end
