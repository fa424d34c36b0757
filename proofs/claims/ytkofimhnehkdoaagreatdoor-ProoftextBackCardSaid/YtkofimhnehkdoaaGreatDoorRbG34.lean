/- A part. -/
import Derived.Test.YtkofimhnehkdoaaGreatDoorRbG33
import Derived.Test.YtkofimhnehkdoaaGreatDoorRbG29
section
set_option linter.unusedSimpArgs false
set_option linter.unusedVariables false
namespace Go.Proofs.YtkofimhnehkdoaaGreatDoor.Rf
theorem same_parts {x y:S} (h:x.same y = true) : x.atom = y.atom ∧ S.sames x.list y.list = true := by
 rw [S.same_eq] at h
 simpa using h
theorem sames_get : ∀ (l l' : List S),S.sames l l' = true → l.length = l'.length ∧ ∀ i,(l.getD i zS).same (l'.getD i zS) = true
 | [],[],_ => ⟨rfl,fun i => by simp; exact S.same_refl _⟩
 | [],_ :: _,h => by simp [S.sames] at h
 | _ :: _,[],h => by simp [S.sames] at h
 | x :: r,y :: s,h => by
   simp only [S.sames,Bool.and_eq_true] at h
   obtain ⟨h1,h2⟩ := sames_get r s h.2
   refine ⟨by simp [h1],fun i => ?_⟩
   cases i with
   | zero => exact h.1
   | succ i => exact h2 i
theorem refsS_same : ∀ (l l' : List S),S.sames l l' = true → refsS l = refsS l'
 | [],[],_ => rfl
 | [],_ :: _,h => by simp [S.sames] at h
 | _ :: _,[],h => by simp [S.sames] at h
 | x :: r,y :: s,h => by
   simp only [S.sames,Bool.and_eq_true] at h
   rw [refsS,refsS,refsS_same r s h.2,(same_parts h.1).1]
theorem refsE_same {x y:S} (h:x.same y = true) : refsE x = refsE y := by
 obtain ⟨h1,h2⟩ := same_parts h
 rw [refsE,refsE,h1,refsS_same _ _ h2]
theorem pairB_same {x y:S} (h:x.same y = true) : pairB x = pairB y := by
 obtain ⟨h1,h2⟩ := same_parts h
 obtain ⟨h3,h4⟩ := sames_get _ _ h2
 have := (same_parts (h4 0)).1
 simp only [zS] at this
 rw [pairB,pairB,h3,this]
theorem named_same {x y:S} (h:x.same y = true) : namedB x = namedB y := by
 obtain ⟨h1,h2⟩ := same_parts h
 have hl : ∀ (l l' : List S),S.sames l l' = true → l.all pairB = l'.all pairB := by
   intro l
   induction l with
   | nil => intro l' h; cases l' <;> simp [S.sames] at h ⊢
   | cons x r ih =>
     intro l' h
     cases l' with
     | nil => simp [S.sames] at h
     | cons y s =>
       simp only [S.sames,Bool.and_eq_true] at h
       rw [List.all_cons,List.all_cons,pairB_same h.1,ih s h.2]
 rw [namedB,namedB,h1,hl _ _ h2]
theorem subsS_same : ∀ (l l' : List S),S.sames l l' = true → subsS l = subsS l'
 | [],[],_ => rfl
 | [],_ :: _,h => by simp [S.sames] at h
 | _ :: _,[],h => by simp [S.sames] at h
 | x :: r,y :: s,h => by
   simp only [S.sames,Bool.and_eq_true] at h
   obtain ⟨h3,h4⟩ := sames_get _ _ (same_parts h.1).2
   rw [subsS,subsS,subsS_same r s h.2,readS_same _ _ (h4 1),(same_parts (h4 0)).1]
theorem stepR_same {x y:S} (h:x.same y = true) : stepR x = stepR y := by
 obtain ⟨h1,h2⟩ := same_parts h
 obtain ⟨h3,h4⟩ := sames_get _ _ h2
 have k0 : lineK x.list = lineK y.list := by rw [lineK,lineK,(same_parts (h4 0)).1]
 have k1 := refsE_same (h4 1)
 have k2 := (same_parts (h4 2)).1
 have k3 := named_same (h4 3)
 have k4 := subsS_same _ _ (same_parts (h4 3)).2
 have k5 := readS_same _ _ (h4 2)
 have k6 := readS_same _ _ (h4 3)
 have hs : shapeB x = shapeB y := by unfold shapeB; rw [h3,k0,k1,k2,k3]
 have hS : shapeS x = shapeS y := by unfold shapeS; rw [k0,k1,k2]
 unfold stepR
 rw [hs,hS,k0,k4,k5,k6]
theorem stepsR_same : ∀ (l l' : List S) (i:Int),S.sames l l' = true → stepsR i l = stepsR i l'
 | [],[],_,_ => rfl
 | [],_ :: _,_,h => by simp [S.sames] at h
 | _ :: _,[],_,h => by simp [S.sames] at h
 | x :: r,y :: s,i,h => by
   simp only [S.sames,Bool.and_eq_true] at h
   rw [stepsR,stepsR,stepR_same h.1,stepsR_same r s _ h.2]
theorem decZ_ne (n:Int) : decZ n ≠ [] := by
 unfold decZ; split
 · exact dec_ne _
 · simp
theorem dec_pre (n:Nat) : hasPre (dec n) [45] = false := by
 cases h : hasPre (dec n) [45] with
 | false => rfl
 | true =>
   obtain ⟨r,hr⟩ := hasPre45 h
   have := dec_digs n 45 (by rw [hr]; simp)
   exact absurd this (by decide)
theorem intE_decZ {n:Int} (h0:-9223372036854775808 ≤ n) (h1:n ≤ 9223372036854775807) : intE (decZ n) = (n,0) := by
 unfold decZ decI
 by_cases hn : 0 ≤ n
 · rw [if_pos hn]
   unfold intE
   rw [dec_pre,if_neg (by simp),numOk_dec,if_neg (by simp),digVal_dec,if_neg (by omega)]
   rw [Int.toNat_of_nonneg hn]
 · rw [if_neg hn]
   have hp : hasPre (45 :: dec (-n).toNat) [45] = true := by simp [hasPre]
   unfold intE
   rw [if_pos hp]
   have hd : (45 :: dec (-n).toNat).drop 1 = dec (-n).toNat := rfl
   rw [hd,digVal_dec]
   have h48 : ¬ dec (-n).toNat = [48] := by
     intro e
     have := digVal_dec (-n).toNat
     rw [e] at this
     simp [digVal] at this
     omega
   rw [if_neg (by rw [numOk_dec]; simp [h48]),if_neg (by omega)]
   rw [Int.toNat_of_nonneg (by omega)]
   simp
def refsW (l:List Int) : S := .mk [] l.isEmpty (l.map fun n => aS (decZ n))
def pairW (x:Sb) : S := .mk [] false [aS x.name,writeT x.t]
def subsW (l:List Sb) : S := .mk [] l.isEmpty (l.map pairW)
def restW (s:St7) : List S := if s.kind = 5 then [aS (decZ s.rule),subsW s.subs] else if s.kind = 12 then [aS (decZ s.rule)] else
 if s.kind = 1 ∨ s.kind = 6 ∨ s.kind = 7 ∨ s.kind = 8 then [writeT s.a] else if s.kind = 4 then [writeT s.a,writeT s.b] else []
def lineW (s:St7) : S := .mk [] false (aS (kindE s.kind) :: refsW s.refs :: restW s)
def i64B (n:Int) : Prop := -9223372036854775808 ≤ n ∧ n ≤ 9223372036854775807
structure St7.ok (s:St7) : Prop where
 kind : 1 ≤ s.kind ∧ s.kind ≤ 12
 refs : ∀ n,n ∈ s.refs → i64B n
 rule : i64B s.rule
 rule0 : s.kind ≠ 5 → s.kind ≠ 12 → s.rule = 0
 subs0 : s.kind ≠ 5 → s.subs = []
 subs : ∀ x,x ∈ s.subs → x.name ≠ [] ∧ x.t.wf ∧ x.t.valid = true
 a0 : ¬ (s.kind = 1 ∨ s.kind = 6 ∨ s.kind = 7 ∨ s.kind = 8 ∨ s.kind = 4) → T.z.same s.a = true
 a1 : (s.kind = 1 ∨ s.kind = 6 ∨ s.kind = 7 ∨ s.kind = 8 ∨ s.kind = 4) → s.a.wf ∧ s.a.valid = true
 b0 : s.kind ≠ 4 → T.z.same s.b = true
 b1 : s.kind = 4 → s.b.wf ∧ s.b.valid = true
def Sb.norm (x:Sb) : Sb := ⟨x.name,x.t.norm⟩
def St7.norm (s:St7) : St7 := ⟨s.kind,s.refs.isEmpty,s.refs,s.rule,s.subs.isEmpty,s.subs.map Sb.norm,if s.kind = 1 ∨ s.kind = 6 ∨ s.kind = 7 ∨ s.kind = 8 ∨ s.kind = 4 then s.a.norm else T.z,if s.kind = 4 then s.b.norm else T.z⟩
theorem refsS_W : ∀ l : List Int,(∀ n,n ∈ l → i64B n) → refsS (l.map fun n => aS (decZ n)) = some l
 | [],_ => rfl
 | n :: r,h => by
   have hn := h n (by simp)
   have e : (aS (decZ n)).atom = decZ n := rfl
   rw [List.map_cons,refsS,e,intE_decZ hn.1 hn.2,refsS_W r fun m hm => h m (by simp [hm])]
   simp
theorem refsE_W {l:List Int} (h:∀ n,n ∈ l → i64B n) : refsE (refsW l) = some l := by
 have e1 : (refsW l).atom = [] := rfl
 have e2 : (refsW l).list = l.map fun n => aS (decZ n) := rfl
 rw [refsE,e1,e2,refsS_W l h]; simp
theorem subsS_W : ∀ l : List Sb,(∀ x,x ∈ l → x.name ≠ [] ∧ x.t.wf ∧ x.t.valid = true) → subsS (l.map pairW) = .ok (l.map Sb.norm)
 | [],_ => rfl
 | x :: r,h => by
   obtain ⟨h1,h2,h3⟩ := h x (by simp)
   have e1 : ((pairW x).list.getD 1 zS) = writeT x.t := rfl
   have e2 : ((pairW x).list.getD 0 zS).atom = x.name := rfl
   rw [List.map_cons,subsS,e1,e2,read_write _ h2 h3,subsS_W r fun m hm => h m (by simp [hm])]
   rfl
theorem named_W {l:List Sb} (h:∀ x,x ∈ l → x.name ≠ [] ∧ x.t.wf ∧ x.t.valid = true) : namedB (subsW l) = true := by
 have e1 : (subsW l).atom = [] := rfl
 have e2 : (subsW l).list = l.map pairW := rfl
 simp only [namedB,e1,e2,Bool.and_eq_true,List.all_eq_true]
 refine ⟨fun x hx => ?_,rfl⟩
 obtain ⟨y,hy,rfl⟩ := List.mem_map.1 hx
 have := (h y hy).1
 simp [pairB,pairW,S.list,S.atom,aS,this]
theorem kindOf_kindE {k:Int} (h:1 ≤ k ∧ k ≤ 12) : kindOf (kindE k) = k := by
 rcases kind_cases (k := k) (by omega) with rfl | rfl | rfl | rfl | rfl | rfl | rfl | rfl | rfl | rfl | rfl | rfl
 all_goals rfl
set_option maxHeartbeats 1000000 in
theorem step_line (s:St7) (h:s.ok) : stepR (lineW s) = .ok s.norm := by
 have k0 : lineK (lineW s).list = s.kind := kindOf_kindE h.kind
 have k1 : refsE ((lineW s).list.getD 1 zS) = some s.refs := refsE_W h.refs
 have hl : (lineW s).list = aS (kindE s.kind) :: refsW s.refs :: restW s := rfl
 have hi := intE_decZ h.rule.1 h.rule.2
 by_cases h5 : s.kind = 5
 · have hr : restW s = [aS (decZ s.rule),subsW s.subs] := by unfold restW; rw [if_pos h5]
   have c2 : (lineW s).list.getD 2 zS = aS (decZ s.rule) := by rw [hl,hr]; rfl
   have c3 : (lineW s).list.getD 3 zS = subsW s.subs := by rw [hl,hr]; rfl
   have e2 : (aS (decZ s.rule)).atom = decZ s.rule := rfl
   have e3 : (subsW s.subs).list = s.subs.map pairW := rfl
   have hlen : (lineW s).list.length = 4 := by rw [hl,hr]; rfl
   have hp : partsE 5 = 4 := rfl
   have hB : shapeB (lineW s) = true := by
     unfold shapeB
     rw [k0,k1,c2,c3,e2,hi,named_W h.subs,hlen,h5,hp]; rfl
   have hS : shapeS (lineW s) = ⟨s.kind,s.refs.isEmpty,s.refs,s.rule,true,[],T.z,T.z⟩ := by
     unfold shapeS
     rw [k0,k1,c2,e2,hi,if_pos (.inl h5)]; rfl
   unfold stepR
   rw [hB,if_neg (by simp),k0,if_pos h5,c3,e3,subsS_W _ h.subs,hS]
   simp only [St7.norm,h5]
   cases s.subs <;> simp
 · by_cases h12 : s.kind = 12
   · have hr : restW s = [aS (decZ s.rule)] := by unfold restW; rw [if_neg h5,if_pos h12]
     have c2 : (lineW s).list.getD 2 zS = aS (decZ s.rule) := by rw [hl,hr]; rfl
     have e2 : (aS (decZ s.rule)).atom = decZ s.rule := rfl
     have hlen : (lineW s).list.length = 3 := by rw [hl,hr]; rfl
     have hp : partsE 12 = 3 := rfl
     have hB : shapeB (lineW s) = true := by
       unfold shapeB
       rw [k0,k1,c2,e2,hi,hlen,h12,hp]; rfl
     have hS : shapeS (lineW s) = ⟨s.kind,s.refs.isEmpty,s.refs,s.rule,true,[],T.z,T.z⟩ := by
       unfold shapeS
       rw [k0,k1,c2,e2,hi,if_pos (.inr h12)]; rfl
     unfold stepR
     rw [hB,if_neg (by simp),k0,if_neg h5,if_neg (by omega),if_neg (by omega),hS]
     simp only [St7.norm,h12,h.subs0 h5]
     simp
   · have hrule := h.rule0 h5 h12
     have hsub := h.subs0 h5
     have hB0 : ∀ n : Nat,(lineW s).list.length = n → 2 ≤ n → (n:Int) = partsE s.kind → shapeB (lineW s) = true := by
       intro n hn h2 hp
       unfold shapeB
       rw [k0,k1,hn,← hp]
       have hk := h.kind
       have hk0 : ¬ s.kind = 0 := by omega
       simp [h5,h12,hk0,h2]
     have hS : shapeS (lineW s) = ⟨s.kind,s.refs.isEmpty,s.refs,s.rule,true,[],T.z,T.z⟩ := by
       unfold shapeS
       rw [k0,k1,if_neg (by omega),hrule]; rfl
     by_cases h1 : s.kind = 1 ∨ s.kind = 6 ∨ s.kind = 7 ∨ s.kind = 8
     · have hr : restW s = [writeT s.a] := by unfold restW; rw [if_neg h5,if_neg h12,if_pos h1]
       have c2 : (lineW s).list.getD 2 zS = writeT s.a := by rw [hl,hr]; rfl
       have hB := hB0 3 (by rw [hl,hr]; rfl) (by omega) (by rcases h1 with h | h | h | h <;> rw [h] <;> rfl)
       obtain ⟨a1,a2⟩ := h.a1 (by omega)
       unfold stepR
       rw [hB,if_neg (by simp),k0,if_neg h5,if_pos h1,c2,read_write _ a1 a2,hS]
       have h14 : s.kind = 1 ∨ s.kind = 6 ∨ s.kind = 7 ∨ s.kind = 8 ∨ s.kind = 4 := by omega
       have h4 : ¬ s.kind = 4 := by omega
       simp only [St7.norm,hsub,if_pos h14,if_neg h4]
       simp
     · by_cases h4 : s.kind = 4
       · have hr : restW s = [writeT s.a,writeT s.b] := by unfold restW; rw [if_neg h5,if_neg h12,if_neg h1,if_pos h4]
         have c2 : (lineW s).list.getD 2 zS = writeT s.a := by rw [hl,hr]; rfl
         have c3 : (lineW s).list.getD 3 zS = writeT s.b := by rw [hl,hr]; rfl
         have hB := hB0 4 (by rw [hl,hr]; rfl) (by omega) (by rw [h4]; rfl)
         obtain ⟨a1,a2⟩ := h.a1 (by omega)
         obtain ⟨b1,b2⟩ := h.b1 h4
         unfold stepR
         rw [hB,if_neg (by simp),k0,if_neg h5,if_neg h1,if_pos h4,c2,c3,read_write _ a1 a2,read_write _ b1 b2,hS]
         have h14 : s.kind = 1 ∨ s.kind = 6 ∨ s.kind = 7 ∨ s.kind = 8 ∨ s.kind = 4 := by omega
         simp only [St7.norm,hsub,if_pos h14,if_pos h4]
         simp
       · have hr : restW s = [] := by unfold restW; rw [if_neg h5,if_neg h12,if_neg h1,if_neg h4]
         have hB := hB0 2 (by rw [hl,hr]; rfl) (by omega) (by unfold partsE; rw [if_neg (by omega),if_neg (by omega)]; rfl)
         unfold stepR
         rw [hB,if_neg (by simp),k0,if_neg h5,if_neg h1,if_neg h4,hS]
         have h14 : ¬ (s.kind = 1 ∨ s.kind = 6 ∨ s.kind = 7 ∨ s.kind = 8 ∨ s.kind = 4) := by omega
         simp only [St7.norm,hsub,if_neg h14,if_neg h4]
         simp
theorem T.sames_comm' : ∀ t u : T,t.same u = u.same t := by
 intro t
 induction t using T.ind with | h t ih =>
 have hl : ∀ (l:List T),(∀ x,x ∈ l → ∀ u : T,x.same u = u.same x) → ∀ m : List T,T.sames l m = T.sames m l := by
   intro l
   induction l with
   | nil => intro _ m; cases m <;> rfl
   | cons x r ihr =>
     intro h m
     cases m with
     | nil => rfl
     | cons y s => simp only [T.sames]; rw [h x (by simp) y,ihr (fun z hz => h z (by simp [hz])) s]
 intro u
 rw [T.same_eq,T.same_eq,hl t.args ih u.args]
 have cI : ∀ a b : Int,(a == b) = (b == a) := fun a b => by by_cases h : a = b <;> simp [h,eq_comm]
 have cS : ∀ a b : List UInt8,(a == b) = (b == a) := fun a b => by by_cases h : a = b <;> simp [h,eq_comm]
 rw [cI t.op,cI t.width,cI t.val,cS t.name]
theorem norm_same (s:St7) (h:s.ok) : s.norm.same s = true ∧ s.same s.norm = true := by
 have hr : same2 eqI s.refs s.refs = true := same2_refl _ fun x _ => by simp [eqI]
 have hs1 : same2 Sb.same (s.subs.map Sb.norm) s.subs = true := by
   generalize s.subs = l
   induction l with
   | nil => rfl
   | cons x r ih => rw [List.map_cons,same2,ih]; simp [Sb.same,Sb.norm,T.norm_same]
 have hs2 : same2 Sb.same s.subs (s.subs.map Sb.norm) = true := by
   generalize s.subs = l
   induction l with
   | nil => rfl
   | cons x r ih => rw [List.map_cons,same2,ih]; simp [Sb.same,Sb.norm]; rw [T.sames_comm',T.norm_same]
 have ha1 : (if s.kind = 1 ∨ s.kind = 6 ∨ s.kind = 7 ∨ s.kind = 8 ∨ s.kind = 4 then s.a.norm else T.z).same s.a = true := by
   split
   · exact T.norm_same _
   · rename_i hh; exact h.a0 hh
 have hb1 : (if s.kind = 4 then s.b.norm else T.z).same s.b = true := by
   split
   · exact T.norm_same _
   · rename_i hh; exact h.b0 hh
 have ha2 := ha1
 have hb2 := hb1
 rw [T.sames_comm'] at ha2 hb2
 constructor
 · simp only [St7.same,St7.norm,hr,hs1,ha1,hb1,decide_true,Bool.and_self]
 · simp only [St7.same,St7.norm,hr,hs2,ha2,hb2,decide_true,Bool.and_self]
theorem steps_lines : ∀ (p:List St7) (i:Int),(∀ s,s ∈ p → s.ok) → stepsR i (p.map lineW) = .ok (p.map St7.norm)
 | [],i,_ => rfl
 | s :: r,i,h => by
   rw [List.map_cons,stepsR,step_line s (h s (by simp)),steps_lines r _ fun x hx => h x (by simp [hx])]
   rfl
theorem norms_same : ∀ p : List St7,(∀ s,s ∈ p → s.ok) → same2 St7.same (p.map St7.norm) p = true ∧ same2 St7.same p (p.map St7.norm) = true
 | [],_ => ⟨rfl,rfl⟩
 | s :: r,h => by
   obtain ⟨h1,h2⟩ := norm_same s (h s (by simp))
   obtain ⟨h3,h4⟩ := norms_same r fun x hx => h x (by simp [hx])
   simp only [List.map_cons,same2,h1,h2,h3,h4,Bool.and_self]
   exact ⟨trivial,trivial⟩
end Go.Proofs.YtkofimhnehkdoaaGreatDoor.Rf
end
