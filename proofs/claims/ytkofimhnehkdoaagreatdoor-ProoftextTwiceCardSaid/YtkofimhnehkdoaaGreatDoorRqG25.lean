/- A part of the proof: see the last text. -/
import Derived.Test.YtkofimhnehkdoaaGreatDoorRqG21
import Derived.Test.YtkofimhnehkdoaaGreatDoorRqG23
import Derived.Test.YtkofimhnehkdoaaGreatDoorRqG24
import Derived.Test.YtkofimhnehkdoaaGreatDoorRqG20
set_option linter.unusedVariables false
set_option linter.unusedSimpArgs false
section
namespace Go.Proofs.YtkofimhnehkdoaaGreatDoor.Rf
theorem same_parts {x y:S} (h:x.same y = true) : x.atom = y.atom ∧ S.sames x.list y.list = true := by
 rw [S.same_eq] at h
 simpa using h
theorem sames_get : ∀ (l l' : List S),S.sames l l' = true → l.length = l'.length ∧ ∀ i,(l.getD i zS).same (l'.getD i zS) = true
 | [],[],_ => ⟨rfl,fun i => by simp; exact S.same_refl _⟩
 | [],_ :: _,h => by simp [S.sames] at h
 | _ :: _,[],h => by simp [S.sames] at h
 | x :: r,y :: s,h => by
   simp only [S.sames,Bool.and_eq_true] at h
   obtain ⟨h1,h2⟩ := sames_get r s h.2
   refine ⟨by simp [h1],fun i => ?_⟩
   cases i with
   | zero => exact h.1
   | succ i => exact h2 i
theorem refsS_same : ∀ (l l' : List S),S.sames l l' = true → refsS l = refsS l'
 | [],[],_ => rfl
 | [],_ :: _,h => by simp [S.sames] at h
 | _ :: _,[],h => by simp [S.sames] at h
 | x :: r,y :: s,h => by
   simp only [S.sames,Bool.and_eq_true] at h
   rw [refsS,refsS,refsS_same r s h.2,(same_parts h.1).1]
theorem refsE_same {x y:S} (h:x.same y = true) : refsE x = refsE y := by
 obtain ⟨h1,h2⟩ := same_parts h
 rw [refsE,refsE,h1,refsS_same _ _ h2]
theorem pairB_same {x y:S} (h:x.same y = true) : pairB x = pairB y := by
 obtain ⟨h1,h2⟩ := same_parts h
 obtain ⟨h3,h4⟩ := sames_get _ _ h2
 have := (same_parts (h4 0)).1
 simp only [zS] at this
 rw [pairB,pairB,h3,this]
theorem named_same {x y:S} (h:x.same y = true) : namedB x = namedB y := by
 obtain ⟨h1,h2⟩ := same_parts h
 have hl : ∀ (l l' : List S),S.sames l l' = true → l.all pairB = l'.all pairB := by
   intro l
   induction l with
   | nil => intro l' h; cases l' <;> simp [S.sames] at h ⊢
   | cons x r ih =>
     intro l' h
     cases l' with
     | nil => simp [S.sames] at h
     | cons y s =>
       simp only [S.sames,Bool.and_eq_true] at h
       rw [List.all_cons,List.all_cons,pairB_same h.1,ih s h.2]
 rw [namedB,namedB,h1,hl _ _ h2]
theorem subsS_same : ∀ (l l' : List S),S.sames l l' = true → subsS l = subsS l'
 | [],[],_ => rfl
 | [],_ :: _,h => by simp [S.sames] at h
 | _ :: _,[],h => by simp [S.sames] at h
 | x :: r,y :: s,h => by
   simp only [S.sames,Bool.and_eq_true] at h
   obtain ⟨h3,h4⟩ := sames_get _ _ (same_parts h.1).2
   rw [subsS,subsS,subsS_same r s h.2,readS_same _ _ (h4 1),(same_parts (h4 0)).1]
theorem stepR_same {x y:S} (h:x.same y = true) : stepR x = stepR y := by
 obtain ⟨h1,h2⟩ := same_parts h
 obtain ⟨h3,h4⟩ := sames_get _ _ h2
 have k0 : lineK x.list = lineK y.list := by rw [lineK,lineK,(same_parts (h4 0)).1]
 have k1 := refsE_same (h4 1)
 have k2 := (same_parts (h4 2)).1
 have k3 := named_same (h4 3)
 have k4 := subsS_same _ _ (same_parts (h4 3)).2
 have k5 := readS_same _ _ (h4 2)
 have k6 := readS_same _ _ (h4 3)
 have hs : shapeB x = shapeB y := by unfold shapeB; rw [h3,k0,k1,k2,k3]
 have hS : shapeS x = shapeS y := by unfold shapeS; rw [k0,k1,k2]
 unfold stepR
 rw [hs,hS,k0,k4,k5,k6]
theorem stepsR_same : ∀ (l l' : List S) (i:Int),S.sames l l' = true → stepsR i l = stepsR i l'
 | [],[],_,_ => rfl
 | [],_ :: _,_,h => by simp [S.sames] at h
 | _ :: _,[],_,h => by simp [S.sames] at h
 | x :: r,y :: s,i,h => by
   simp only [S.sames,Bool.and_eq_true] at h
   rw [stepsR,stepsR,stepR_same h.1,stepsR_same r s _ h.2]
theorem decZ_ne (n:Int) : decZ n ≠ [] := by
 unfold decZ; split
 · exact dec_ne _
 · simp
theorem dec_pre (n:Nat) : hasPre (dec n) [45] = false := by
 cases h : hasPre (dec n) [45] with
 | false => rfl
 | true =>
   obtain ⟨r,hr⟩ := hasPre45 h
   have := dec_digs n 45 (by rw [hr]; simp)
   exact absurd this (by decide)
theorem intE_decZ {n:Int} (h0:-9223372036854775808 ≤ n) (h1:n ≤ 9223372036854775807) : intE (decZ n) = (n,0) := by
 unfold decZ decI
 by_cases hn : 0 ≤ n
 · rw [if_pos hn]
   unfold intE
   rw [dec_pre,if_neg (by simp),numOk_dec,if_neg (by simp),digVal_dec,if_neg (by omega)]
   rw [Int.toNat_of_nonneg hn]
 · rw [if_neg hn]
   have hp : hasPre (45 :: dec (-n).toNat) [45] = true := by simp [hasPre]
   unfold intE
   rw [if_pos hp]
   have hd : (45 :: dec (-n).toNat).drop 1 = dec (-n).toNat := rfl
   rw [hd,digVal_dec]
   have h48 : ¬ dec (-n).toNat = [48] := by
     intro e
     have := digVal_dec (-n).toNat
     rw [e] at this
     simp [digVal] at this
     omega
   rw [if_neg (by rw [numOk_dec]; simp [h48]),if_neg (by omega)]
   rw [Int.toNat_of_nonneg (by omega)]
   simp
theorem decZ_intE {s:List UInt8} (h:(intE s).2 = 0) : decZ (intE s).1 = s ∧ -9223372036854775808 ≤ (intE s).1 ∧ (intE s).1 ≤ 9223372036854775807 := by
 unfold intE at h ⊢
 by_cases hp : hasPre s [45] = true
 · rw [if_pos hp] at h ⊢
   obtain ⟨r,rfl⟩ := hasPre45 hp
   have hd : (45 :: r).drop 1 = r := rfl
   rw [hd] at h ⊢
   split at h
   · simp at h
   · rename_i h2
     split at h
     · simp at h
     · rename_i h3
       rw [if_neg h2,if_neg h3]
       have hok : numOk r = true := by cases hh : numOk r with | true => rfl | false => exact absurd (.inl hh) h2
       have h4 : ¬ r = [48] := fun e => h2 (.inr e)
       have hdv := dec_digVal hok
       have hpos : 0 < digVal r := by
         by_cases h0 : digVal r = 0
         · rw [h0,dec_small (by omega)] at hdv
           exact absurd hdv.symm h4
         · omega
       refine ⟨?_,by simp only; omega,by simp only; omega⟩
       simp only [decZ,decI]
       rw [if_neg (by omega)]
       have : (-(-(digVal r:Int))).toNat = digVal r := by omega
       rw [this,hdv]
 · rw [if_neg hp] at h ⊢
   split at h
   · simp at h
   · rename_i h2
     split at h
     · simp at h
     · rename_i h3
       rw [if_neg h2,if_neg h3]
       have hok : numOk s = true := by simpa using h2
       refine ⟨?_,by simp only; omega,by simp only; omega⟩
       simp only [decZ,decI]
       rw [if_pos (by omega),Int.toNat_natCast,dec_digVal hok]
def refsW (l:List Int) : S := .mk [] l.isEmpty (l.map fun n => aS (decZ n))
def pairW (x:Sb) : S := .mk [] false [aS x.name,writeT x.t]
def subsW (l:List Sb) : S := .mk [] l.isEmpty (l.map pairW)
def restW (s:St7) : List S := if s.kind = 5 then [aS (decZ s.rule),subsW s.subs] else if s.kind = 12 then [aS (decZ s.rule)] else
 if s.kind = 1 ∨ s.kind = 6 ∨ s.kind = 7 ∨ s.kind = 8 then [writeT s.a] else if s.kind = 4 then [writeT s.a,writeT s.b] else []
def lineW (s:St7) : S := .mk [] false (aS (kindE s.kind) :: refsW s.refs :: restW s)
def i64B (n:Int) : Prop := -9223372036854775808 ≤ n ∧ n ≤ 9223372036854775807
structure St7.ok (s:St7) : Prop where
 kind : 1 ≤ s.kind ∧ s.kind ≤ 12
 refs : ∀ n,n ∈ s.refs → i64B n
 rule : i64B s.rule
 rule0 : s.kind ≠ 5 → s.kind ≠ 12 → s.rule = 0
 subs0 : s.kind ≠ 5 → s.subs = []
 subs : ∀ x,x ∈ s.subs → x.name ≠ [] ∧ x.t.wf ∧ x.t.valid = true
 a0 : ¬ (s.kind = 1 ∨ s.kind = 6 ∨ s.kind = 7 ∨ s.kind = 8 ∨ s.kind = 4) → T.z.same s.a = true
 a1 : (s.kind = 1 ∨ s.kind = 6 ∨ s.kind = 7 ∨ s.kind = 8 ∨ s.kind = 4) → s.a.wf ∧ s.a.valid = true
 b0 : s.kind ≠ 4 → T.z.same s.b = true
 b1 : s.kind = 4 → s.b.wf ∧ s.b.valid = true
def Sb.norm (x:Sb) : Sb := ⟨x.name,x.t.norm⟩
def St7.norm (s:St7) : St7 := ⟨s.kind,s.refs.isEmpty,s.refs,s.rule,s.subs.isEmpty,s.subs.map Sb.norm,if s.kind = 1 ∨ s.kind = 6 ∨ s.kind = 7 ∨ s.kind = 8 ∨ s.kind = 4 then s.a.norm else T.z,if s.kind = 4 then s.b.norm else T.z⟩
theorem refsS_W : ∀ l : List Int,(∀ n,n ∈ l → i64B n) → refsS (l.map fun n => aS (decZ n)) = some l
 | [],_ => rfl
 | n :: r,h => by
   have hn := h n (by simp)
   have e : (aS (decZ n)).atom = decZ n := rfl
   rw [List.map_cons,refsS,e,intE_decZ hn.1 hn.2,refsS_W r fun m hm => h m (by simp [hm])]
   simp
theorem refsE_W {l:List Int} (h:∀ n,n ∈ l → i64B n) : refsE (refsW l) = some l := by
 have e1 : (refsW l).atom = [] := rfl
 have e2 : (refsW l).list = l.map fun n => aS (decZ n) := rfl
 rw [refsE,e1,e2,refsS_W l h]; simp
theorem subsS_W : ∀ l : List Sb,(∀ x,x ∈ l → x.name ≠ [] ∧ x.t.wf ∧ x.t.valid = true) → subsS (l.map pairW) = .ok (l.map Sb.norm)
 | [],_ => rfl
 | x :: r,h => by
   obtain ⟨h1,h2,h3⟩ := h x (by simp)
   have e1 : ((pairW x).list.getD 1 zS) = writeT x.t := rfl
   have e2 : ((pairW x).list.getD 0 zS).atom = x.name := rfl
   rw [List.map_cons,subsS,e1,e2,read_write _ h2 h3,subsS_W r fun m hm => h m (by simp [hm])]
   rfl
theorem named_W {l:List Sb} (h:∀ x,x ∈ l → x.name ≠ [] ∧ x.t.wf ∧ x.t.valid = true) : namedB (subsW l) = true := by
 have e1 : (subsW l).atom = [] := rfl
 have e2 : (subsW l).list = l.map pairW := rfl
 simp only [namedB,e1,e2,Bool.and_eq_true,List.all_eq_true]
 refine ⟨fun x hx => ?_,rfl⟩
 obtain ⟨y,hy,rfl⟩ := List.mem_map.1 hx
 have := (h y hy).1
 simp [pairB,pairW,S.list,S.atom,aS,this]
theorem kindOf_kindE {k:Int} (h:1 ≤ k ∧ k ≤ 12) : kindOf (kindE k) = k := by
 rcases kind_cases (k := k) (by omega) with rfl | rfl | rfl | rfl | rfl | rfl | rfl | rfl | rfl | rfl | rfl | rfl
 all_goals rfl
set_option maxHeartbeats 1000000 in
theorem step_line (s:St7) (h:s.ok) : stepR (lineW s) = .ok s.norm := by
 have k0 : lineK (lineW s).list = s.kind := kindOf_kindE h.kind
 have k1 : refsE ((lineW s).list.getD 1 zS) = some s.refs := refsE_W h.refs
 have hl : (lineW s).list = aS (kindE s.kind) :: refsW s.refs :: restW s := rfl
 have hi := intE_decZ h.rule.1 h.rule.2
 by_cases h5 : s.kind = 5
 · have hr : restW s = [aS (decZ s.rule),subsW s.subs] := by unfold restW; rw [if_pos h5]
   have c2 : (lineW s).list.getD 2 zS = aS (decZ s.rule) := by rw [hl,hr]; rfl
   have c3 : (lineW s).list.getD 3 zS = subsW s.subs := by rw [hl,hr]; rfl
   have e2 : (aS (decZ s.rule)).atom = decZ s.rule := rfl
   have e3 : (subsW s.subs).list = s.subs.map pairW := rfl
   have hlen : (lineW s).list.length = 4 := by rw [hl,hr]; rfl
   have hp : partsE 5 = 4 := rfl
   have hB : shapeB (lineW s) = true := by
     unfold shapeB
     rw [k0,k1,c2,c3,e2,hi,named_W h.subs,hlen,h5,hp]; rfl
   have hS : shapeS (lineW s) = ⟨s.kind,s.refs.isEmpty,s.refs,s.rule,true,[],T.z,T.z⟩ := by
     unfold shapeS
     rw [k0,k1,c2,e2,hi,if_pos (.inl h5)]; rfl
   unfold stepR
   rw [hB,if_neg (by simp),k0,if_pos h5,c3,e3,subsS_W _ h.subs,hS]
   simp only [St7.norm,h5]
   cases s.subs <;> simp
 · by_cases h12 : s.kind = 12
   · have hr : restW s = [aS (decZ s.rule)] := by unfold restW; rw [if_neg h5,if_pos h12]
     have c2 : (lineW s).list.getD 2 zS = aS (decZ s.rule) := by rw [hl,hr]; rfl
     have e2 : (aS (decZ s.rule)).atom = decZ s.rule := rfl
     have hlen : (lineW s).list.length = 3 := by rw [hl,hr]; rfl
     have hp : partsE 12 = 3 := rfl
     have hB : shapeB (lineW s) = true := by
       unfold shapeB
       rw [k0,k1,c2,e2,hi,hlen,h12,hp]; rfl
     have hS : shapeS (lineW s) = ⟨s.kind,s.refs.isEmpty,s.refs,s.rule,true,[],T.z,T.z⟩ := by
       unfold shapeS
       rw [k0,k1,c2,e2,hi,if_pos (.inr h12)]; rfl
     unfold stepR
     rw [hB,if_neg (by simp),k0,if_neg h5,if_neg (by omega),if_neg (by omega),hS]
     simp only [St7.norm,h12,h.subs0 h5]
     simp
   · have hrule := h.rule0 h5 h12
     have hsub := h.subs0 h5
     have hB0 : ∀ n : Nat,(lineW s).list.length = n → 2 ≤ n → (n:Int) = partsE s.kind → shapeB (lineW s) = true := by
       intro n hn h2 hp
       unfold shapeB
       rw [k0,k1,hn,← hp]
       have hk := h.kind
       have hk0 : ¬ s.kind = 0 := by omega
       simp [h5,h12,hk0,h2]
     have hS : shapeS (lineW s) = ⟨s.kind,s.refs.isEmpty,s.refs,s.rule,true,[],T.z,T.z⟩ := by
       unfold shapeS
       rw [k0,k1,if_neg (by omega),hrule]; rfl
     by_cases h1 : s.kind = 1 ∨ s.kind = 6 ∨ s.kind = 7 ∨ s.kind = 8
     · have hr : restW s = [writeT s.a] := by unfold restW; rw [if_neg h5,if_neg h12,if_pos h1]
       have c2 : (lineW s).list.getD 2 zS = writeT s.a := by rw [hl,hr]; rfl
       have hB := hB0 3 (by rw [hl,hr]; rfl) (by omega) (by rcases h1 with h | h | h | h <;> rw [h] <;> rfl)
       obtain ⟨a1,a2⟩ := h.a1 (by omega)
       unfold stepR
       rw [hB,if_neg (by simp),k0,if_neg h5,if_pos h1,c2,read_write _ a1 a2,hS]
       have h14 : s.kind = 1 ∨ s.kind = 6 ∨ s.kind = 7 ∨ s.kind = 8 ∨ s.kind = 4 := by omega
       have h4 : ¬ s.kind = 4 := by omega
       simp only [St7.norm,hsub,if_pos h14,if_neg h4]
       simp
     · by_cases h4 : s.kind = 4
       · have hr : restW s = [writeT s.a,writeT s.b] := by unfold restW; rw [if_neg h5,if_neg h12,if_neg h1,if_pos h4]
         have c2 : (lineW s).list.getD 2 zS = writeT s.a := by rw [hl,hr]; rfl
         have c3 : (lineW s).list.getD 3 zS = writeT s.b := by rw [hl,hr]; rfl
         have hB := hB0 4 (by rw [hl,hr]; rfl) (by omega) (by rw [h4]; rfl)
         obtain ⟨a1,a2⟩ := h.a1 (by omega)
         obtain ⟨b1,b2⟩ := h.b1 h4
         unfold stepR
         rw [hB,if_neg (by simp),k0,if_neg h5,if_neg h1,if_pos h4,c2,c3,read_write _ a1 a2,read_write _ b1 b2,hS]
         have h14 : s.kind = 1 ∨ s.kind = 6 ∨ s.kind = 7 ∨ s.kind = 8 ∨ s.kind = 4 := by omega
         simp only [St7.norm,hsub,if_pos h14,if_pos h4]
         simp
       · have hr : restW s = [] := by unfold restW; rw [if_neg h5,if_neg h12,if_neg h1,if_neg h4]
         have hB := hB0 2 (by rw [hl,hr]; rfl) (by omega) (by unfold partsE; rw [if_neg (by omega),if_neg (by omega)]; rfl)
         unfold stepR
         rw [hB,if_neg (by simp),k0,if_neg h5,if_neg h1,if_neg h4,hS]
         have h14 : ¬ (s.kind = 1 ∨ s.kind = 6 ∨ s.kind = 7 ∨ s.kind = 8 ∨ s.kind = 4) := by omega
         simp only [St7.norm,hsub,if_neg h14,if_neg h4]
         simp
theorem T.sames_comm' : ∀ t u : T,t.same u = u.same t := by
 intro t
 induction t using T.ind with | h t ih =>
 have hl : ∀ (l:List T),(∀ x,x ∈ l → ∀ u : T,x.same u = u.same x) → ∀ m : List T,T.sames l m = T.sames m l := by
   intro l
   induction l with
   | nil => intro _ m; cases m <;> rfl
   | cons x r ihr =>
     intro h m
     cases m with
     | nil => rfl
     | cons y s => simp only [T.sames]; rw [h x (by simp) y,ihr (fun z hz => h z (by simp [hz])) s]
 intro u
 rw [T.same_eq,T.same_eq,hl t.args ih u.args]
 have cI : ∀ a b : Int,(a == b) = (b == a) := fun a b => by by_cases h : a = b <;> simp [h,eq_comm]
 have cS : ∀ a b : List UInt8,(a == b) = (b == a) := fun a b => by by_cases h : a = b <;> simp [h,eq_comm]
 rw [cI t.op,cI t.width,cI t.val,cS t.name]
theorem norm_same (s:St7) (h:s.ok) : s.norm.same s = true ∧ s.same s.norm = true := by
 have hr : same2 eqI s.refs s.refs = true := same2_refl _ fun x _ => by simp [eqI]
 have hs1 : same2 Sb.same (s.subs.map Sb.norm) s.subs = true := by
   generalize s.subs = l
   induction l with
   | nil => rfl
   | cons x r ih => rw [List.map_cons,same2,ih]; simp [Sb.same,Sb.norm,T.norm_same]
 have hs2 : same2 Sb.same s.subs (s.subs.map Sb.norm) = true := by
   generalize s.subs = l
   induction l with
   | nil => rfl
   | cons x r ih => rw [List.map_cons,same2,ih]; simp [Sb.same,Sb.norm]; rw [T.sames_comm',T.norm_same]
 have ha1 : (if s.kind = 1 ∨ s.kind = 6 ∨ s.kind = 7 ∨ s.kind = 8 ∨ s.kind = 4 then s.a.norm else T.z).same s.a = true := by
   split
   · exact T.norm_same _
   · rename_i hh; exact h.a0 hh
 have hb1 : (if s.kind = 4 then s.b.norm else T.z).same s.b = true := by
   split
   · exact T.norm_same _
   · rename_i hh; exact h.b0 hh
 have ha2 := ha1
 have hb2 := hb1
 rw [T.sames_comm'] at ha2 hb2
 constructor
 · simp only [St7.same,St7.norm,hr,hs1,ha1,hb1,decide_true,Bool.and_self]
 · simp only [St7.same,St7.norm,hr,hs2,ha2,hb2,decide_true,Bool.and_self]
theorem steps_lines : ∀ (p:List St7) (i:Int),(∀ s,s ∈ p → s.ok) → stepsR i (p.map lineW) = .ok (p.map St7.norm)
 | [],i,_ => rfl
 | s :: r,i,h => by
   rw [List.map_cons,stepsR,step_line s (h s (by simp)),steps_lines r _ fun x hx => h x (by simp [hx])]
   rfl
theorem norms_same : ∀ p : List St7,(∀ s,s ∈ p → s.ok) → same2 St7.same (p.map St7.norm) p = true ∧ same2 St7.same p (p.map St7.norm) = true
 | [],_ => ⟨rfl,rfl⟩
 | s :: r,h => by
   obtain ⟨h1,h2⟩ := norm_same s (h s (by simp))
   obtain ⟨h3,h4⟩ := norms_same r fun x hx => h x (by simp [hx])
   simp only [List.map_cons,same2,h1,h2,h3,h4,Bool.and_self]
   exact ⟨trivial,trivial⟩
end Go.Proofs.YtkofimhnehkdoaaGreatDoor.Rf
end
section
namespace Go.Proofs.YtkofimhnehkdoaaGreatDoor.Rf
section
variable {hp:List HObj} {lo:Nat}
set_option maxHeartbeats 4000000 in
theorem notable_D (t:T) (hw:t.wf) (hp:List HObj) (lo:Nat) (q:Bool) : callD G0 IP n_tt_notable [t.av] hp lo q = some (.ret (.bool (notE t)) hp) := by
 rw [callD_eq]
 have hwf := (T.wf_eq t).1 hw
 cases t with | mk op w v n o as =>
 rw [notE_mk,T.av_eq]
 simp only [T.op,T.width,T.val,T.name,T.o,T.args] at hwf ⊢
 have en := fun hp lo q => name_D (hp := hp) (lo := lo) q n hwf.2.2.2.1
 by_cases h1 : w < 0
 · have h1' : ¬ 0 ≤ w := by omega
   simp [IP_tt_notable,i_tt_notable,h1,h1']
 have h1' : 0 ≤ w := by omega
 by_cases h2 : 64 < w
 · have h2' : ¬ w ≤ 64 := by omega
   simp [IP_tt_notable,i_tt_notable,h1,h1',h2,h2']
 have h2' : w ≤ 64 := by omega
 by_cases h3 : (as.length : Int) = arE op
 · by_cases k1 : op = 1
   · subst k1
     simp [IP_tt_notable,i_tt_notable,arity_D,h1,h1',h2,h2',h3,en]
     cases nameOk n <;> simp
   by_cases k2 : op = 24
   · subst k2
     simp [IP_tt_notable,i_tt_notable,arity_D,h1,h1',h2,h2',h3,en]
     cases nameOk n <;> simp
   by_cases k3 : op = 25
   · subst k3
     simp [IP_tt_notable,i_tt_notable,arity_D,h1,h1',h2,h2',h3,en]
     cases nameOk n <;> simp
   by_cases k4 : op = 2
   · subst k4
     simp [IP_tt_notable,i_tt_notable,arity_D,h1,h1',h2,h2',h3]
     cases n <;> simp
   by_cases k5 : op = 21
   · subst k5
     simp [IP_tt_notable,i_tt_notable,arity_D,h1,h1',h2,h2',h3]
     cases n <;> simp
   rcases n with _ | ⟨c,n'⟩
   · simp [IP_tt_notable,i_tt_notable,arity_D,h1,h1',h2,h2',h3,k1,k2,k3,k4,k5]
   · simp [IP_tt_notable,i_tt_notable,arity_D,h1,h1',h2,h2',h3,k1,k2,k3,k4,k5]
 · simp [IP_tt_notable,i_tt_notable,arity_D,h1,h1',h2,h2',h3]
theorem atom_D (s:List UInt8) (hp:List HObj) (lo:Nat) (q:Bool) : callD G0 IP n_tt_atom [.str s] hp lo q = some (.ret (.agg [.str s,.list [] .nil]) hp) := by
 rw [callD_eq]
 simp [IP_tt_atom,i_tt_atom]
end
end Go.Proofs.YtkofimhnehkdoaaGreatDoor.Rf
end
section
namespace Go.Proofs.YtkofimhnehkdoaaGreatDoor.Rf
theorem right_atom {t:S} (h:t.right = true) (ha:t.atom ≠ []) : t.list = [] ∧ ∀ c,c ∈ t.atom → plainC (c.toNat : Int) = true := by
 rw [S.right_eq,if_neg ha] at h
 simp only [Bool.and_eq_true,List.isEmpty_iff,allPlain,List.all_eq_true] at h
 exact h
theorem plain_name {n:Int} (h:nameC n = true) : plainC n = true := by
 simp only [nameC,lowC,Bool.or_eq_true,Bool.and_eq_true,decide_eq_true_eq] at h
 simp only [plainC,Bool.and_eq_true,decide_eq_true_eq,Bool.not_eq_true',decide_eq_false_iff_not]
 omega
theorem plain_dig {c:UInt8} (h:isDig c = true) : plainC (c.toNat : Int) = true := by
 simp only [isDig,Bool.and_eq_true,decide_eq_true_eq] at h
 simp only [plainC,Bool.and_eq_true,decide_eq_true_eq,Bool.not_eq_true',decide_eq_false_iff_not]
 omega
theorem decI_plain (n:Int) : ∀ c,c ∈ decI n → plainC (c.toNat : Int) = true := fun c hc => plain_dig (decI_digs n c hc)
theorem name_plain {n:List UInt8} (h:nameOk n = true) : ∀ c,c ∈ n → plainC (c.toNat : Int) = true := fun c hc => plain_name ((nameOk_mem h).2.2.2.2 c hc)
theorem aS_right {a:List UInt8} (h:a ≠ []) (hp:∀ c,c ∈ a → plainC (c.toNat : Int) = true) : (aS a).right = true := by
 rw [aS,S.right,if_neg h]
 simp only [List.isEmpty_nil,Bool.true_and,allPlain,List.all_eq_true]
 exact hp
theorem nameE_plain {op:Int} (h:opOk op = true) : nameE op ≠ [] ∧ (nameE op).length ≤ 7 ∧ ∀ c,c ∈ nameE op → plainC (c.toNat : Int) = true := by
 rcases opOk_cases h with rfl | rfl | rfl | rfl | rfl | rfl | rfl | rfl | rfl | rfl | rfl | rfl | rfl | rfl | rfl | rfl | rfl | rfl | rfl | rfl | rfl | rfl | rfl | rfl | rfl | rfl
 all_goals decide +kernel
theorem S.rights_app : ∀ (a b:List S),S.rights (a ++ b) = (S.rights a && S.rights b)
 | [],b => rfl
 | t :: r,b => by simp [S.rights,S.rights_app r b,Bool.and_assoc]
theorem headW_right {op:Int} (h:opOk op = true) (w v:Int) : S.rights (headW op w v) = true := by
 have hn := nameE_plain h
 unfold headW
 simp only [S.rights,aS_right hn.1 hn.2.2,Bool.true_and,S.rights_app]
 have hd : ∀ n,(aS (decI n)).right = true := fun n => aS_right (dec_ne _) (decI_plain n)
 split <;> split <;> simp [S.rights,hd]
mutual
theorem write_right : ∀ t : T,(writeT t).right = true
 | .mk op w v n o as => by
   rw [writeT]
   by_cases h : notE (.mk op w v n o as) = false
   · rw [if_pos h]; rfl
   rw [if_neg h]
   have hN : notE (.mk op w v n o as) = true := by cases hh : notE (.mk op w v n o as) <;> simp_all
   rw [notE_mk] at hN
   simp only [Bool.and_eq_true,decide_eq_true_eq] at hN
   obtain ⟨n0,n1,n2,n3⟩ := hN
   have hop : opOk op = true := arE_ok (by omega)
   have h58 : plainC ((58:UInt8).toNat : Int) = true := by decide
   have nm1 : (op = 1 ∨ op = 24 ∨ op = 25) → ∀ c,c ∈ n ++ 58 :: decI w → plainC (c.toNat : Int) = true := fun e c hc => by
     rw [if_pos e] at n3
     simp only [Bool.and_eq_true,decide_eq_true_eq] at n3
     simp only [List.mem_append,List.mem_cons] at hc
     rcases hc with hc | rfl | hc
     · exact name_plain n3.1 c hc
     · exact h58
     · exact decI_plain w c hc
   by_cases h1 : op = 1
   · rw [if_pos h1]; exact aS_right (by simp) (nm1 (.inl h1))
   rw [if_neg h1]
   by_cases h2 : op = 24
   · rw [if_pos h2]; refine aS_right (by simp) fun c hc => ?_
     rcases List.mem_cons.1 hc with rfl | hc
     · decide
     · exact nm1 (.inr (.inl h2)) c hc
   rw [if_neg h2]
   by_cases h3 : op = 25
   · rw [if_pos h3]; refine aS_right (by simp) fun c hc => ?_
     rcases List.mem_cons.1 hc with rfl | hc
     · decide
     · exact nm1 (.inr (.inr h3)) c hc
   rw [if_neg h3]
   by_cases h4 : op = 2
   · rw [if_pos h4]; refine aS_right (by simp) fun c hc => ?_
     simp only [List.mem_append,List.mem_cons] at hc
     rcases hc with hc | rfl | hc
     · exact decI_plain v c hc
     · exact h58
     · exact decI_plain w c hc
   rw [if_neg h4,S.right,if_pos rfl,S.rights_app,headW_right hop,writes_right as]; rfl
theorem writes_right : ∀ as : List T,S.rights (writeTs as) = true
 | [] => rfl
 | t :: r => by simp [writeTs,S.rights,write_right t,writes_right r]
end
mutual
def T.dep : T → Nat
 | .mk _ _ _ _ _ as => 1 + T.deps as
def T.deps : List T → Nat
 | [] => 0
 | t :: r => max t.dep (T.deps r)
end
theorem T.dep_pos (t:T) : 1 ≤ t.dep := by cases t; simp [T.dep]
theorem aS_depth {a:List UInt8} (h:a ≠ []) : (aS a).depth = 1 := by simp [aS,S.depth,h]
theorem S.depths_app2 : ∀ (a b:List S),S.depths (a ++ b) = max (S.depths a) (S.depths b)
 | [],b => by simp [S.depths]
 | t :: r,b => by simp [S.depths,S.depths_app2 r b]
theorem headW_depth {op:Int} (h:opOk op = true) (w v:Int) : S.depths (headW op w v) = 1 := by
 have hn := nameE_plain h
 have hd : ∀ n,(aS (decI n)).depth = 1 := fun n => aS_depth (dec_ne _)
 unfold headW
 simp only [S.depths,aS_depth hn.1,S.depths_app2]
 split <;> split <;> simp [S.depths,hd]
mutual
theorem write_depth : ∀ t : T,(writeT t).depth ≤ t.dep
 | .mk op w v n o as => by
   have hp := T.dep_pos (.mk op w v n o as)
   rw [writeT]
   by_cases h : notE (.mk op w v n o as) = false
   · rw [if_pos h,aS_depth (by simp)]; exact hp
   rw [if_neg h]
   have hN : notE (.mk op w v n o as) = true := by cases hh : notE (.mk op w v n o as) <;> simp_all
   rw [notE_mk] at hN
   simp only [Bool.and_eq_true,decide_eq_true_eq] at hN
   obtain ⟨n0,n1,n2,n3⟩ := hN
   have hop : opOk op = true := arE_ok (by omega)
   by_cases h1 : op = 1
   · rw [if_pos h1,aS_depth (by simp)]; exact hp
   rw [if_neg h1]
   by_cases h2 : op = 24
   · rw [if_pos h2,aS_depth (by simp)]; exact hp
   rw [if_neg h2]
   by_cases h3 : op = 25
   · rw [if_pos h3,aS_depth (by simp)]; exact hp
   rw [if_neg h3]
   by_cases h4 : op = 2
   · rw [if_pos h4,aS_depth (by simp)]; exact hp
   rw [if_neg h4,S.depth,if_pos rfl,S.depths_app2,headW_depth hop]
   have hne := arE_ne hop h1 h4 h2 h3
   have ih := writes_depth as
   have : 1 ≤ T.deps as := by
     cases as with
     | nil => simp at n2; exact absurd n2.symm hne
     | cons t r => have := T.dep_pos t; simp only [T.deps]; omega
   simp only [T.dep]; omega
theorem writes_depth : ∀ as : List T,S.depths (writeTs as) ≤ T.deps as
 | [] => by simp [writeTs,S.depths,T.deps]
 | t :: r => by
   have a := write_depth t
   have b := writes_depth r
   simp only [writeTs,S.depths,T.deps]; omega
end
theorem decI_len {n:Int} (h:n < 18446744073709551616) : (decI n).length ≤ 20 := dec_len20 (by omega)
theorem aS_text (a:List UInt8) (h:a ≠ []) : (aS a).text = a := by simp [aS,S.text,h]
theorem texts_app2 : ∀ (a b:List S),a ≠ [] → S.texts true (a ++ b) = S.texts true a ++ S.texts false b := by
 have h0 : ∀ (a b:List S),S.texts false (a ++ b) = S.texts false a ++ S.texts false b := by
   intro a
   induction a with
   | nil => intro b; rfl
   | cons x r ih => intro b; simp [S.texts,ih b]
 intro a b h
 cases a with
 | nil => exact absurd rfl h
 | cons x r => simp [S.texts,h0 r b]
theorem headW_len {op w v:Int} (h:opOk op = true) (hw:w < 18446744073709551616) (hv:v < 18446744073709551616) : (S.texts true (headW op w v)).length ≤ 50 := by
 have hn := nameE_plain h
 have l1 := decI_len hw
 have l2 := decI_len hv
 have t1 := aS_text (decI w) (dec_ne _)
 have t2 := aS_text (decI v) (dec_ne _)
 unfold headW
 simp only [S.texts,aS_text _ hn.1]
 by_cases h1 : op = 21
 · simp [h1,S.texts,t1,t2]; rw [h1] at hn; omega
 · by_cases h2 : op = 22 ∨ op = 23
   · simp [h1,h2,S.texts,t1]; omega
   · simp [h1,h2,S.texts]; omega
mutual
theorem write_len : ∀ t : T,t.wf → (writeT t).text.length + 1 ≤ 64 * t.size
 | .mk op w v n o as,hw => by
   simp only [T.wf] at hw
   obtain ⟨_,w2,w3,_,_,_,w7⟩ := hw
   have wv : 0 ≤ v ∧ v < 18446744073709551616 := by simp [Lit.wf,IntKind.min,IntKind.max,IntKind.signed,IntKind.bits] at w3; omega
   have ih := writes_len as w7
   rw [writeT,T.size]
   by_cases h : notE (.mk op w v n o as) = false
   · rw [if_pos h,aS_text _ (by simp)]; simp; omega
   rw [if_neg h]
   have hN : notE (.mk op w v n o as) = true := by cases hh : notE (.mk op w v n o as) <;> simp_all
   rw [notE_mk] at hN
   simp only [Bool.and_eq_true,decide_eq_true_eq] at hN
   obtain ⟨n0,n1,n2,n3⟩ := hN
   have hop : opOk op = true := arE_ok (by omega)
   have l1 := decI_len (n := w) (by omega)
   have l2 := decI_len wv.2
   have nl : (op = 1 ∨ op = 24 ∨ op = 25) → n.length ≤ 16 := fun e => by
     rw [if_pos e] at n3
     simp only [Bool.and_eq_true,decide_eq_true_eq] at n3
     exact (nameOk_mem n3.1).2.1
   by_cases h1 : op = 1
   · have := nl (.inl h1)
     rw [if_pos h1,aS_text _ (by simp)]; simp; omega
   rw [if_neg h1]
   by_cases h2 : op = 24
   · have := nl (.inr (.inl h2))
     rw [if_pos h2,aS_text _ (by simp)]; simp; omega
   rw [if_neg h2]
   by_cases h3 : op = 25
   · have := nl (.inr (.inr h3))
     rw [if_pos h3,aS_text _ (by simp)]; simp; omega
   rw [if_neg h3]
   by_cases h4 : op = 2
   · rw [if_pos h4,aS_text _ (by simp)]; simp; omega
   rw [if_neg h4,S.text,if_pos rfl,texts_app2 _ _ (by simp [headW])]
   have l3 := headW_len (w := w) hop (by omega) wv.2
   simp; omega
theorem writes_len : ∀ as : List T,T.wfs as → (S.texts false (writeTs as)).length ≤ 64 * T.sizes as
 | [],_ => by simp [writeTs,S.texts,T.sizes]
 | t :: r,hw => by
   simp only [T.wfs] at hw
   have a := write_len t hw.1
   have b := writes_len r hw.2
   simp only [writeTs,S.texts,T.sizes,List.length_append]
   simp; omega
end
mutual
theorem write_wf : ∀ t : T,t.wf → (writeT t).wf
 | .mk op w v n o as,hw => by
   simp only [T.wf] at hw
   obtain ⟨_,w2,w3,_,wl,_,w7⟩ := hw
   have wv : 0 ≤ v ∧ v < 18446744073709551616 := by simp [Lit.wf,IntKind.min,IntKind.max,IntKind.signed,IntKind.bits] at w3; omega
   have ih := writes_wf as w7
   have hA : ∀ {a:List UInt8},a.length ≤ 1000 → (aS a).wf := fun h => by simp only [aS,S.wf,S.wfs]; exact ⟨by omega,by simp,by simp,trivial⟩
   rw [writeT]
   by_cases h : notE (.mk op w v n o as) = false
   · rw [if_pos h]; exact hA (by simp)
   rw [if_neg h]
   have hN : notE (.mk op w v n o as) = true := by cases hh : notE (.mk op w v n o as) <;> simp_all
   rw [notE_mk] at hN
   simp only [Bool.and_eq_true,decide_eq_true_eq] at hN
   obtain ⟨n0,n1,n2,n3⟩ := hN
   have hop : opOk op = true := arE_ok (by omega)
   have l1 := decI_len (n := w) (by omega)
   have l2 := decI_len wv.2
   have nl : (op = 1 ∨ op = 24 ∨ op = 25) → n.length ≤ 16 := fun e => by
     rw [if_pos e] at n3
     simp only [Bool.and_eq_true,decide_eq_true_eq] at n3
     exact (nameOk_mem n3.1).2.1
   by_cases h1 : op = 1
   · have := nl (.inl h1)
     rw [if_pos h1]; exact hA (by simp; omega)
   rw [if_neg h1]
   by_cases h2 : op = 24
   · have := nl (.inr (.inl h2))
     rw [if_pos h2]; exact hA (by simp; omega)
   rw [if_neg h2]
   by_cases h3 : op = 25
   · have := nl (.inr (.inr h3))
     rw [if_pos h3]; exact hA (by simp; omega)
   rw [if_neg h3]
   by_cases h4 : op = 2
   · rw [if_pos h4]; exact hA (by simp; omega)
   rw [if_neg h4]
   have hn := nameE_plain hop
   have k1 := hA (a := nameE op) (by omega)
   have k2 := hA (a := decI v) (by omega)
   have k3 := hA (a := decI w) (by omega)
   have hl : (headW op w v).length ≤ 3 := by unfold headW; split <;> split <;> simp
   have i6 : arE op ≤ 3 := by
     unfold arE; split
     · omega
     · split
       · omega
       · split
         · omega
         · split <;> omega
   simp only [S.wf]
   refine ⟨by simp,by rw [List.length_append,writeTs_len]; omega,by simp,?_⟩
   rw [S.wfs_iff]
   intro t ht
   rcases List.mem_append.1 ht with ht | ht
   · have : t = aS (nameE op) ∨ t = aS (decI v) ∨ t = aS (decI w) := by
       unfold headW at ht
       rcases List.mem_cons.1 ht with e | ht
       · exact .inl e
       · rcases List.mem_append.1 ht with ht | ht
         · split at ht
           · simp at ht; exact .inr (.inl ht)
           · simp at ht
         · split at ht
           · simp at ht; exact .inr (.inr ht)
           · simp at ht
     rcases this with rfl | rfl | rfl
     · exact k1
     · exact k2
     · exact k3
   · exact (S.wfs_iff _).1 ih t ht
theorem writes_wf : ∀ as : List T,T.wfs as → S.wfs (writeTs as)
 | [],_ => trivial
 | t :: r,hw => by
   simp only [T.wfs] at hw
   exact ⟨write_wf t hw.1,writes_wf r hw.2⟩
end
end Go.Proofs.YtkofimhnehkdoaaGreatDoor.Rf
end
section
namespace Go.Proofs.YtkofimhnehkdoaaGreatDoor.Rf
theorem ownB_false : ownB false = .no := rfl
theorem S.avs_cons (x:S) (l:List S) : S.avs (x :: l) = x.av :: S.avs l := rfl
theorem aS_av (a:List UInt8) : (aS a).av = .agg [.str a,.list [] .nil] := rfl
abbrev boxS : AV := .box [.str [],.list [] .nil]
section
variable {hp:List HObj} {lo:Nat}
set_option maxHeartbeats 1000000 in
theorem writeT_L (as:List T) (o:Own) (hl10:as.length ≤ 10) : ∀ (r p:List T) (acc:List S),as = p ++ r → acc.length ≤ p.length + 10 →
   (∀ x,x ∈ r → ∀ hp lo q,callD G0 IP n_tt_Write [x.av] hp lo q = some (.ret (writeT x).av hp)) →
   loopD G0 IP lo l_tt_Write_0 ⟨[(2,boxS),(4,.list (S.avs acc) (.own 2 0)),(76,.list (T.avs as) o),(77,.int .i64 as.length),(78,.int .i64 p.length)],hp⟩ =
     some (.exit 1,⟨[(2,boxS),(4,.list (S.avs (acc ++ writeTs r)) (.own 2 0)),(76,.list (T.avs as) o),(77,.int .i64 as.length),(78,.int .i64 as.length),(79,.bool false)],hp⟩)
 | [],p,acc,h,ha,_ => by
   rw [loopD_eq,loopBody]
   simp at h
   subst h
   simp [l_tt_Write_0,writeTs]
 | x :: r,p,acc,h,ha,ih => by
   rw [loopD_eq,loopBody]
   have hlen : as.length = p.length + (r.length + 1) := by rw [h]; simp
   have h1 : (p.length : Int) < (as.length : Int) := by omega
   have hl : p.length < as.length := by omega
   have h2 : as[p.length] = x := by simp [h]
   have hw : IntKind.wrap .i64 ((p.length : Int) + 1) = (p.length : Int) + 1 := wrap_small (by omega) (by omega)
   have e1 := ih x (by simp) hp lo false
   rw [T.av_eq,S.av_eq] at e1
   have e2 := writeT_L as o hl10 r (p ++ [x]) (acc ++ [writeT x]) (by rw [h]; simp) (by simp; omega) (fun y hy => ih y (by simp [hy]))
   simp only [List.length_append,List.length_cons,List.length_nil,Nat.zero_add,Int.natCast_add,Int.natCast_one] at e2
   have hb1 : (acc.length + 1) * 40 ≤ 140737488355328 := by omega
   have hb2 : acc.length + 1 ≤ 9223372036854775807 := by omega
   rw [S.avs_app,show S.avs [writeT x] = [.agg [.str (writeT x).atom,.list (S.avs (writeT x).list) (ownB (writeT x).o)]] by simp [S.avs,S.av_eq]] at e2
   simp [l_tt_Write_0,hl,h1,h2,T.av_eq x,e1,hb1,hb2,hw]
   refine Eq.trans e2 ?_
   simp [writeTs]
set_option maxHeartbeats 4000000 in
theorem writeT_D (t:T) : t.wf → ∀ (hp:List HObj) (lo:Nat) (q:Bool),callD G0 IP n_tt_Write [t.av] hp lo q = some (.ret (writeT t).av hp) := by
 induction t using T.ind with | h t ih =>
 intro hw hp lo q
 have hwf := (T.wf_eq t).1 hw
 have en := notable_D t hw
 rw [callD_eq]
 cases t with | mk op w v n o as =>
 simp only [T.op,T.width,T.val,T.name,T.o,T.args] at hwf ih
 rw [T.av_eq] at en ⊢
 simp only [T.op,T.width,T.val,T.name,T.o,T.args] at en ⊢
 rw [writeT]
 cases hN : notE (.mk op w v n o as) with
 | false =>
   rw [hN] at en
   rw [if_pos rfl]
   simp [IP_tt_Write,i_tt_Write,en,atom_D,aS_av]
 | true =>
   rw [hN] at en
   rw [if_neg (by simp)]
   have hN2 := hN
   rw [notE_mk] at hN2
   simp only [Bool.and_eq_true,decide_eq_true_eq] at hN2
   obtain ⟨n0,n1,n2,n3⟩ := hN2
   have hop : opOk op = true := arE_ok (by omega)
   have eI := intT_D w n0 n1
   have hv : 0 ≤ v ∧ v < 18446744073709551616 := by
     have := hwf.2.2.1
     simp [Lit.wf,IntKind.min,IntKind.max,IntKind.signed,IntKind.bits] at this; omega
   have eD := decT_D v hv.1 hv.2
   have lI := decI_len (n := w) (by omega)
   have lD := decI_len hv.2
   have nl : (op = 1 ∨ op = 24 ∨ op = 25) → n.length ≤ 16 := fun e => by
     rw [if_pos e] at n3
     simp only [Bool.and_eq_true,decide_eq_true_eq] at n3
     exact (nameOk_mem n3.1).2.1
   generalize hdi : decI w = dw at *
   generalize hdv : decI v = dv at *
   by_cases k1 : op = 1
   · subst k1
     have := nl (by simp)
     have b1 : n.length + 1 ≤ 9223372036854775807 := by omega
     have b2 : n.length + 1 + dw.length ≤ 9223372036854775807 := by omega
     rw [if_pos rfl]
     simp [IP_tt_Write,i_tt_Write,en,atom_D,aS_av,eI,b1,b2]
   by_cases k2 : op = 24
   · subst k2
     have := nl (by simp)
     have b1 : 1 + n.length ≤ 9223372036854775807 := by omega
     have b2 : n.length + 1 + 1 ≤ 9223372036854775807 := by omega
     have b3 : n.length + 1 + 1 + dw.length ≤ 9223372036854775807 := by omega
     rw [if_neg (by simp),if_pos rfl]
     simp [IP_tt_Write,i_tt_Write,en,atom_D,aS_av,eI,b1,b2,b3]
   by_cases k3 : op = 25
   · subst k3
     have := nl (by simp)
     have b1 : 1 + n.length ≤ 9223372036854775807 := by omega
     have b2 : n.length + 1 + 1 ≤ 9223372036854775807 := by omega
     have b3 : n.length + 1 + 1 + dw.length ≤ 9223372036854775807 := by omega
     rw [if_neg (by simp),if_neg (by simp),if_pos rfl]
     simp [IP_tt_Write,i_tt_Write,en,atom_D,aS_av,eI,b1,b2,b3]
   by_cases k4 : op = 2
   · subst k4
     have b1 : dv.length + 1 ≤ 9223372036854775807 := by omega
     have b2 : dv.length + 1 + dw.length ≤ 9223372036854775807 := by omega
     rw [if_neg (by simp),if_neg (by simp),if_neg (by simp),if_pos rfl]
     simp [IP_tt_Write,i_tt_Write,en,atom_D,aS_av,eI,eD,b1,b2]
   rw [if_neg k1,if_neg k2,if_neg k3,if_neg k4]
   have hal : as.length ≤ 10 := by have := arE_bd op; omega
   have eN := fun hp lo q => opName_D (hp := hp) (lo := lo) q op
   have eP := fun hp lo q => ttNumerals_D (hp := hp) (lo := lo) q op
   have el := fun (acc:List S) (ha:acc.length ≤ 10) (o:Own) => writeT_L (hp := hp) (lo := hp.length) as o hal as [] acc rfl (by simpa using ha) (fun x hx => ih x hx (hwf.2.2.2.2.2.2 x hx))
   by_cases k5 : op = 21
   · subst k5
     have e1 := el [aS (nameE 21),aS dv,aS dw] (by simp)
     simp [S.avs_cons,aS_av] at e1
     have h2 : (numsN 21:Int) = 2 := rfl
     simp [IP_tt_Write,i_tt_Write,en,atom_D,eI,eD,eN,eP,h2,e1,headW,hdi,hdv,S.av,S.avs_app,S.avs_cons,aS_av,ownB_false,S.avs_closed]
   by_cases k6 : op = 22 ∨ op = 23
   · have hn : numsN op = 1 := by simp [numsN,k5,k6]
     have e1 := el [aS (nameE op),aS dw] (by simp)
     simp [S.avs_cons,aS_av] at e1
     simp [IP_tt_Write,i_tt_Write,en,atom_D,eI,eD,eN,eP,hn,k1,k2,k3,k4,k5,k6,e1,headW,hdi,hdv,S.av,S.avs_app,S.avs_cons,aS_av,ownB_false,S.avs_closed]
   · have hn : numsN op = 0 := by simp [numsN,k5,k6]
     have e1 := el [aS (nameE op)] (by simp)
     simp [S.avs_cons,aS_av] at e1
     simp [IP_tt_Write,i_tt_Write,en,atom_D,eI,eD,eN,eP,hn,k1,k2,k3,k4,k5,k6,e1,headW,hdi,hdv,S.av,S.avs_app,S.avs_cons,aS_av,ownB_false,S.avs_closed]
end
end Go.Proofs.YtkofimhnehkdoaaGreatDoor.Rf
end
section
namespace Go.Proofs.YtkofimhnehkdoaaGreatDoor.Rf
def lineT (s:St7) : List UInt8 := if kindE s.kind = [] then [] else (lineW s).text
section
variable {hp:List HObj} {lo:Nat}
theorem atomP_D (a:List UInt8) (hp:List HObj) (lo:Nat) (q:Bool) : callD G0 IP n_pt_atom [.str a] hp lo q = some (.ret (.agg [.str a,.list [] .nil]) hp) := by
 rw [callD_eq]
 simp [IP_pt_atom,i_pt_atom]
theorem numberP_D (n:Int) (h:i64B n) (hp:List HObj) (lo:Nat) (q:Bool) : callD G0 IP n_pt_number [.int .i64 n] hp lo q = some (.ret (.agg [.str (decZ n),.list [] .nil]) hp) := by
 have e1 := fun hp lo q => itoa_D n h.1 h.2 hp lo q
 rw [callD_eq]
 simp [IP_pt_number,i_pt_number,e1,atomP_D]
theorem listP_D (l:List S) (hp:List HObj) (lo:Nat) (q:Bool) : callD G0 IP n_pt_list [.list (S.avs l) .tight] hp lo q = some (.ret (.agg [.str [],.list (S.avs l) .tight]) hp) := by
 have hc := fun n => S.avs_closed n l
 rw [callD_eq]
 simp [IP_pt_list,i_pt_list,hc]
theorem i64B_of {x:Int} (h:(Lit.int .i64 x).wf = true) : i64B x := by
 simp [Lit.wf,IntKind.min,IntKind.max,IntKind.signed,IntKind.bits] at h
 exact ⟨by omega,by omega⟩
theorem lineT_L0 (B:List AV) (nm:List UInt8) (l:List Int) (o:Own) (hl:l.length ≤ 65536) (hp:List HObj) (lo:Nat) : ∀ (r p:List Int) (acc:List S),l = p ++ r → acc.length = p.length → (∀ x,x ∈ r → i64B x) →
   loopD G0 IP lo l_pt_Line_0 ⟨[(1,.box B),(3,.str nm),(4,.box [.str [],.list (S.avs acc) (ownA acc)]),(17,.list (i64s l) o),(18,.int .i64 l.length),(19,.int .i64 p.length)],hp⟩ =
     some (.exit 0,⟨[(1,.box B),(3,.str nm),(4,.box [.str [],.list (S.avs (acc ++ r.map fun n => aS (decZ n))) (ownA (acc ++ r.map fun n => aS (decZ n)))]),(17,.list (i64s l) o),(18,.int .i64 l.length),(19,.int .i64 l.length),(20,.bool false)],hp⟩)
 | [],p,acc,h,ha,_ => by
   rw [loopD_eq,loopBody]
   simp at h
   subst h
   simp [l_pt_Line_0]
 | x :: r,p,acc,h,ha,hx => by
   rw [loopD_eq,loopBody]
   have hlen : l.length = p.length + (r.length + 1) := by rw [h]; simp
   have h1 : (p.length : Int) < (l.length : Int) := by omega
   have hll : p.length < l.length := by omega
   have h2 : l[p.length] = x := by simp [h]
   have hw : IntKind.wrap .i64 ((p.length : Int) + 1) = (p.length : Int) + 1 := wrap_small (by omega) (by omega)
   have e1 := numberP_D x (hx x (by simp)) hp lo true
   have ih := lineT_L0 B nm l o hl hp lo r (p ++ [x]) (acc ++ [aS (decZ x)]) (by rw [h]; simp) (by simp [ha]) (fun y hy => hx y (by simp [hy]))
   simp only [List.length_append,List.length_cons,List.length_nil,Nat.zero_add,Int.natCast_add,Int.natCast_one] at ih
   have hb1 : (acc.length + 1) * 40 ≤ 140737488355328 := by omega
   have hb2 : acc.length + 1 ≤ 9223372036854775807 := by omega
   rw [S.avs_app,ownA_app,show S.avs [aS (decZ x)] = [.agg [.str (decZ x),.list [] .nil]] from rfl] at ih
   simp [l_pt_Line_0,hll,h1,h2,e1,hb1,hb2,ownA_ok,hw]
   refine Eq.trans ih ?_
   simp
theorem lineT_L1 (B C:List AV) (l:List Sb) (o:Own) (hl:l.length ≤ 65536) (hp:List HObj) (lo:Nat) : ∀ (r p:List Sb) (acc:List S),l = p ++ r → acc.length = p.length → (∀ x,x ∈ r → x.t.wf) →
   loopD G0 IP lo l_pt_Line_1 ⟨[(1,.box B),(7,.box C),(8,.box [.str [],.list (S.avs acc) (ownA acc)]),(41,.list (sbs l) o),(42,.int .i64 l.length),(43,.int .i64 p.length)],hp⟩ =
     some (.exit 3,⟨[(1,.box B),(7,.box C),(8,.box [.str [],.list (S.avs (acc ++ r.map pairW)) (ownA (acc ++ r.map pairW))]),(41,.list (sbs l) o),(42,.int .i64 l.length),(43,.int .i64 l.length),(44,.bool false)],hp⟩)
 | [],p,acc,h,ha,_ => by
   rw [loopD_eq,loopBody]
   simp at h
   subst h
   simp [l_pt_Line_1]
 | x :: r,p,acc,h,ha,hx => by
   rw [loopD_eq,loopBody]
   have hlen : l.length = p.length + (r.length + 1) := by rw [h]; simp
   have h1 : (p.length : Int) < (l.length : Int) := by omega
   have hll : p.length < l.length := by omega
   have h2 : l[p.length] = x := by simp [h]
   have hw : IntKind.wrap .i64 ((p.length : Int) + 1) = (p.length : Int) + 1 := wrap_small (by omega) (by omega)
   have e1 := writeT_D x.t (hx x (by simp)) hp lo true
   have e2 := listP_D [aS x.name,writeT x.t] hp lo true
   have ih := lineT_L1 B C l o hl hp lo r (p ++ [x]) (acc ++ [pairW x]) (by rw [h]; simp) (by simp [ha]) (fun y hy => hx y (by simp [hy]))
   simp only [List.length_append,List.length_cons,List.length_nil,Nat.zero_add,Int.natCast_add,Int.natCast_one] at ih
   have hb1 : (acc.length + 1) * 40 ≤ 140737488355328 := by omega
   have hb2 : acc.length + 1 ≤ 9223372036854775807 := by omega
   rw [S.av_eq,T.av_eq] at e1
   simp only [S.avs,aS_av,S.av_eq (writeT x.t)] at e2
   rw [S.avs_app,ownA_app,show S.avs [pairW x] = [.agg [.str [],.list [.agg [.str x.name,.list [] .nil],.agg [.str (writeT x.t).atom,.list (S.avs (writeT x.t).list) (ownB (writeT x.t).o)]] .no]] by simp [S.avs,pairW,S.av,aS_av,S.av_eq (writeT x.t),ownB_false]] at ih
   simp [l_pt_Line_1,hll,h1,h2,Sb.av_eq x,e1,e2,atomP_D,hb1,hb2,ownA_ok,hw]
   refine Eq.trans ih ?_
   simp
end
end Go.Proofs.YtkofimhnehkdoaaGreatDoor.Rf
end
section
namespace Go.Proofs.YtkofimhnehkdoaaGreatDoor.Rf
def nmS (x:S) : List UInt8 := (x.list.getD 0 zS).atom
def trS (x:S) : S := x.list.getD 1 zS
abbrev sbZ (n:List UInt8) : List AV := [.str n,.int .i64 0,.int .i64 0,.int .u64 0,.str [],.list [] .nil]
def sbZs (l:List S) : List AV := (l.map fun x => sbZ (nmS x)).flatten
theorem sbZs_len (l:List S) : (sbZs l).length = l.length * 6 := by
 induction l with
 | nil => rfl
 | cons x r ih => simp [sbZs] at ih ⊢; omega
theorem sbZs_take (l:List S) : (sbZs l).take (l.length * 6) = sbZs l := by rw [← sbZs_len,List.take_length]
theorem sbZs_app (l:List S) (x:S) : sbZs (l ++ [x]) = sbZs l ++ sbZ (nmS x) := by simp [sbZs]
theorem sbZs_cp (l:List S) : (sbZs l).map AV.cp1 = sbZs l := by
 induction l with
 | nil => rfl
 | cons x r ih =>
   have : sbZs (x :: r) = sbZ (nmS x) ++ sbZs r := by simp [sbZs]
   rw [this,List.map_append,ih]; rfl
def prH (hp:List HObj) : List S → List HObj
 | [] => hp
 | x :: r => hp ++ List.replicate r.length .dead ++ [.cells 0 (sbZs (x :: r))]
def prV (n:Nat) : List S → AV
 | [] => .list [] .nil
 | x :: r => .sref (n + r.length) 0 (r.length + 1) 6
theorem prH_len (hp:List HObj) (x:S) (r:List S) : (prH hp (x :: r)).length = hp.length + r.length + 1 := by simp [prH]; omega
theorem prH_get (hp:List HObj) (x:S) (r:List S) : (prH hp (x :: r))[hp.length + r.length]? = some (.cells 0 (sbZs (x :: r))) := by
 unfold prH
 rw [List.getElem?_append_right (by simp)]
 simp
theorem prH_cons (hp:List HObj) (x:S) (r:List S) : prH hp (x :: r) = hp ++ List.replicate r.length .dead ++ [.cells 0 (sbZs (x :: r))] := rfl
theorem prH_set (hp:List HObj) (x y:S) (r:List S) : (prH hp (x :: r)).set (hp.length + r.length) .dead ++ [.cells 0 (sbZs (x :: r) ++ sbZ (nmS y))] = prH hp (x :: (r ++ [y])) := by
 rw [prH_cons,prH_cons,List.set_append_right _ _ (by simp)]
 have : (hp.length + r.length - (hp ++ List.replicate r.length HObj.dead).length) = 0 := by simp
 rw [this,← List.cons_append,sbZs_app]
 simp [List.replicate_succ']
theorem prV_cons (n:Nat) (x:S) (r:List S) : prV n (x :: r) = .sref (n + r.length) 0 (r.length + 1) 6 := rfl
noncomputable def evB (lo:Nat) (st:St) : Option (Ex × St) := evalC G0 (callD G0 IP) (loopD G0 IP lo) lo l_pt_pairs_0 st
section
variable {lo:Nat} (L TL:List AV) (o to:Own) (j:Nat) (H:List HObj)
theorem pairs_bad (V:AV) (hV:V = .list [] .nil ∨ ∃ id n,V = .sref id 0 n 6) (x:S) (hj:j < L.length) (hx:L[j] = x.av) (hf:x.fit) (hb:pairB x = false) :
   evB lo ⟨[(5,V),(6,.list TL to),(13,.list L o),(14,.int .i64 L.length),(15,.int .i64 j)],H⟩ = some (.ret,⟨[(2,.list [] .nil),(3,.list [] .nil),(4,.bool false)],H⟩) := by
 have hI : (j:Int) < (L.length : Int) := by omega
 by_cases ha : x.atom = []
 · by_cases hx2 : x.list.length = 2
   · match hxl : x.list,hx2 with
     | [a,b],_ =>
       have hab : a.atom = [] := by simpa [pairB,hxl] using hb
       rcases hV with rfl | ⟨id,n,rfl⟩
       · simp [evB,l_pt_pairs_0,hj,hI,hx,S.av_eq x,ha,hxl,S.avs,S.av_eq a,S.av_eq b,hab]
       · simp [evB,l_pt_pairs_0,hj,hI,hx,S.av_eq x,ha,hxl,S.avs,S.av_eq a,S.av_eq b,hab]
   · have hx3 : ¬ (x.list.length : Int) = 2 := by omega
     rcases hV with rfl | ⟨id,n,rfl⟩
     · simp [evB,l_pt_pairs_0,hj,hI,hx,S.av_eq x,ha,hx3]
     · simp [evB,l_pt_pairs_0,hj,hI,hx,S.av_eq x,ha,hx3]
 · have ha2 : x.atom.isEmpty = false := by simpa using ha
   rcases hV with rfl | ⟨id,n,rfl⟩
   · simp [evB,l_pt_pairs_0,hj,hI,hx,S.av_eq x,ha,ha2]
   · simp [evB,l_pt_pairs_0,hj,hI,hx,S.av_eq x,ha,ha2]
theorem pairs_nil (hto:to = .nil ∨ to = .own 2 0) (hsz:okSize 2 TL = true) (x a b:S) (hj:j < L.length) (hx:L[j] = x.av) (hL:L.length ≤ 65536) (hTL:TL.length ≤ 65536) (ha:x.atom = []) (hxl:x.list = [a,b]) (hab:¬ a.atom = []) :
   evB lo ⟨[(5,.list [] .nil),(6,.list TL to),(13,.list L o),(14,.int .i64 L.length),(15,.int .i64 j)],H⟩ =
     some (.normal,⟨[(5,.sref H.length 0 1 6),(6,.list (TL ++ [b.av]) (.own 2 0)),(13,.list L o),(14,.int .i64 L.length),(15,.int .i64 ((j:Int) + 1))],H ++ [.cells 0 (sbZ a.atom)]⟩) := by
 have hI : (j:Int) < (L.length : Int) := by omega
 have hw : IntKind.wrap .i64 ((j:Int) + 1) = (j:Int) + 1 := wrap_small (by omega) (by omega)
 have hb1 : (TL.length + 1) * 40 ≤ 140737488355328 := by omega
 have hb2 : TL.length + 1 ≤ 9223372036854775807 := by omega
 simp [evB,l_pt_pairs_0,hj,hI,hx,S.av_eq x,ha,hxl,S.avs,S.av_eq a,S.av_eq b,hab,hw,hb1,hb2,hto,hsz]
theorem pairs_more (hto:to = .nil ∨ to = .own 2 0) (hsz:okSize 2 TL = true) (x a b:S) (hj:j < L.length) (hx:L[j] = x.av) (hL:L.length ≤ 65536) (hTL:TL.length ≤ 65536) (ha:x.atom = []) (hxl:x.list = [a,b]) (hab:¬ a.atom = [])
   (id n:Nat) (C:List AV) (hg:H[id]? = some (.cells 0 C)) (hn:n ≤ 65536) (hid:lo ≤ id) (hc:n * 6 ≤ C.length) (htk:C.take (n * 6) = C) (hcp:C.map AV.cp1 = C) :
   evB lo ⟨[(5,.sref id 0 n 6),(6,.list TL to),(13,.list L o),(14,.int .i64 L.length),(15,.int .i64 j)],H⟩ =
     some (.normal,⟨[(5,.sref H.length 0 (n + 1) 6),(6,.list (TL ++ [b.av]) (.own 2 0)),(13,.list L o),(14,.int .i64 L.length),(15,.int .i64 ((j:Int) + 1))],H.set id .dead ++ [.cells 0 (C ++ sbZ a.atom)]⟩) := by
 have hI : (j:Int) < (L.length : Int) := by omega
 have hw : IntKind.wrap .i64 ((j:Int) + 1) = (j:Int) + 1 := wrap_small (by omega) (by omega)
 have hb1 : (TL.length + 1) * 40 ≤ 140737488355328 := by omega
 have hb2 : TL.length + 1 ≤ 9223372036854775807 := by omega
 have hb3 : (n + 1) * 80 ≤ 140737488355328 := by omega
 have hb4 : n + 1 ≤ 9223372036854775807 := by omega
 simp [evB,l_pt_pairs_0,hj,hI,hx,S.av_eq x,ha,hxl,S.avs,S.av_eq a,S.av_eq b,hab,hw,hb1,hb2,hto,hsz,hg,hid,hc,htk,hcp,hb3,hb4]
end
def outPairs (hp:List HObj) (L p r:List S) (o:Own) (st:Ex × St) : Prop :=
 if r.all pairB = true then st = (.exit 0,⟨[(5,prV hp.length (p ++ r)),(6,.list (S.avs ((p ++ r).map trS)) (ownA ((p ++ r).map trS))),(13,.list (S.avs L) o),(14,.int .i64 L.length),(15,.int .i64 L.length),(16,.bool false)],prH hp (p ++ r)⟩)
 else ∃ hp',st = (.ret,⟨[(2,.list [] .nil),(3,.list [] .nil),(4,.bool false)],hp'⟩)
section
variable {hp:List HObj} {lo:Nat}
theorem prV_or (n:Nat) (l:List S) : prV n l = .list [] .nil ∨ ∃ id k,prV n l = .sref id 0 k 6 := by
 cases l with
 | nil => exact .inl rfl
 | cons x r => exact .inr ⟨_,_,rfl⟩
theorem pairs_L (L:List S) (o:Own) (hL:L.length ≤ 65536) (hlo:lo ≤ hp.length) : ∀ (r p:List S),L = p ++ r → (∀ x,x ∈ r → x.fit) →
   ∃ st,loopD G0 IP lo l_pt_pairs_0 ⟨[(5,prV hp.length p),(6,.list (S.avs (p.map trS)) (ownA (p.map trS))),(13,.list (S.avs L) o),(14,.int .i64 L.length),(15,.int .i64 p.length)],prH hp p⟩ = some st ∧ outPairs hp L p r o st
 | [],p,h,_ => by
   simp at h
   subst h
   refine ⟨(.exit 0,⟨[(5,prV hp.length L),(6,.list (S.avs (L.map trS)) (ownA (L.map trS))),(13,.list (S.avs L) o),(14,.int .i64 L.length),(15,.int .i64 L.length),(16,.bool false)],prH hp L⟩),?_,?_⟩
   · rw [loopD_eq,loopBody]
     cases L with
     | nil => simp [l_pt_pairs_0,prV]
     | cons y p' => simp [l_pt_pairs_0,prV_cons]
   · rw [outPairs,if_pos (by rfl)]; simp
 | x :: r,p,h,hx => by
   have xf := hx x (by simp)
   have hlen : L.length = p.length + (r.length + 1) := by rw [h]; simp
   have hj : p.length < (S.avs L).length := by simp; omega
   have h2 : (S.avs L)[p.length] = x.av := by simp [h]
   have hL2 : (S.avs L).length ≤ 65536 := by simpa using hL
   rw [loopD_eq,loopBody]
   cases hb : pairB x with
   | false =>
     have e1 := pairs_bad (lo := lo) (S.avs L) (S.avs (p.map trS)) o (ownA (p.map trS)) p.length (prH hp p) (prV hp.length p) (prV_or _ _) x hj h2 xf hb
     rw [S.avs_len,evB] at e1
     refine ⟨(.ret,⟨[(2,.list [] .nil),(3,.list [] .nil),(4,.bool false)],prH hp p⟩),?_,?_⟩
     · rw [e1]
     · rw [outPairs,if_neg (by simp [hb])]; exact ⟨_,rfl⟩
   | true =>
     obtain ⟨a,b,hxl⟩ := pairB_two hb
     have ha : x.atom = [] := by
       by_cases ha : x.atom = []
       · exact ha
       · have := ((S.fit_eq x).1 xf).2.2.1 ha; rw [hxl] at this; cases this
     have hab : ¬ a.atom = [] := by simpa [pairB,hxl] using hb
     have hn : nmS x = a.atom := by unfold nmS; rw [hxl]; rfl
     have ht : trS x = b := by unfold trS; rw [hxl]; rfl
     obtain ⟨st,hs1,hs2⟩ := pairs_L L o hL hlo r (p ++ [x]) (by rw [h]; simp) (fun y hy => hx y (by simp [hy]))
     refine ⟨st,?_,?_⟩
     rotate_left
     · unfold outPairs at hs2 ⊢
       simp only [List.append_assoc,List.singleton_append] at hs2
       rw [List.all_cons,hb,Bool.true_and]
       exact hs2
     simp only [List.map_append,List.map_cons,List.map_nil,S.avs_app,ownA_app,ht,show S.avs [b] = [b.av] from rfl,List.length_append,List.length_cons,List.length_nil,Nat.zero_add,Int.natCast_add,Int.natCast_one] at hs1
     cases p with
     | nil =>
       have e1 := pairs_nil (lo := lo) (S.avs L) [] o .nil 0 hp (.inl rfl) rfl x a b hj h2 hL2 (by simp) ha hxl hab
       rw [S.avs_len,evB] at e1
       simp only [List.map_nil,S.avs_nil,prH,prV,List.length_nil,show ownA [] = .nil from rfl] at hs1 ⊢
       rw [e1]
       simp only [List.nil_append,prH,prV,List.length_nil,Nat.add_zero,sbZs,hn,List.map_cons,List.map_nil,List.flatten_cons,List.flatten_nil,List.append_nil,List.replicate_zero,Nat.zero_add,S.avs_nil] at hs1
       exact hs1
     | cons y p' =>
       have e1 := pairs_more (lo := lo) (S.avs L) (S.avs ((y :: p').map trS)) o (ownA ((y :: p').map trS)) (y :: p').length (prH hp (y :: p')) (ownA_ok _) (by simp) x a b hj h2 hL2 (by simp at hlen ⊢; omega) ha hxl hab
         (hp.length + p'.length) (p'.length + 1) (sbZs (y :: p')) (prH_get hp y p') (by simp at hlen; omega) (by omega) (by rw [sbZs_len]; simp) (sbZs_take (y :: p')) (sbZs_cp _)
       have hset := prH_set hp y x p'
       rw [hn] at hset
       rw [S.avs_len,evB,hset,prH_len] at e1
       rw [prV_cons,e1]
       simp only [List.cons_append,prV_cons,List.length_append,List.length_cons,List.length_nil,Nat.zero_add,List.map_cons] at hs1 ⊢
       exact hs1
theorem pairs_D (e:S) (he:e.fit) (hp:List HObj) (lo:Nat) (hlo:lo ≤ hp.length) : ∃ hp',callD G0 IP n_pt_pairs [e.av] hp lo false =
   some (.ret (if namedB e = true then .tup [prV hp.length e.list,.list (S.avs (e.list.map trS)) (ownA (e.list.map trS)),.bool true] else .tup [.list [] .nil,.list [] .nil,.bool false]) hp') ∧ (namedB e = true → hp' = prH hp e.list) := by
 have hf := (S.fit_eq e).1 he
 rw [callD_eq,S.av_eq]
 by_cases ha : e.atom = []
 · obtain ⟨st,hs1,hs2⟩ := pairs_L (hp := hp) (lo := lo) e.list (ownB e.o) hf.2.1 hlo e.list [] rfl hf.2.2.2
   simp only [List.map_nil,S.avs_nil,prH,prV,List.length_nil,show ownA [] = .nil from rfl,Int.natCast_zero] at hs1
   unfold outPairs at hs2
   by_cases hb : e.list.all pairB = true
   · rw [if_pos hb] at hs2
     subst hs2
     have hn : namedB e = true := by simp only [namedB,hb,ha]; rfl
     refine ⟨prH hp e.list,?_,fun _ => rfl⟩
     rw [if_pos hn]
     simp only [List.nil_append] at hs1
     cases hl : e.list with
     | nil => rw [hl] at hs1; simp [IP_pt_pairs,i_pt_pairs,ha,hl,prV,prH] at hs1 ⊢; simp [hs1]
     | cons y r =>
       rw [hl] at hs1
       rw [← S.avs_len (y :: r)] at hs1
       simp only [prV_cons] at hs1 ⊢
       generalize prH hp (y :: r) = H at *
       generalize hp.length + r.length = id at *
       generalize r.length + 1 = n at *
       generalize S.avs ((y :: r).map trS) = X at *
       generalize (ownA ((y :: r).map trS)) = ox at *
       generalize S.avs (y :: r) = Y at *
       simp [IP_pt_pairs,i_pt_pairs,ha,hl,hs1]
   · rw [if_neg hb] at hs2
     obtain ⟨hp',rfl⟩ := hs2
     have hn : ¬ namedB e = true := by simp only [namedB]; intro h; simp only [Bool.and_eq_true] at h; exact hb h.1
     refine ⟨hp',?_,fun h => absurd h hn⟩
     rw [if_neg hn]
     simp [IP_pt_pairs,i_pt_pairs,ha,hs1]
 · have ha2 : e.atom.isEmpty = false := by simpa using ha
   have hn : ¬ namedB e = true := by simp only [namedB]; intro h; simp only [Bool.and_eq_true] at h; simp [ha,ha2] at h
   refine ⟨hp,?_,fun h => absurd h hn⟩
   rw [if_neg hn]
   simp [IP_pt_pairs,i_pt_pairs,ha,ha2]
end
end Go.Proofs.YtkofimhnehkdoaaGreatDoor.Rf
end
