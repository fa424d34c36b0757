/- A part of the proof: see the last text. -/
import Derived.Test.YtkofimhnehkdoaaGreatDoorRcG14
import Derived.ProofKit
import Derived.ChangeOld
import Derived.SizedLaws
import Derived.Carry
import Derived.ChangeShapes
import Derived.ShutString
import Derived.WalkKit
import Derived.KernelRfl
set_option linter.unusedVariables false
set_option linter.unusedSimpArgs false
section
namespace Go.Proofs.YtkofimhnehkdoaaGreatDoor.Rf
def gh0 (W:World) : Gh := ⟨fun b _ => if b < W.heap.size then .imm else .out,[],fun _ => 0⟩
theorem gh0_imm {W:World} {b o:Nat} (h:b < W.heap.size) : (gh0 W).ow b o = .imm := if_pos h
def noOwn : AV → Bool
 | .list _ (.own _ _) => false
 | .tup _ => false
 | v => v.plain
def ArgTy {H:Type} (P:Program) (t:TypeId) (v:AV) (d:DataW H) : Prop := ∃ n cs,v = elemAV P t cs ∧ HasTy P n t cs d
inductive ArgsTy {H:Type} (P:Program) : List TypeId → List AV → List (DataW H) → Prop
 | nil : ArgsTy P [] [] []
 | cons {t:TypeId} {v:AV} {d:DataW H} {ts:List TypeId} {vs:List AV} {ds:List (DataW H)} : ArgTy P t v d → ArgsTy P ts vs ds → ArgsTy P (t :: ts) (v :: vs) (d :: ds)
section
variable {H:Type} {enc:TypeId × Value → H} {P:Program} {W:World} {base:Nat}
theorem arg_V {S : List TypeId} (hS:covS P S = true) {t:TypeId} (ht:t ∈ S) {v:Value} {d:DataW H} {p:List MemPlace} (hv:Value.okWide P W .any base t v) (h:DataW.Trod enc P W 0 (fun _ => true) true t v d p) :
   ∃ av,V (gh0 W) W av v ∧ noOwn av = true ∧ ArgTy P t av d := by
 obtain ⟨fuel,hf⟩ := h
 obtain ⟨avs,v1,v2,v3,v4⟩ := trod_V (g := gh0 W) hS (fun b o h => gh0_imm h) fuel t _ _ ht hf
 refine ⟨elemAV P t avs,?_,?_,fuel,avs,rfl,v3⟩
 all_goals
   have hc : covT P S t = true := by simp only [covS,List.all_eq_true] at hS; exact hS t ht
   unfold covT at hc
   unfold Value.okWide at hv
   unfold elemAV aggTy
   cases fuel with
   | zero => exact v3.elim
   | succ n =>
     simp only [HasTy] at v3
     cases hu : P.underlying t with
     | none => simp [hu] at hc
     | some de =>
       rw [hu] at v3 hc hv
       cases de <;> simp at hc
       case' bool => obtain ⟨b,rfl,_⟩ := v3
       case' int k => obtain ⟨b,rfl,_⟩ := v3
       case' string => obtain ⟨b,rfl,_⟩ := v3
       case' slice e => rcases v3 with ⟨rfl,_⟩ | ⟨xs,_,_,rfl,_⟩
       all_goals simp only [Bool.false_eq_true,if_false,if_true,List.headD]
       all_goals first
         | rfl
         | (obtain ⟨cs,rfl,_⟩ := hv
            simp only [V]
            exact ⟨cs.toList,by simp,by simpa [Value.cells] using v1,by simpa [Value.cells] using v2⟩)
         | (have hna : v.cells = #[v] := by
              cases v <;> first | rfl | (simp [Cell.okWide,Cell.ok,hu] at hv)
            rw [hna] at v1
            simp only [VS] at v1
            obtain ⟨u,r,e,hv1,_⟩ := v1
            simp at e
            rw [e.1]; exact hv1)
theorem args_V {S:List TypeId} (hS:covS P S = true) : ∀ {ts:List TypeId} {vs:List Value} {ds:List (DataW H)} {ps:List MemPlace},(∀ t,t ∈ ts → t ∈ S) → (∀ (j:Nat) t v,ts[j]? = some t → vs[j]? = some v → Value.okWide P W .any base t v) → DataW.TrodAll enc P W 0 (fun _ => true) true ts vs ds ps →
   ∃ avs,VS (gh0 W) W avs vs ∧ avs.all noOwn = true ∧ ArgsTy P ts avs ds
 | [],[],[],_,_,_,_ => ⟨[],by simp [VS],rfl,.nil⟩
 | t :: ts,v :: vs,d :: ds,ps,ht,hv,⟨p,q,h1,h2,_⟩ => by
   obtain ⟨av,a1,a2,a3⟩ := arg_V hS (ht t (by simp)) (hv 0 t v rfl rfl) h1
   obtain ⟨avs,b1,b2,b3⟩ := args_V hS (fun x hx => ht x (by simp [hx])) (fun j t' v' a b => hv (j + 1) t' v' (by simpa using a) (by simpa using b)) h2
   exact ⟨av :: avs,by simp only [VS]; exact ⟨v,vs,rfl,a1,b1⟩,by simp [a2,b2],.cons a3 b3⟩
 | [],[],_ :: _,_,_,_,h => h.elim
 | [],_ :: _,_,_,_,_,h => h.elim
 | _ :: _,[],_,_,_,_,h => h.elim
 | _ :: _,_ :: _,[],_,_,_,h => h.elim
theorem trodAll_len : ∀ {ts:List TypeId} {vs:List Value} {ds:List (DataW H)} {ps:List MemPlace} {sp:Nat → Bool} {held:Bool},DataW.TrodAll enc P W base sp held ts vs ds ps → ds.length = ts.length ∧ vs.length = ts.length
 | [],[],[],_,_,_,_ => ⟨rfl,rfl⟩
 | t :: ts,v :: vs,d :: ds,_,_,_,⟨_,_,_,h,_⟩ => by
   obtain ⟨h1,h2⟩ := trodAll_len h; simp [h1,h2]
 | [],[],_ :: _,_,_,_,h => h.elim
 | [],_ :: _,_,_,_,_,h => h.elim
 | _ :: _,[],_,_,_,_,h => h.elim
 | _ :: _,_ :: _,[],_,_,_,h => h.elim
theorem args_back {W' : World} (hl:laidOutB P = true) (hb:RowKit.Below W.heap.size W W') : ∀ {ts:List TypeId} {vs:List Value} {ds:List (DataW H)} {ps:List MemPlace},(∀ t,t ∈ ts → P.readableRec t = true ∧ t < P.types.size) → DataW.TrodAll enc P W 0 (fun _ => true) true ts vs ds ps → DataW.TrodAll enc P W' 0 (fun b => decide (b < W.heap.size)) true ts vs ds ps
 | [],[],[],_,_,h => h
 | t :: ts,v :: vs,d :: ds,ps,ht,⟨p,q,h1,h2,h3⟩ => by
   obtain ⟨r1,r2⟩ := ht t (by simp)
   refine ⟨p,q,RowKit.Below.trod hl r1 r2 h1 hb ?_,args_back hl hb (fun x hx => ht x (by simp [hx])) h2,h3⟩
   obtain ⟨m,hm⟩ := h1
   exact DataW.trod_lt m _ _ _ hm
 | [],[],_ :: _,_,_,h => h.elim
 | [],_ :: _,_,_,_,h => h.elim
 | _ :: _,[],_,_,_,h => h.elim
 | _ :: _,_ :: _,[],_,_,h => h.elim
end
end Go.Proofs.YtkofimhnehkdoaaGreatDoor.Rf
end
section
namespace Go.Proofs.YtkofimhnehkdoaaGreatDoor.Rf
section
variable {H:Type} {P:Program}
theorem HasTy.int {n:Nat} {t:TypeId} {k:IntKind} {cs:List AV} {d:DataW H} (hu:P.underlying t = some (.int k)) (h:HasTy P n t cs d) : ∃ m,cs = [.int k m] ∧ (Lit.int k m).wf = true := by
 cases n with
 | zero => exact h.elim
 | succ n => simp only [HasTy,hu] at h; obtain ⟨m,h1,h2,_⟩ := h; exact ⟨m,h1,h2⟩
theorem ArgTy.int {t:TypeId} {k:IntKind} {v:AV} {d:DataW H} (hu:P.underlying t = some (.int k)) (h:ArgTy P t v d) : ∃ m,v = .int k m ∧ (Lit.int k m).wf = true := by
 obtain ⟨n,cs,rfl,h⟩ := h
 obtain ⟨m,rfl,hm⟩ := h.int hu
 exact ⟨m,by unfold elemAV aggTy; rw [hu]; rfl,hm⟩
theorem ArgsTy.cons' {t:TypeId} {ts:List TypeId} {avs:List AV} {ds:List (DataW H)} (h:ArgsTy P (t :: ts) avs ds) : ∃ v d vs ds',avs = v :: vs ∧ ds = d :: ds' ∧ ArgTy P t v d ∧ ArgsTy P ts vs ds' := by
 cases h with
 | cons h1 h2 => exact ⟨_,_,_,_,rfl,rfl,h1,h2⟩
theorem ArgsTy.nil' {avs:List AV} {ds:List (DataW H)} (h:ArgsTy P [] avs ds) : avs = [] ∧ ds = [] := by
 cases h; exact ⟨rfl,rfl⟩
end
end Go.Proofs.YtkofimhnehkdoaaGreatDoor.Rf
end
section
namespace Go.Proofs.YtkofimhnehkdoaaGreatDoor.Rf
inductive IT where
 | leaf
 | node (k:Nat) (fn:IFun) (l r:IT)
def IT.get : IT → Nat → Option IFun
 | .leaf,_ => none
 | .node k fn l r,f => bif Nat.beq f k then some fn else bif Nat.blt f k then l.get f else r.get f
def IT.all (p:Nat → IFun → Bool) : IT → Bool
 | .leaf => true
 | .node k fn l r => p k fn && (l.all p && r.all p)
theorem IT.all_get {p:Nat → IFun → Bool} : ∀ {t:IT},t.all p = true → ∀ {f fn},t.get f = some fn → p f fn = true
 | .leaf,_,f,fn,h => by simp [IT.get] at h
 | .node k g l r,ha,f,fn,h => by
   simp only [IT.all,Bool.and_eq_true] at ha
   simp only [IT.get] at h
   cases hk : Nat.beq f k with
   | true =>
     rw [hk] at h; simp only [cond_true] at h; cases h
     rw [Nat.eq_of_beq_eq_true hk]; exact ha.1
   | false =>
     rw [hk] at h; simp only [cond_false] at h
     cases hb : Nat.blt f k with
     | true => rw [hb] at h; exact IT.all_get ha.2.1 h
     | false => rw [hb] at h; exact IT.all_get ha.2.2 h
end Go.Proofs.YtkofimhnehkdoaaGreatDoor.Rf
end
