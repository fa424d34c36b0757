/- A part of the proof: see the last text. -/
import Derived.Stop.LaidErr
import Derived.LaidSub
import Derived.Test.YtkofimhnehkdoaaGreatDoorRcG16
set_option linter.unusedVariables false
set_option linter.unusedSimpArgs false
section
namespace Go.Proofs.YtkofimhnehkdoaaGreatDoor.Rf
def CallLe (c d:CallF) : Prop := ∀ f vs hp lo q r,c f vs hp lo q = some r → d f vs hp lo q = some r
def LoopLe (c d:LoopF) : Prop := ∀ b st r,c b st = some r → d b st = some r
section
variable {G:Nat → Option (List AV)} {c d:CallF} {lo:Nat}
theorem evalOp_mono (h:CallLe c d) {o:IOp} {st:St} {r:OpR} (e:evalOp G c lo o st = some r) : evalOp G d lo o st = some r := by
 cases o
 case call f xs q =>
   simp only [evalOp] at e ⊢
   split at e
   · cases e
   · rename_i hp
     rw [if_neg hp]
     split at e
     · split at e
       · cases e
       · rename_i hpc
         rw [if_neg hpc]
         split at e
         · rename_i hc; rw [h _ _ _ _ _ _ hc]; exact e
         · rename_i hc; rw [h _ _ _ _ _ _ hc]; exact e
         · cases e
     · cases e
 all_goals exact e
theorem evalOps_mono (h:CallLe c d) : ∀ {os:List IOper} {st:St} {r:Ex × St},evalOps G c lo os st = some r → evalOps G d lo os st = some r
 | [],st,r,e => e
 | o :: os,st,r,e => by
   simp only [evalOps] at e ⊢
   split at e
   · split at e
     · rename_i ho; rw [evalOp_mono h ho]
       split at e
       · rename_i hp; simp only [hp]; exact evalOps_mono h e
       · cases e
     · rename_i ho; rw [evalOp_mono h ho]; exact e
     · cases e
   · split at e
     · rename_i hp; exact evalOps_mono h e
     · cases e
   · cases e
theorem evalDraw_mono (h:CallLe c d) {ops:List IOper} {pans:List Nat} : ∀ {ord:List Nat} {st:St} {r:Ex × St},evalDraw G c lo ops pans ord st = some r → evalDraw G d lo ops pans ord st = some r
 | [],st,r,e => e
 | i :: ord,st,r,e => by
   simp only [evalDraw] at e ⊢
   split at e
   · cases e
   · split at e
     · rename_i ho; rw [evalOps_mono h ho]; exact evalDraw_mono h e
     · rename_i ho; rw [evalOps_mono h ho]; exact e
     · cases e
theorem evalC_mono (h:CallLe c d) {l m:LoopF} (hl:LoopLe l m) : ∀ {x:ICode} {st:St} {r:Ex × St},evalC G c l lo x st = some r → evalC G d m lo x st = some r := by
 intro x
 induction x with
 | skip => intro st r e; exact e
 | region ops live =>
   intro st r e
   simp only [evalC] at e ⊢
   split at e
   · rename_i ho; rw [evalOps_mono h ho]; exact e
   · rename_i hne
     rw [evalOps_mono h e]
     split
     · rename_i s1 hh; cases hh; exact absurd e (by simpa using hne s1)
     · rfl
 | draw ops ord pans live =>
   intro st r e
   simp only [evalC] at e ⊢
   cases hb : evalDraw G c lo ops pans ord st with
   | none => rw [hb] at e; cases e
   | some x => rw [evalDraw_mono h hb]; rw [hb] at e; exact e
 | seq a b iha ihb =>
   intro st r e
   simp only [evalC] at e ⊢
   split at e
   · rename_i ho; rw [iha ho]; exact ihb e
   · rename_i hne
     rw [iha e]
     split
     · rename_i s1 hh; cases hh; exact absurd e (by simpa using hne s1)
     · rfl
 | cond c a b iha ihb =>
   intro st r e
   simp only [evalC] at e ⊢
   split at e
   · split at e
     · rename_i h1; rw [if_pos h1]; exact iha e
     · rename_i h1; rw [if_neg h1]; exact ihb e
   · cases e
 | block id b ih =>
   intro st r e
   simp only [evalC] at e ⊢
   split at e
   · rename_i ho; rw [ih ho]; exact e
   · rename_i hne
     rw [ih e]
     split
     · rename_i i s1 hh; cases hh; exact absurd e (by simpa using hne i s1)
     · rfl
 | loop b ih => intro st r e; exact hl _ _ _ e
 | exit id => intro st r e; exact e
 | ret => intro st r e; exact e
 | stuck => intro st r e; exact e
theorem evalRecv_mono (h:CallLe c d) {l m:LoopF} (hl:LoopLe l m) {IP:IProg} {f:Nat} {caps:List AV} {hp:List HObj} {v:AV} {r:List HObj} (e:evalRecv G IP c l lo f caps hp v = some r) : evalRecv G IP d m lo f caps hp v = some r := by
 simp only [evalRecv] at e ⊢
 split at e
 · cases e
 · split at e
   · split at e
     · cases e
     · rename_i hc
       rw [if_neg hc]
       split at e
       · rename_i ho; rw [evalC_mono h hl ho]; exact e
       · rename_i ho; rw [evalC_mono h hl ho]; exact e
       · cases e
   · cases e
theorem evalFin1_mono (h:CallLe c d) {l m:LoopF} (hl:LoopLe l m) {IP:IProg} {ds:DSpec} {s3:St} {v:AV} {r:Ex × St} (e:evalFin1 G IP c l lo ds s3 v = some r) : evalFin1 G IP d m lo ds s3 v = some r := by
 simp only [evalFin1] at e ⊢
 split at e
 · split at e
   · rename_i h4; rw [evalRecv_mono h hl h4]; exact e
   · cases e
 · cases e
theorem evalFin_mono (h:CallLe c d) {l m:LoopF} (hl:LoopLe l m) {IP:IProg} {ds:DSpec} {b:ICode} {st:St} {r:Ex × St} (e:evalFin G IP c l lo ds (evalC G c l lo b st) = some r) : evalFin G IP d m lo ds (evalC G d m lo b st) = some r := by
 cases hb : evalC G c l lo b st with
 | none => rw [hb] at e; simp [evalFin] at e
 | some x =>
   rw [evalC_mono h hl hb]
   rw [hb] at e
   obtain ⟨ex,s3⟩ := x
   cases ex <;> simp only [evalFin] at e ⊢ <;> first | exact evalFin1_mono h hl e | (cases e; done)
theorem evalF_mono (h:CallLe c d) {l m:LoopF} (hl:LoopLe l m) {IP:IProg} {fn:IFun} {st:St} {r:Ex × St} (e:evalF G IP c l lo fn st = some r) : evalF G IP d m lo fn st = some r := by
 simp only [evalF] at e ⊢
 split at e
 · exact evalC_mono h hl e
 · split at e
   · rename_i ho
     rw [evalC_mono h hl ho]
     simp only
     split at e
     · rename_i hc; rw [if_pos hc]; exact evalFin_mono h hl e
     · cases e
   · rename_i hne
     rw [evalC_mono h hl e]
     split
     · rename_i s1 hh; cases hh; exact absurd e (by simpa using hne s1)
     · rfl
theorem run_succ (IP:IProg) : ∀ k,CallLe (run G IP k).1 (run G IP (k + 1)).1 ∧ ∀ lo,LoopLe ((run G IP k).2 lo) ((run G IP (k + 1)).2 lo)
 | 0 => ⟨fun f vs hp lo q r e => by simp [run] at e,fun lo b st r e => by simp [run] at e⟩
 | k + 1 => by
   obtain ⟨h1,h2⟩ := run_succ IP k
   refine ⟨fun f vs hp lo q r e => ?_,fun lo b st r e => ?_⟩
   · rw [show (run G IP (k + 1)).1 = callBody G IP (run G IP k).1 (run G IP k).2 from rfl] at e
     rw [show (run G IP (k + 1 + 1)).1 = callBody G IP (run G IP (k + 1)).1 (run G IP (k + 1)).2 from rfl]
     simp only [callBody] at e ⊢
     split at e
     · cases e
     · rename_i fn hfn
       split at e
       · cases e
       · rename_i hc
         rw [if_neg hc]
         split at e
         · rename_i ho; rw [evalF_mono h1 (h2 _) ho]; exact e
         · rename_i ho; rw [evalF_mono h1 (h2 _) ho]; exact e
         · rename_i ho; rw [evalF_mono h1 (h2 _) ho]; exact e
         · cases e
   · rw [show (run G IP (k + 1)).2 lo = loopBody G (run G IP k).1 (run G IP k).2 lo from rfl] at e
     rw [show (run G IP (k + 1 + 1)).2 lo = loopBody G (run G IP (k + 1)).1 (run G IP (k + 1)).2 lo from rfl]
     simp only [loopBody] at e ⊢
     split at e
     · rename_i ho; rw [evalC_mono h1 (h2 _) ho]; exact h2 _ _ _ _ e
     · rename_i hne
       rw [evalC_mono h1 (h2 _) e]
       split
       · rename_i s1 hh; cases hh; exact absurd e (by simpa using hne s1)
       · rfl
theorem run_mono {IP:IProg} {k k' : Nat} (h:k ≤ k') : CallLe (run G IP k).1 (run G IP k').1 ∧ ∀ lo,LoopLe ((run G IP k).2 lo) ((run G IP k').2 lo) := by
 induction h with
 | refl => exact ⟨fun _ _ _ _ _ _ e => e,fun _ _ _ _ e => e⟩
 | step h ih =>
   obtain ⟨a,b⟩ := run_succ (G := G) IP _
   exact ⟨fun f vs hp lo q r e => a _ _ _ _ _ _ (ih.1 _ _ _ _ _ _ e),fun lo x st r e => b lo _ _ _ (ih.2 lo _ _ _ e)⟩
end
end Go.Proofs.YtkofimhnehkdoaaGreatDoor.Rf
end
section
namespace Go.Proofs.YtkofimhnehkdoaaGreatDoor.Rf
section
variable (G:Nat → Option (List AV)) (IP:IProg)
open Classical in
noncomputable def callD : CallF := fun f vs hp lo q => if h : ∃ k r,(run G IP k).1 f vs hp lo q = some r then some h.choose_spec.choose else none
open Classical in
noncomputable def loopD (lo:Nat) : LoopF := fun b st => if h : ∃ k r,(run G IP k).2 lo b st = some r then some h.choose_spec.choose else none
variable {G IP}
theorem callD_iff {f:Nat} {vs:List AV} {hp:List HObj} {lo:Nat} {q:Bool} {r:COut} : callD G IP f vs hp lo q = some r ↔ ∃ k,(run G IP k).1 f vs hp lo q = some r := by
 unfold callD
 constructor
 · intro h
   split at h
   · rename_i hh; cases h; exact ⟨_,hh.choose_spec.choose_spec⟩
   · cases h
 · rintro ⟨k,hk⟩
   have hh : ∃ k r,(run G IP k).1 f vs hp lo q = some r := ⟨k,r,hk⟩
   rw [dif_pos hh]
   have e1 := (run_mono (G := G) (IP := IP) (Nat.le_max_left k hh.choose)).1 _ _ _ _ _ _ hk
   have e2 := (run_mono (G := G) (IP := IP) (Nat.le_max_right k hh.choose)).1 _ _ _ _ _ _ hh.choose_spec.choose_spec
   rw [e1] at e2; exact e2.symm
theorem loopD_iff {lo:Nat} {b:ICode} {st:St} {r:Ex × St} : loopD G IP lo b st = some r ↔ ∃ k,(run G IP k).2 lo b st = some r := by
 unfold loopD
 constructor
 · intro h
   split at h
   · rename_i hh; cases h; exact ⟨_,hh.choose_spec.choose_spec⟩
   · cases h
 · rintro ⟨k,hk⟩
   have hh : ∃ k r,(run G IP k).2 lo b st = some r := ⟨k,r,hk⟩
   rw [dif_pos hh]
   have e1 := (run_mono (G := G) (IP := IP) (Nat.le_max_left k hh.choose)).2 lo _ _ _ hk
   have e2 := (run_mono (G := G) (IP := IP) (Nat.le_max_right k hh.choose)).2 lo _ _ _ hh.choose_spec.choose_spec
   rw [e1] at e2; exact e2.symm
theorem run_callD (k:Nat) : CallLe (run G IP k).1 (callD G IP) := fun _ _ _ _ _ _ h => callD_iff.2 ⟨k,h⟩
theorem run_loopD (k lo:Nat) : LoopLe ((run G IP k).2 lo) (loopD G IP lo) := fun _ _ _ h => loopD_iff.2 ⟨k,h⟩
theorem evalOp_cont {lo:Nat} {o:IOp} {st:St} {r:OpR} (e:evalOp G (callD G IP) lo o st = some r) : ∃ k,evalOp G (run G IP k).1 lo o st = some r := by
 cases o
 case call f xs q =>
   simp only [evalOp] at e ⊢
   split at e
   · cases e
   · rename_i hp
     simp only [if_neg hp]
     split at e
     · split at e
       · cases e
       · rename_i hpc
         simp only [if_neg hpc]
         split at e
         · rename_i hc; obtain ⟨k,hk⟩ := callD_iff.1 hc; exact ⟨k,by rw [hk]; exact e⟩
         · rename_i hc; obtain ⟨k,hk⟩ := callD_iff.1 hc; exact ⟨k,by rw [hk]; exact e⟩
         · cases e
     · cases e
 all_goals exact ⟨0,e⟩
theorem evalOps_cont {lo:Nat} : ∀ {os:List IOper} {st:St} {r:Ex × St},evalOps G (callD G IP) lo os st = some r → ∃ k,evalOps G (run G IP k).1 lo os st = some r
 | [],st,r,e => ⟨0,e⟩
 | o :: os,st,r,e => by
   simp only [evalOps] at e ⊢
   split at e
   · split at e
     · rename_i ho
       obtain ⟨k1,h1⟩ := evalOp_cont ho
       split at e
       · rename_i hp
         obtain ⟨k2,h2⟩ := evalOps_cont e
         refine ⟨max k1 k2,?_⟩
         rw [evalOp_mono (run_mono (Nat.le_max_left k1 k2)).1 h1]
         simp only [hp]
         exact evalOps_mono (run_mono (Nat.le_max_right k1 k2)).1 h2
       · cases e
     · rename_i ho
       obtain ⟨k1,h1⟩ := evalOp_cont ho
       exact ⟨k1,by rw [h1]; exact e⟩
     · cases e
   · split at e
     · rename_i hp
       exact evalOps_cont e
     · cases e
   · cases e
theorem evalDraw_cont {lo:Nat} {ops:List IOper} {pans:List Nat} : ∀ {ord:List Nat} {st:St} {r:Ex × St},evalDraw G (callD G IP) lo ops pans ord st = some r → ∃ k,evalDraw G (run G IP k).1 lo ops pans ord st = some r
 | [],st,r,e => ⟨0,e⟩
 | i :: ord,st,r,e => by
   simp only [evalDraw] at e ⊢
   split at e
   · cases e
   · split at e
     · rename_i ho
       obtain ⟨k1,h1⟩ := evalOps_cont ho
       obtain ⟨k2,h2⟩ := evalDraw_cont e
       refine ⟨max k1 k2,?_⟩
       rw [evalOps_mono (run_mono (Nat.le_max_left k1 k2)).1 h1]
       exact evalDraw_mono (run_mono (Nat.le_max_right k1 k2)).1 h2
     · rename_i ho
       obtain ⟨k1,h1⟩ := evalOps_cont ho
       exact ⟨k1,by rw [h1]; exact e⟩
     · cases e
theorem evalC_cont {lo:Nat} : ∀ {x:ICode} {st:St} {r:Ex × St},evalC G (callD G IP) (loopD G IP lo) lo x st = some r → ∃ k,evalC G (run G IP k).1 ((run G IP k).2 lo) lo x st = some r := by
 intro x
 induction x with
 | skip => intro st r e; exact ⟨0,e⟩
 | region ops live =>
   intro st r e
   simp only [evalC] at e ⊢
   split at e
   · rename_i ho; obtain ⟨k,hk⟩ := evalOps_cont ho; exact ⟨k,by rw [hk]; exact e⟩
   · rename_i hne
     obtain ⟨k,hk⟩ := evalOps_cont e
     refine ⟨k,?_⟩
     rw [hk]
     split
     · rename_i s1 hh; cases hh; exact absurd e (by simpa using hne s1)
     · rfl
 | draw ops ord pans live =>
   intro st r e
   simp only [evalC] at e ⊢
   cases hb : evalDraw G (callD G IP) lo ops pans ord st with
   | none => rw [hb] at e; cases e
   | some x =>
     obtain ⟨k,hk⟩ := evalDraw_cont hb
     exact ⟨k,by rw [hk]; rw [hb] at e; exact e⟩
 | seq a b iha ihb =>
   intro st r e
   simp only [evalC] at e ⊢
   split at e
   · rename_i ho
     obtain ⟨k1,h1⟩ := iha ho
     obtain ⟨k2,h2⟩ := ihb e
     refine ⟨max k1 k2,?_⟩
     have m1 := run_mono (G := G) (IP := IP) (Nat.le_max_left k1 k2)
     have m2 := run_mono (G := G) (IP := IP) (Nat.le_max_right k1 k2)
     rw [evalC_mono m1.1 (m1.2 lo) h1]
     exact evalC_mono m2.1 (m2.2 lo) h2
   · rename_i hne
     obtain ⟨k,hk⟩ := iha e
     refine ⟨k,?_⟩
     rw [hk]
     split
     · rename_i s1 hh; cases hh; exact absurd e (by simpa using hne s1)
     · rfl
 | cond c a b iha ihb =>
   intro st r e
   simp only [evalC] at e ⊢
   split at e
   · split at e
     · rename_i h1; simp only [if_pos h1]; exact iha e
     · rename_i h1; simp only [if_neg h1]; exact ihb e
   · cases e
 | block id b ih =>
   intro st r e
   simp only [evalC] at e ⊢
   split at e
   · rename_i ho; obtain ⟨k,hk⟩ := ih ho; exact ⟨k,by rw [hk]; exact e⟩
   · rename_i hne
     obtain ⟨k,hk⟩ := ih e
     refine ⟨k,?_⟩
     rw [hk]
     split
     · rename_i i s1 hh; cases hh; exact absurd e (by simpa using hne i s1)
     · rfl
 | loop b ih => intro st r e; obtain ⟨k,hk⟩ := loopD_iff.1 e; exact ⟨k,hk⟩
 | exit id => intro st r e; exact ⟨0,e⟩
 | ret => intro st r e; exact ⟨0,e⟩
 | stuck => intro st r e; exact ⟨0,e⟩
theorem evalRecv_cont {lo:Nat} {f:Nat} {caps:List AV} {hp:List HObj} {v:AV} {r:List HObj} (e:evalRecv G IP (callD G IP) (loopD G IP lo) lo f caps hp v = some r) : ∃ k,evalRecv G IP (run G IP k).1 ((run G IP k).2 lo) lo f caps hp v = some r := by
 simp only [evalRecv] at e ⊢
 split at e
 · cases e
 · split at e
   · split at e
     · cases e
     · rename_i hc
       simp only [if_neg hc]
       split at e
       · rename_i ho; obtain ⟨k,hk⟩ := evalC_cont ho; exact ⟨k,by rw [hk]; exact e⟩
       · rename_i ho; obtain ⟨k,hk⟩ := evalC_cont ho; exact ⟨k,by rw [hk]; exact e⟩
       · cases e
   · cases e
theorem evalFin1_cont {lo:Nat} {ds:DSpec} {s3:St} {v:AV} {r:Ex × St} (e:evalFin1 G IP (callD G IP) (loopD G IP lo) lo ds s3 v = some r) : ∃ k,evalFin1 G IP (run G IP k).1 ((run G IP k).2 lo) lo ds s3 v = some r := by
 simp only [evalFin1] at e ⊢
 split at e
 · split at e
   · rename_i h4
     obtain ⟨k,hk⟩ := evalRecv_cont h4
     exact ⟨k,by rw [hk]; exact e⟩
   · cases e
 · cases e
theorem evalFin_cont {lo:Nat} {ds:DSpec} {b:ICode} {st:St} {r:Ex × St} (e:evalFin G IP (callD G IP) (loopD G IP lo) lo ds (evalC G (callD G IP) (loopD G IP lo) lo b st) = some r) : ∃ k,evalFin G IP (run G IP k).1 ((run G IP k).2 lo) lo ds (evalC G (run G IP k).1 ((run G IP k).2 lo) lo b st) = some r := by
 cases hb : evalC G (callD G IP) (loopD G IP lo) lo b st with
 | none => rw [hb] at e; simp [evalFin] at e
 | some x =>
   rw [hb] at e
   obtain ⟨k1,h1⟩ := evalC_cont hb
   obtain ⟨ex,s3⟩ := x
   have fin : ∀ v,evalFin1 G IP (callD G IP) (loopD G IP lo) lo ds s3 v = some r → ∃ k,k1 ≤ k ∧ evalFin1 G IP (run G IP k).1 ((run G IP k).2 lo) lo ds s3 v = some r := fun v e => by
     obtain ⟨k2,h2⟩ := evalFin1_cont e
     have m2 := run_mono (G := G) (IP := IP) (Nat.le_max_right k1 k2)
     exact ⟨max k1 k2,Nat.le_max_left _ _,evalFin1_mono m2.1 (m2.2 lo) h2⟩
   have go : ∀ v,evalFin1 G IP (callD G IP) (loopD G IP lo) lo ds s3 v = some r → ∃ k,evalC G (run G IP k).1 ((run G IP k).2 lo) lo b st = some (ex,s3) ∧ evalFin1 G IP (run G IP k).1 ((run G IP k).2 lo) lo ds s3 v = some r := fun v e => by
     obtain ⟨k,q1,q2⟩ := fin v e
     have m1 := run_mono (G := G) (IP := IP) q1
     exact ⟨k,evalC_mono m1.1 (m1.2 lo) h1,q2⟩
   cases ex with
   | normal => obtain ⟨k,q1,q2⟩ := go _ e; exact ⟨k,by rw [q1]; exact q2⟩
   | ret => obtain ⟨k,q1,q2⟩ := go _ e; exact ⟨k,by rw [q1]; exact q2⟩
   | pan v => obtain ⟨k,q1,q2⟩ := go _ e; exact ⟨k,by rw [q1]; exact q2⟩
   | exit i => simp [evalFin] at e
theorem evalF_cont {lo:Nat} {fn:IFun} {st:St} {r:Ex × St} (e:evalF G IP (callD G IP) (loopD G IP lo) lo fn st = some r) : ∃ k,evalF G IP (run G IP k).1 ((run G IP k).2 lo) lo fn st = some r := by
 simp only [evalF] at e ⊢
 split at e
 · exact evalC_cont e
 · split at e
   · rename_i ho
     obtain ⟨k1,h1⟩ := evalC_cont ho
     split at e
     · rename_i hc
       obtain ⟨k2,h2⟩ := evalFin_cont e
       have m1 := run_mono (G := G) (IP := IP) (Nat.le_max_left k1 k2)
       have m2 := run_mono (G := G) (IP := IP) (Nat.le_max_right k1 k2)
       exact ⟨max k1 k2,by rw [evalC_mono m1.1 (m1.2 lo) h1]; simp only; rw [if_pos hc]; exact evalFin_mono m2.1 (m2.2 lo) h2⟩
     · cases e
   · rename_i hne
     obtain ⟨k,hk⟩ := evalC_cont e
     refine ⟨k,?_⟩
     rw [hk]
     split
     · rename_i s1 hh; cases hh; exact absurd e (by simpa using hne s1)
     · rfl
theorem callBody_mono {c d:CallF} {l m:Nat → LoopF} (h:CallLe c d) (hl:∀ lo,LoopLe (l lo) (m lo)) : CallLe (callBody G IP c l) (callBody G IP d m) := by
 intro f vs hp lo q r e
 simp only [callBody] at e ⊢
 split at e
 · cases e
 · rename_i fn hfn
   split at e
   · cases e
   · rename_i hc
     rw [if_neg hc]
     split at e
     · rename_i ho; rw [evalF_mono h (hl _) ho]; exact e
     · rename_i ho; rw [evalF_mono h (hl _) ho]; exact e
     · rename_i ho; rw [evalF_mono h (hl _) ho]; exact e
     · cases e
theorem loopBody_mono {c d:CallF} {l m:Nat → LoopF} (h:CallLe c d) (hl:∀ lo,LoopLe (l lo) (m lo)) (lo:Nat) : LoopLe (loopBody G c l lo) (loopBody G d m lo) := by
 intro b st r e
 simp only [loopBody] at e ⊢
 split at e
 · rename_i ho; rw [evalC_mono h (hl _) ho]; exact hl _ _ _ _ e
 · rename_i hne
   rw [evalC_mono h (hl _) e]
   split
   · rename_i s1 hh; cases hh; exact absurd e (by simpa using hne s1)
   · rfl
theorem opt_ext {α:Type} {a b:Option α} (h1:∀ r,a = some r → b = some r) (h2:∀ r,b = some r → a = some r) : a = b := by
 cases a with
 | none => cases b with
   | none => rfl
   | some r => exact h2 r rfl
 | some r => exact (h1 r rfl).symm
theorem callD_eq (f:Nat) (vs:List AV) (hp:List HObj) (lo:Nat) (q:Bool) : callD G IP f vs hp lo q = callBody G IP (callD G IP) (loopD G IP) f vs hp lo q := by
 apply opt_ext
 · intro r h
   obtain ⟨k,hk⟩ := callD_iff.1 h
   cases k with
   | zero => simp [run] at hk
   | succ k => exact callBody_mono (run_callD k) (run_loopD k) _ _ _ _ _ _ hk
 · intro r e
   suffices ∃ k,callBody G IP (run G IP k).1 (run G IP k).2 f vs hp lo q = some r by
     obtain ⟨k,hk⟩ := this; exact callD_iff.2 ⟨k + 1,hk⟩
   simp only [callBody] at e ⊢
   split at e
   · cases e
   · rename_i fn hfn
     split at e
     · cases e
     · rename_i hc
       simp only [if_neg hc]
       split at e
       · rename_i ho; obtain ⟨k,hk⟩ := evalF_cont ho; exact ⟨k,by rw [hk]; exact e⟩
       · rename_i ho; obtain ⟨k,hk⟩ := evalF_cont ho; exact ⟨k,by rw [hk]; exact e⟩
       · rename_i ho; obtain ⟨k,hk⟩ := evalF_cont ho; exact ⟨k,by rw [hk]; exact e⟩
       · cases e
theorem loopD_eq (lo:Nat) (b:ICode) (st:St) : loopD G IP lo b st = loopBody G (callD G IP) (loopD G IP) lo b st := by
 apply opt_ext
 · intro r h
   obtain ⟨k,hk⟩ := loopD_iff.1 h
   cases k with
   | zero => simp [run] at hk
   | succ k => exact loopBody_mono (run_callD k) (run_loopD k) _ _ _ _ hk
 · intro r e
   suffices ∃ k,loopBody G (run G IP k).1 (run G IP k).2 lo b st = some r by
     obtain ⟨k,hk⟩ := this; exact loopD_iff.2 ⟨k + 1,hk⟩
   simp only [loopBody] at e ⊢
   split at e
   · rename_i ho
     obtain ⟨k1,h1⟩ := evalC_cont ho
     obtain ⟨k2,h2⟩ := loopD_iff.1 e
     refine ⟨max k1 k2,?_⟩
     have m1 := run_mono (G := G) (IP := IP) (Nat.le_max_left k1 k2)
     have m2 := run_mono (G := G) (IP := IP) (Nat.le_max_right k1 k2)
     rw [evalC_mono m1.1 (m1.2 lo) h1]
     exact m2.2 lo _ _ _ h2
   · rename_i hne
     obtain ⟨k,hk⟩ := evalC_cont e
     refine ⟨k,?_⟩
     rw [hk]
     split
     · rename_i s1 hh; cases hh; exact absurd e (by simpa using hne s1)
     · rfl
end
end Go.Proofs.YtkofimhnehkdoaaGreatDoor.Rf
end
section
namespace Go.Proofs.YtkofimhnehkdoaaGreatDoor.Rf
section
variable {H:Type} {enc:TypeId × Value → H} {P:Program} {W:World} {base:Nat}
end
end Go.Proofs.YtkofimhnehkdoaaGreatDoor.Rf
end
section
namespace Go.Proofs.YtkofimhnehkdoaaGreatDoor.Rf
mutual
def datAV {H:Type} : DataW H → Option (List AV)
 | .lit (.int k n) => some [.int k n]
 | .lit (.string s) => some [.str s]
 | .lit (.bool b) => some [.bool b]
 | .agg ds => datAVs ds
 | _ => none
def datAVs {H:Type} : List (DataW H) → Option (List AV)
 | [] => some []
 | d :: r => match datAV d,datAVs r with | some a,some b => some (a ++ b) | _,_ => none
end
section
variable {H:Type} {P:Program}
theorem HasTy.dat : ∀ {n:Nat} {t:TypeId} {cs:List AV} {d:DataW H},HasTy P n t cs d → ∀ {as:List AV},datAV d = some as → cs = as := by
 intro n
 induction n with
 | zero => intro t cs d h; exact h.elim
 | succ n ih =>
   intro t cs d h as hd
   have flat : ∀ {parts:List (List AV)} {els:List (DataW H)} {as:List AV},els.length = parts.length → (∀ (i:Nat) ds d',parts[i]? = some ds → els[i]? = some d' → ∃ e,HasTy P n e ds d') → datAVs els = some as → parts.flatten = as := by
     intro parts
     induction parts with
     | nil => intro els as hl _ hd; cases els with
       | nil => simp [datAVs] at hd; subst hd; rfl
       | cons d r => simp at hl
     | cons ds parts ihp =>
       intro els as hl hh hd
       cases els with
       | nil => simp at hl
       | cons d r =>
         simp only [datAVs] at hd
         split at hd
         · rename_i a b ha hb
           cases hd
           obtain ⟨e,he⟩ := hh 0 _ _ rfl rfl
           rw [List.flatten_cons,ih he ha,ihp (by simpa using hl) (fun i ds d' x y => hh (i + 1) ds d' (by simpa using x) (by simpa using y)) hb]
         · cases hd
   simp only [HasTy] at h
   cases hu : P.underlying t with
   | none => simp [hu] at h
   | some de =>
     rw [hu] at h
     cases de <;> simp only [] at h <;> try (exact h.elim)
     case bool => obtain ⟨b,rfl,rfl⟩ := h; simp [datAV] at hd; exact hd
     case int k => obtain ⟨m,rfl,_,rfl⟩ := h; simp [datAV] at hd; exact hd
     case string => obtain ⟨s,rfl,_,rfl⟩ := h; simp [datAV] at hd; exact hd
     case slice e =>
       rcases h with ⟨rfl,rfl⟩ | ⟨xs,els,rest,_,rfl,_⟩ <;> simp [datAV] at hd
     case struct fs =>
       obtain ⟨parts,els,rfl,rfl,h1,h2,h3⟩ := h
       simp only [datAV] at hd
       refine flat (by omega) (fun i ds d' a b => ?_) hd
       have hi : i < fs.size := by have := (List.getElem?_eq_some_iff.1 a).1; omega
       exact ⟨_,h3 i fs[i] ds d' (Array.getElem?_eq_getElem hi) a b⟩
     case array m e =>
       obtain ⟨parts,els,rfl,rfl,h1,h2,h3⟩ := h
       simp only [datAV] at hd
       exact flat (by omega) (fun i ds d' a b => ⟨e,h3 i ds d' a b⟩) hd
end
section
variable {H:Type} {enc:TypeId × Value → H} {P:Program} {W:World}
def GlobAt (P:Program) (W:World) (b:Nat) (cs:List AV) : Prop := ∃ (vs:List Value) (ty:TypeId),W.heap[b]? = some (.cells vs.toArray ty (0,0)) ∧ VS (gh0 W) W cs vs ∧ Ones vs
theorem laid_mem {laid:List (String × DataW Unit)} : ∀ {l:List (String × DataW Unit)} {ps qs:List MemPlace},DataW.LaidVars P W l ps → (∀ x,x ∈ ps → x ∈ qs) → ∀ {n:String} {d:DataW Unit},(n,d) ∈ l →
   ∃ g t cs fuel p,P.globalNamed n = some g ∧ (P.globals[g]?).map (·.type) = some t ∧ W.var? P n = some cs ∧ DataW.trod (fun _ => ()) P W 0 (fun _ => true) false fuel t cs.toList = some (d,p) ∧ ∀ x,x ∈ MemPlace.row ⟨g,0,none⟩ cs.size → x ∈ qs
 | [],ps,qs,_,_,n,d,h => by simp at h
 | (m,e) :: r,ps,qs,⟨g,t,cs,fuel,p,q,h1,h2,h3,h4,h5,h6⟩,hq,n,d,hm => by
   rcases List.mem_cons.1 hm with e1 | hm
   · cases e1
     exact ⟨g,t,cs,fuel,p,h1,h2,h3,h4,fun x hx => hq x (by rw [h6]; simp [hx])⟩
   · exact laid_mem (laid := laid) h5 (fun x hx => hq x (by rw [h6]; simp [hx])) hm
theorem glob_dat {S:List TypeId} (hS:covS P S = true) {laid:List (String × DataW Unit)} (h:laidMet P laid W) {n:String} {d:DataW Unit} (hm:(n,d) ∈ laid) {g:Nat} (hg:P.globalNamed n = some g) {t:TypeId} (ht:(P.globals[g]?).map (·.type) = some t) (hc:t ∈ S)
   {as:List AV} (hd:datAV d = some as) (h0:as ≠ []) : GlobAt P W g as := by
 obtain ⟨ps,hl,_,hrows⟩ := h
 obtain ⟨g1,t1,cs,fuel,p,h1,h2,h3,h4,h5⟩ := laid_mem (laid := laid) hl (fun _ h => h) hm
 obtain rfl := Option.some.inj (hg.symm.trans h1)
 obtain rfl := Option.some.inj (ht.symm.trans h2)
 obtain ⟨avs,v1,v2,v3,_⟩ := trod_V (g := gh0 W) hS (fun b o h => gh0_imm h) fuel t _ _ hc h4
 have hav := v3.dat hd
 subst hav
 have hsz : 0 < cs.size := by
   have := v1.len
   cases avs with
   | nil => exact absurd rfl h0
   | cons a r => simp at this; omega
 have hcell : MemPlace.cell g 0 ∈ ps := h5 _ (by
   unfold MemPlace.row
   simp only [List.mem_map,List.mem_range]
   exact ⟨0,hsz,by simp [MemPlace.cell,Addr.add]⟩)
 obtain ⟨⟨c,ty,hh⟩,_⟩ := hrows g 0 hcell
 unfold World.var? at h3
 rw [hg] at h3
 simp only [Option.bind_some,hh] at h3
 cases h3
 exact ⟨cs.toList,ty,by simpa using hh,v1,v2⟩
theorem glob_err {laid:List (String × DataW Unit)} (h:laidMet P laid W) {n nm:String} {text:List UInt8} {r:List (String × DataW Unit)} (hl:∃ pre,laid = pre ++ (n,.iface nm (.ptr (.agg [.lit (.string text)]))) :: r)
   {g:Nat} {ti tp te ts:TypeId} {ms:Array (String × TypeId)} {f:Field} (hg:P.globalNamed n = some g) (ht:(P.globals[g]?).map (·.type) = some ti) (hi:P.underlying ti = some (.interface ms)) (hrow:∀ u,P.typeName? 3 u = some nm → u = tp)
   (hp:P.underlying tp = some (.pointer te)) (he:P.underlying te = some (.struct #[f])) (hft:f.type = ts) (hfo:f.offset = 0) (hs:P.underlying ts = some .string) (hc:P.cellsOf te = 1) (hcs:P.cellsOf ts = 1) : GlobAt P W g [.iface tp .none] := by
 obtain ⟨pre,rfl⟩ := hl
 have h' : laidMet P ((n,.iface nm (.ptr (.agg [.lit (.string text)]))) :: r) W := by
   induction pre with
   | nil => exact h
   | cons x pre ih => exact ih h.tail
 obtain ⟨a,s,e1,_⟩ := laid_sentinel h' hg ht hi hrow hp he hft hfo hs hc hcs
 obtain ⟨ps,hl,_,hrows⟩ := h'
 obtain ⟨g1,t1,cs,fuel,p,h1,h2,h3,h4,h5⟩ := laid_mem (laid := []) hl (fun _ h => h) (List.mem_cons_self ..)
 obtain rfl := Option.some.inj (hg.symm.trans h1)
 rw [e1] at h3; cases h3
 have hcell : MemPlace.cell g 0 ∈ ps := h5 _ (by
   unfold MemPlace.row
   simp only [List.mem_map,List.mem_range]
   exact ⟨0,by simp,by simp [MemPlace.cell,Addr.add]⟩)
 obtain ⟨⟨c,ty,hh⟩,_⟩ := hrows g 0 hcell
 unfold World.var? at e1
 rw [hg] at e1
 simp only [Option.bind_some,hh] at e1
 cases e1
 exact ⟨_,ty,hh,by simp only [VS,V]; exact ⟨_,[],rfl,⟨_,rfl,trivial⟩,rfl⟩,by intro u hu; simp at hu; subst hu; rfl⟩
end
mutual
def AV.lim : AV → Prop
 | .str s => s.length ≤ 140737488351232
 | .agg cs => AV.lims cs
 | .list xs _ => AV.lims xs
 | _ => True
def AV.lims : List AV → Prop
 | [] => True
 | v :: r => v.lim ∧ AV.lims r
end
theorem AV.lims_iff : ∀ l : List AV,AV.lims l ↔ ∀ v,v ∈ l → v.lim
 | [] => by simp [AV.lims]
 | v :: r => by simp [AV.lims,AV.lims_iff r]
theorem AV.lims_flatten {parts:List (List AV)} (h:∀ p,p ∈ parts → AV.lims p) : AV.lims parts.flatten := by
 rw [AV.lims_iff]
 intro v hv
 obtain ⟨p,hp,hv⟩ := List.mem_flatten.1 hv
 exact (AV.lims_iff p).1 (h p hp) v hv
section
variable {H:Type} {P:Program}
theorem elemAV_lim {e:TypeId} {ds:List AV} (h:AV.lims ds) : (elemAV P e ds).lim := by
 unfold elemAV
 split
 · exact h
 · cases ds with
   | nil => trivial
   | cons a r => exact h.1
theorem weightsAll_mem {e:TypeId} : ∀ {els:List (DataW H)} {i:Nat} {d:DataW H},els[i]? = some d → ∀ n,n ∈ d.weights P e → n ∈ DataW.weightsAll P e els
 | [],i,d,h => by simp at h
 | x :: r,0,d,h => by simp at h; subst h; intro n hn; simp [DataW.weightsAll,hn]
 | x :: r,i + 1,d,h => by
   intro n hn
   simp only [DataW.weightsAll,List.mem_append]
   exact .inr (weightsAll_mem (by simpa using h) n hn)
theorem HasTy.lim : ∀ {n:Nat} {t:TypeId} {cs:List AV} {d:DataW H},HasTy P n t cs d → (∀ m,m ∈ d.weights P t → m ≤ reachBytes) → AV.lims cs := by
 intro n
 induction n with
 | zero => intro t cs d h; exact h.elim
 | succ n ih =>
   intro t cs d h hz
   simp only [HasTy] at h
   cases hu : P.underlying t with
   | none => simp [hu] at h
   | some de =>
     rw [hu] at h
     cases de <;> simp only [] at h <;> try (exact h.elim)
     case bool => obtain ⟨b,rfl,rfl⟩ := h; simp [AV.lims,AV.lim]
     case int k => obtain ⟨m,rfl,_,rfl⟩ := h; simp [AV.lims,AV.lim]
     case string =>
       obtain ⟨s,rfl,_,rfl⟩ := h
       simp only [AV.lims,AV.lim,and_true]
       have := hz s.length (by simp [DataW.weights])
       simpa [reachBytes] using this
     case slice e =>
       rcases h with ⟨rfl,rfl⟩ | ⟨xs,els,rest,rfl,rfl,hl,_,hx⟩
       · simp [AV.lims,AV.lim]
       · simp only [AV.lims,AV.lim,and_true]
         rw [AV.lims_iff]
         intro v hv
         obtain ⟨i,hi⟩ := List.mem_iff_getElem?.1 hv
         have hil := (List.getElem?_eq_some_iff.1 hi).1
         have he : els[i]? = some els[i] := List.getElem?_eq_getElem (by omega)
         obtain ⟨ds,rfl,hds⟩ := hx i v _ hi he
         exact elemAV_lim (ih hds fun m hm => hz m (by
           simp only [DataW.weights,hu,List.mem_cons,List.mem_append]
           exact .inr (.inl (weightsAll_mem he m hm))))
     case struct fs =>
       obtain ⟨parts,els,rfl,rfl,h1,h2,h3⟩ := h
       refine AV.lims_flatten fun p hp => ?_
       obtain ⟨i,hi⟩ := List.mem_iff_getElem?.1 hp
       have hil := (List.getElem?_eq_some_iff.1 hi).1
       have he : els[i]? = some els[i] := List.getElem?_eq_getElem (by omega)
       have hf : fs[i]? = some fs[i] := Array.getElem?_eq_getElem (by omega)
       exact ih (h3 i _ _ _ hf hi he) fun m hm => hz m (by
         simp only [DataW.weights,hu]
         exact DataW.weights_mem_each (j := i) (by simp [hf]) he m hm)
     case array m e =>
       obtain ⟨parts,els,rfl,rfl,h1,h2,h3⟩ := h
       refine AV.lims_flatten fun p hp => ?_
       obtain ⟨i,hi⟩ := List.mem_iff_getElem?.1 hp
       have hil := (List.getElem?_eq_some_iff.1 hi).1
       have he : els[i]? = some els[i] := List.getElem?_eq_getElem (by omega)
       exact ih (h3 i _ _ hi he) fun m hm => hz m (by
         simp only [DataW.weights,hu]
         exact weightsAll_mem he m hm)
theorem ArgsTy.lims : ∀ {ts:List TypeId} {vs:List AV} {ds:List (DataW H)},ArgsTy P ts vs ds → (∀ (j:Nat) t d,ts[j]? = some t → ds[j]? = some d → ∀ m,m ∈ d.weights P t → m ≤ reachBytes) → AV.lims vs
 | _,_,_,.nil,_ => trivial
 | _,_,_,.cons h k,hz => by
   obtain ⟨n,cs,rfl,h⟩ := h
   exact ⟨elemAV_lim (h.lim (hz 0 _ _ rfl rfl)),k.lims fun j t d a b => hz (j + 1) t d (by simpa using a) (by simpa using b)⟩
end
section
variable {H:Type} {enc:TypeId × Value → H} {P:Program} {W:World} {base:Nat}
theorem calls_of_runG {G:Nat → Option (List AV)} (hG:∀ b cs,G b = some cs → GlobAt P W b cs) (hm:P.follows .mixedOrders = true) {IP:IProg} (hIP:∀ f fn,IP f = some fn → chkFun P f fn = true) {f:FuncId} {avs:List AV} {us:List Value} (hv:VS (gh0 W) W avs us) (hno:avs.all noOwn = true)
   {k:Nat} {q:Bool} {hp:List HObj} (hr:(run G IP k).1 f avs [] 0 q = some (.ret (.bool true) hp)) :
   Calls P f us.toArray W fun e W' => e = .returned (.bool true) ∧ RowKit.Below W.heap.size W W' := by
 obtain ⟨hc,_⟩ := run_sound (G := G) hm hIP k
 have hpl : plains avs = true := by
   simp only [plains,List.all_eq_true] at hno ⊢
   intro x hx
   have := hno x hx
   cases x <;> simp_all [noOwn,AV.plain]
 have hrel : Rel G (gh0 W) ⟨[],[]⟩ (avs.zip us) #[] W := by
   refine ⟨fun s => by simp [Fr.get,VF,VX,V,Owns],fun j v cv hj => ?_,⟨rfl,fun id o h => by simp at h⟩,fun b o hb => by simp only [gh0]; rw [if_neg (by omega)],fun b cs h => ?_⟩
   · obtain ⟨h1,h2⟩ := zip_get hj
     have hvv := hv.get' h1 h2
     have hn : noOwn v = true := by simp only [List.all_eq_true] at hno; exact hno v (List.mem_of_getElem? h1)
     have hp' : v.plain = true := by simp only [plains,List.all_eq_true] at hpl; exact hpl v (List.mem_of_getElem? h1)
     rw [VF_loose (AV.loose_of_plain hp'),VX_plain hp']
     refine ⟨hvv,Owns.not_own (fun xs sz e0 e => ?_) fun vs e => ?_⟩
     · rw [e] at hn; simp [noOwn] at hn
     · rw [e] at hn; simp [noOwn] at hn
   · obtain ⟨vs,ty,h1,h2,h3⟩ := hG b cs h
     exact ⟨vs,ty,h1,⟨h2,h3⟩,fun o => gh0_imm (Array.getElem?_eq_some_iff.1 h1).1⟩
 obtain ⟨_,hcall⟩ := hc f avs [] 0 q _ (gh0 W) W us hr hv.len hpl hrel
 refine Calls.mono hcall fun e W' h => ?_
 cases e with
 | returned cv =>
   obtain ⟨g',v,hp',e1,k1,s1⟩ := h
   cases e1
   have f1 := k1.ps 0 _ _ rfl
   rw [VF_loose rfl] at f1
   simp only [VX,V] at f1
   refine ⟨by rw [f1.1],s1.os,s1.tape,s1.output,s1.size,fun b hb => s1.blk b hb fun o => ?_⟩
   rw [gh0_imm hb]; exact ⟨trivial,by simp⟩
 | panicked chain =>
   obtain ⟨g',v,hp',cv,e1,_⟩ := h
   cases e1
 | outgrown => exact h.elim
theorem law_endG {G:Nat → Option (List AV)} (hG:∀ b cs,G b = some cs → GlobAt P W b cs) (hm:P.follows .mixedOrders = true) {IP:IProg} (hIP:∀ f fn,IP f = some fn → chkFun P f fn = true) (hlaid:laidOutB P = true) {S:List TypeId} (hS:covS P S = true) {f:FuncId} {fn:Func}
   (hp:fn.params.toList.all (fun t => S.contains t && P.readableRec t && Nat.blt t P.types.size) = true) {s:ChangeSpec} (hvars:s.vars = []) {tb:TypeId} (hres:fn.resultTypes = #[tb]) (hb:P.underlying tb = some .bool)
   (hspec:∀ ds : List (DataW H),ds.length = fn.params.size → s.fn H (ds ++ []) = ⟨[.lit (.bool true)],ds,[]⟩) {args:Array Value} {ds gs:List (DataW H)} {before:List MemPlace}
   (hval:∀ (j:Nat) t v,fn.params[j]? = some t → args[j]? = some v → Value.okWide P W .any base t v) (hW:DataW.Whole enc P fn.params.toList s.vars false W args.toList ds gs before)
   (hz:(DataW.weightsEach P (fn.params.toList ++ s.plain.varTypes P) (ds ++ gs)).all (· ≤ reachBytes) = true)
   (hrun:∀ avs,ArgsTy P fn.params.toList avs ds → AV.lims avs → ∃ q hp,callD G IP f avs [] 0 q = some (.ret (.bool true) hp)) :
   Calls P f args W fun e W' => ∃ v,e = .returned v ∧ s.post enc P fn false true false false W args v W' := by
 have hW0 := hW
 obtain ⟨p,q,hA,hV,rfl,hfz,hnd⟩ := hW
 have hgs : gs = [] ∧ q = [] := by
   rw [hvars] at hV
   cases gs with
   | nil => exact ⟨rfl,hV⟩
   | cons g gs => exact hV.elim
 obtain ⟨rfl,rfl⟩ := hgs
 simp only [List.all_eq_true,Bool.and_eq_true] at hp
 obtain ⟨avs,a1,a2,a3⟩ := args_V hS (fun t ht => by have := (hp t ht).1.1; simpa using this) (fun j t v h1 h2 => hval j t v (by simpa using h1) (by simpa using h2)) hA
 have hlen := trodAll_len hA
 have hlim : AV.lims avs := a3.lims fun j t d h1 h2 m hm => by
   have := List.all_eq_true.1 hz m (DataW.weights_mem_each (j := j) (by rw [List.getElem?_append,if_pos (List.getElem?_eq_some_iff.1 h1).1]; exact h1) (by simpa using h2) m hm)
   simpa using this
 obtain ⟨q,hp',hr⟩ := hrun avs a3 hlim
 obtain ⟨k,hr⟩ := callD_iff.1 hr
 have hsp := hspec ds (by simpa using hlen.1)
 have hcall := calls_of_runG hG hm hIP a1 a2 hr
 rw [show args.toList.toArray = args by simp] at hcall
 refine Calls.mono hcall fun e W' ⟨he,bel⟩ => ⟨_,he,ds,[],p ++ [],[],p,[],hW0,?_,?_,?_,bel.frame _,fun h => by cases h⟩
 · rw [hsp,hres]; exact ChangeShapes.trodAll_mk1 (open Go.ChangeShapes Go.WideShapes Go.ChangeAt Go.RowKit in shut_bool hb _)
 · rw [hsp]
   exact args_back hlaid bel (fun t ht => by
     have := hp t ht
     exact ⟨this.1.2,by simpa using this.2⟩) hA
 · rw [hsp,hvars]; rfl
end
end Go.Proofs.YtkofimhnehkdoaaGreatDoor.Rf
end
section
namespace Go.Proofs.YtkofimhnehkdoaaGreatDoor.Rf
attribute [simp] ownE frzs frz1 callBody evalF evalRecv evalFin evalFin1 toHeap ptrsFrom setPtrs AV.husk Fr.husk evalC evalDraw evalOps evalOp opd opds wanted St.put ret1 Fr.get Fr.set Fr.keep Fr.keepOk AV.loose evalRess evalRes1 AV.plain plains tupOf AV.closed AV.closedL enter memOk behind behindPut cut put ofCells binAV intBin strBin shiftBin eqAV unAV bound AV.spread AV.cells buildCells fillElems keyEq
@[simp] theorem Own.cp_nil : Own.cp .nil = .nil := rfl
@[simp] theorem Own.cp_no : Own.cp .no = .no := rfl
@[simp] theorem Own.cp_tightT : Own.cp .tight = .no := rfl
@[simp] theorem Own.ck_tight : Own.ck .tight = .tight := rfl
@[simp] theorem Own.ck_no : Own.ck .no = .no := rfl
@[simp] theorem Own.ck_nil : Own.ck .nil = .nil := rfl
@[simp] theorem Own.ck_own0 (n:Nat) : Own.ck (.own n 0) = .no := rfl
@[simp] theorem Own.ck_ownS (n e:Nat) : Own.ck (.own n (e + 1)) = .view (e + 1) := by simp [Own.ck,Own.cp,Own.vw]
@[simp] theorem Own.ck_view (e:Nat) : Own.ck (.view (e + 1)) = .view (e + 1) := by simp [Own.ck,Own.cp,Own.vw]
@[simp] theorem Own.cp_own0 (n:Nat) : Own.cp (.own n 0) = .no := rfl
@[simp] theorem Own.cp_ownS (n e:Nat) : Own.cp (.own n (e + 1)) = .view (e + 1) := by simp [Own.cp,Own.vw]
theorem Own.cp_own {n e:Nat} (h:e ≠ 0) : Own.cp (.own n e) = .view e := by simp [Own.cp,Own.vw,h]
theorem Own.cp_view {e:Nat} (h:e ≠ 0) : Own.cp (.view e) = .view e := by simp [Own.cp,Own.vw,h]
@[simp] theorem Own.cp_cp (o:Own) : o.cp.cp = o.cp := by
 cases o with
 | no => rfl
 | nil => rfl
 | own n e => by_cases h : e = 0 <;> simp [Own.cp,Own.vw,h]
 | view e => by_cases h : e = 0 <;> simp [Own.cp,Own.vw,h]
 | tight => rfl
@[simp] theorem Own.ck_cp (o:Own) : o.cp.ck = o.cp := by
 cases o with
 | no => rfl
 | nil => rfl
 | own n e => by_cases h : e = 0 <;> simp [Own.ck,Own.cp,Own.vw,h]
 | view e => by_cases h : e = 0 <;> simp [Own.ck,Own.cp,Own.vw,h]
 | tight => rfl
section
variable (k:IntKind) (n:Int) (b:Bool) (s:List UInt8) (xs cs:List AV) (o:Own) (i j:Nat) (v:AV)
@[simp] theorem ck1_none : AV.ck1 .none = .none := rfl
@[simp] theorem ck1_bool : AV.ck1 (.bool b) = .bool b := rfl
@[simp] theorem ck1_int' : AV.ck1 (.int k n) = .int k n := rfl
@[simp] theorem ck1_str : AV.ck1 (.str s) = .str s := rfl
@[simp] theorem ck1_agg : AV.ck1 (.agg cs) = .agg cs := rfl
@[simp] theorem ck1_list : AV.ck1 (.list xs o) = .list xs o.ck := rfl
@[simp] theorem ck1_ptr : AV.ck1 (.ptr i j) = .ptr i j := rfl
@[simp] theorem ck1_nilp : AV.ck1 .nilp = .nilp := rfl
@[simp] theorem ck1_sref (a b c d:Nat) : AV.ck1 (.sref a b c d) = .sref a b c d := rfl
@[simp] theorem ck1_lref : AV.ck1 (.lref i j) = .lref i j := rfl
@[simp] theorem ck1_box : AV.ck1 (.box cs) = .box cs := rfl
@[simp] theorem ck1_eref : AV.ck1 (.eref v i) = .eref v i := rfl
@[simp] theorem ck1_lastr : AV.ck1 (.lastr i) = .lastr i := rfl
@[simp] theorem ck1_map : AV.ck1 (.map i) = .map i := rfl
@[simp] theorem ck1_nilm : AV.ck1 .nilm = .nilm := rfl
@[simp] theorem ck1_func : AV.ck1 (.func i cs) = .func i cs := rfl
@[simp] theorem ck1_nilf : AV.ck1 .nilf = .nilf := rfl
@[simp] theorem ck1_iface : AV.ck1 (.iface i v) = .iface i v := rfl
@[simp] theorem ck1_nili : AV.ck1 .nili = .nili := rfl
@[simp] theorem ck1_glob : AV.ck1 (.glob i j) = .glob i j := rfl
@[simp] theorem ck1_tup : AV.ck1 (.tup cs) = .tup cs := rfl
@[simp] theorem cp1_none : AV.cp1 .none = .none := rfl
@[simp] theorem cp1_bool : AV.cp1 (.bool b) = .bool b := rfl
@[simp] theorem cp1_int' : AV.cp1 (.int k n) = .int k n := rfl
@[simp] theorem cp1_str : AV.cp1 (.str s) = .str s := rfl
@[simp] theorem cp1_agg : AV.cp1 (.agg cs) = .agg cs := rfl
@[simp] theorem cp1_list : AV.cp1 (.list xs o) = .list xs o.cp := by cases o <;> rfl
@[simp] theorem cp1_ptr : AV.cp1 (.ptr i j) = .ptr i j := rfl
@[simp] theorem cp1_nilp : AV.cp1 .nilp = .nilp := rfl
@[simp] theorem cp1_sref (a b c d:Nat) : AV.cp1 (.sref a b c d) = .sref a b c d := rfl
@[simp] theorem cpA_sref (a b c d:Nat) : AV.cpA (.sref a b c d) = .sref a b c d := rfl
@[simp] theorem cp_sref (a b c d:Nat) : AV.cp (.sref a b c d) = .sref a b c d := rfl
@[simp] theorem cp1_lref : AV.cp1 (.lref i j) = .lref i j := rfl
@[simp] theorem cp1_box : AV.cp1 (.box cs) = .box cs := rfl
@[simp] theorem cp1_eref : AV.cp1 (.eref v i) = .eref v i := rfl
@[simp] theorem cp1_lastr : AV.cp1 (.lastr i) = .lastr i := rfl
@[simp] theorem cp1_map : AV.cp1 (.map i) = .map i := rfl
@[simp] theorem cp1_nilm : AV.cp1 .nilm = .nilm := rfl
@[simp] theorem cp1_func : AV.cp1 (.func i cs) = .func i cs := rfl
@[simp] theorem cp1_nilf : AV.cp1 .nilf = .nilf := rfl
@[simp] theorem cp1_iface : AV.cp1 (.iface i v) = .iface i v := rfl
@[simp] theorem cp1_nili : AV.cp1 .nili = .nili := rfl
@[simp] theorem cp1_glob : AV.cp1 (.glob i j) = .glob i j := rfl
@[simp] theorem cp1_tup : AV.cp1 (.tup cs) = .tup cs := rfl
@[simp] theorem cpA_none : AV.cpA .none = .none := rfl
@[simp] theorem cpA_bool : AV.cpA (.bool b) = .bool b := rfl
@[simp] theorem cpA_int' : AV.cpA (.int k n) = .int k n := rfl
@[simp] theorem cpA_str : AV.cpA (.str s) = .str s := rfl
@[simp] theorem cpA_agg : AV.cpA (.agg cs) = .agg (cs.map AV.cp1) := rfl
@[simp] theorem cpA_list : AV.cpA (.list xs o) = .list xs o.cp := by cases o <;> rfl
@[simp] theorem cpA_ptr : AV.cpA (.ptr i j) = .ptr i j := rfl
@[simp] theorem cpA_nilp : AV.cpA .nilp = .nilp := rfl
@[simp] theorem cpA_map : AV.cpA (.map i) = .map i := rfl
@[simp] theorem cpA_nilm : AV.cpA .nilm = .nilm := rfl
@[simp] theorem cpA_func : AV.cpA (.func i cs) = .func i cs := rfl
@[simp] theorem cpA_nilf : AV.cpA .nilf = .nilf := rfl
@[simp] theorem cpA_iface : AV.cpA (.iface i v) = .iface i v := rfl
@[simp] theorem cpA_nili : AV.cpA .nili = .nili := rfl
@[simp] theorem cpA_glob : AV.cpA (.glob i j) = .glob i j := rfl
@[simp] theorem cp_none : AV.cp .none = .none := rfl
@[simp] theorem cp_bool : AV.cp (.bool b) = .bool b := rfl
@[simp] theorem cp_int' : AV.cp (.int k n) = .int k n := rfl
@[simp] theorem cp_str : AV.cp (.str s) = .str s := rfl
@[simp] theorem cp_agg : AV.cp (.agg cs) = .agg (cs.map AV.cp1) := rfl
@[simp] theorem cp_list : AV.cp (.list xs o) = .list xs o.cp := by cases o <;> rfl
@[simp] theorem cp_ptr : AV.cp (.ptr i j) = .ptr i j := rfl
@[simp] theorem cp_nilp : AV.cp .nilp = .nilp := rfl
@[simp] theorem cp_lref : AV.cp (.lref i j) = .lref i j := rfl
@[simp] theorem cp_box : AV.cp (.box cs) = .box cs := rfl
@[simp] theorem cp_eref : AV.cp (.eref v i) = .eref v i := rfl
@[simp] theorem cp_lastr : AV.cp (.lastr i) = .lastr i := rfl
@[simp] theorem cp_map : AV.cp (.map i) = .map i := rfl
@[simp] theorem cp_nilm : AV.cp .nilm = .nilm := rfl
@[simp] theorem cp_func : AV.cp (.func i cs) = .func i cs := rfl
@[simp] theorem cp_nilf : AV.cp .nilf = .nilf := rfl
@[simp] theorem cp_iface : AV.cp (.iface i v) = .iface i v := rfl
@[simp] theorem cp_nili : AV.cp .nili = .nili := rfl
@[simp] theorem cp_glob : AV.cp (.glob i j) = .glob i j := rfl
@[simp] theorem cp_tup : AV.cp (.tup cs) = .tup (cs.map AV.cpA) := rfl
end
section
variable {G:Nat → Option (List AV)} {IP:IProg}
theorem loop_iter {lo:Nat} {b:ICode} (S:Nat → St) (n:Nat) {r:Ex × St} (hstep:∀ i,i < n → evalC G (callD G IP) (loopD G IP lo) lo b (S i) = some (.normal,S (i + 1)))
   (hend:evalC G (callD G IP) (loopD G IP lo) lo b (S n) = some r) (hr:∀ s,r ≠ (.normal,s)) : loopD G IP lo b (S 0) = some r := by
 have h : ∀ k,k ≤ n → loopD G IP lo b (S (n - k)) = some r := by
   intro k
   induction k with
   | zero =>
     intro _
     rw [loopD_eq,loopBody,Nat.sub_zero,hend]
     split
     · rename_i s hh; cases hh; exact absurd rfl (hr s)
     · rfl
   | succ k ih =>
     intro hk
     have h1 := hstep (n - (k + 1)) (by omega)
     rw [show n - (k + 1) + 1 = n - k by omega] at h1
     rw [loopD_eq,loopBody,h1]
     exact ih (by omega)
 have := h n (Nat.le_refl n)
 rwa [Nat.sub_self] at this
theorem loop_find {lo:Nat} {b:ICode} (S:Nat → St) (n:Nat) (p:Nat → Bool) (Y r:Ex × St)
   (hstep:∀ i,i < n → p i = false → evalC G (callD G IP) (loopD G IP lo) lo b (S i) = some (.normal,S (i + 1)))
   (hyes:∀ i,i < n → p i = true → evalC G (callD G IP) (loopD G IP lo) lo b (S i) = some Y) (hY:∀ s,Y ≠ (.normal,s))
   (hend:evalC G (callD G IP) (loopD G IP lo) lo b (S n) = some r) (hr:∀ s,r ≠ (.normal,s)) : loopD G IP lo b (S 0) = some (if (List.range n).any p then Y else r) := by
 by_cases hc : ∃ i,i < n ∧ p i = true
 · have : ∃ m,(m < n ∧ p m = true) ∧ ∀ j,j < m → p j = false := by
     obtain ⟨i,hi⟩ := hc
     induction i using Nat.strongRecOn with
     | _ i ih =>
       by_cases hj : ∃ j,j < i ∧ p j = true
       · obtain ⟨j,h1,h2⟩ := hj; exact ih j h1 ⟨by omega,h2⟩
       · refine ⟨i,hi,fun j h1 => ?_⟩
         cases h2 : p j with
         | false => rfl
         | true => exact absurd ⟨j,h1,h2⟩ hj
   obtain ⟨m,⟨h1,h2⟩,h3⟩ := this
   rw [if_pos (by simp only [List.any_eq_true,List.mem_range]; exact ⟨m,h1,h2⟩)]
   exact loop_iter S m (fun i hi => hstep i (by omega) (h3 i hi)) (hyes m h1 h2) hY
 · rw [if_neg (by simp only [List.any_eq_true,List.mem_range]; exact hc)]
   refine loop_iter S n (fun i hi => hstep i hi ?_) hend hr
   cases h2 : p i with
   | false => rfl
   | true => exact absurd ⟨i,hi,h2⟩ hc
end
@[simp] theorem ck1_int (k:IntKind) : AV.ck1 ∘ AV.int k = AV.int k := rfl
@[simp] theorem cp1_int (k:IntKind) : AV.cp1 ∘ AV.int k = AV.int k := rfl
@[simp] theorem beqI (a b:Int) : (a == b) = decide (a = b) := by by_cases h : a = b <;> simp [h]
@[simp] theorem bneI (a b:Int) : (a != b) = !decide (a = b) := by by_cases h : a = b <;> simp [h]
@[simp] theorem beqS (a b:List UInt8) : (a == b) = decide (a = b) := by by_cases h : a = b <;> simp [h]
@[simp] theorem bneS (a b:List UInt8) : (a != b) = !decide (a = b) := by by_cases h : a = b <;> simp [h]
@[simp] theorem okSize_nil (n:Nat) : okSize n [] = true := rfl
@[simp] theorem okSize_cons (n:Nat) (x:AV) (r:List AV) : okSize n (x :: r) = (x.cells.length == n) := rfl
@[simp] theorem closedL_app (n:Nat) : ∀ a b : List AV,AV.closedL n (a ++ b) = (AV.closedL n a && AV.closedL n b)
 | [],b => by simp [AV.closedL]
 | v :: r,b => by simp [AV.closedL,closedL_app n r b,Bool.and_assoc]
@[simp] theorem keep1_list (xs:List AV) (o:Own) : AV.keep1 (.list xs o) = .list xs o := rfl
@[simp] theorem keep1_int (k:IntKind) (n:Int) : AV.keep1 (.int k n) = .int k n := rfl
@[simp] theorem keep1_bool (b:Bool) : AV.keep1 (.bool b) = .bool b := rfl
@[simp] theorem keep1_str (s:List UInt8) : AV.keep1 (.str s) = .str s := rfl
@[simp] theorem keep1_agg (cs:List AV) : AV.keep1 (.agg cs) = .agg (cs.map AV.cp1) := rfl
def ownB (o:Bool) : Own := if o then .nil else .no
@[simp] theorem ownB_ck (o:Bool) : (ownB o).ck = ownB o := by cases o <;> rfl
@[simp] theorem ownB_cp (o:Bool) : (ownB o).cp = ownB o := by cases o <;> rfl
@[simp] theorem ownB_own (o:Bool) (n e:Nat) : (ownB o = .own n e) = False := by cases o <;> simp [ownB]
theorem wrap_small {n:Int} (h0:0 ≤ n) (h1:n ≤ 9223372036854775807) : IntKind.wrap .i64 n = n := by
 simp [IntKind.wrap,IntKind.signed,IntKind.bits]; omega
theorem wrap_succ {i n:Nat} (h:i < n) (hn:n ≤ 9223372036854775807) : IntKind.wrap .i64 ((i:Int) + 1) = ((i + 1 : Nat) : Int) := by
 rw [wrap_small (by omega) (by omega)]; rfl
end Go.Proofs.YtkofimhnehkdoaaGreatDoor.Rf
end
section
namespace Go.Proofs.YtkofimhnehkdoaaGreatDoor.Rf
def plainC (n:Int) : Bool := decide (n ≥ 33) && (decide (n ≤ 126) && (!decide (n = 40) && (!decide (n = 41) && !decide (n = 59))))
def blankC (n:Int) : Bool := decide (n = 32) || (decide (n = 9) || (decide (n = 10) || decide (n = 13)))
def byt (s:List UInt8) (i:Nat) : Int := ((s.getD i 0).toNat : Int)
def comK (s:List UInt8) : Nat → Nat → Nat
 | 0,i => i
 | k + 1,i => if byt s i = 10 then i else comK s k (i + 1)
def skipK (s:List UInt8) : Nat → Nat → Nat
 | 0,i => i
 | n + 1,i => if i < s.length then (if blankC (byt s i) then skipK s n (i + 1) else if byt s i = 59 then skipK s n (comK s (s.length - i) i) else i) else i
def skipN (s:List UInt8) (i:Nat) : Nat := skipK s s.length i
section
variable {s:List UInt8} {hp:List HObj} {lo:Nat}
end
end Go.Proofs.YtkofimhnehkdoaaGreatDoor.Rf
end
section
namespace Go.Proofs.YtkofimhnehkdoaaGreatDoor.Rf
def PH (hp:List HObj) (s:List UInt8) (v:Int) : List HObj := hp ++ [.cells 0 [.str s,.int .i64 v,.list [] .nil]]
section
variable {hp:List HObj} {s:List UInt8} {lo:Nat}
@[simp] theorem PH_get (v:Int) : (PH hp s v)[hp.length]? = some (.cells 0 [.str s,.int .i64 v,.list [] .nil]) := by simp [PH]
@[simp] theorem PH_set (v u:Int) : (PH hp s v).set hp.length (.cells 0 [.str s,.int .i64 u,.list [] .nil]) = PH hp s u := by simp [PH]
end
end Go.Proofs.YtkofimhnehkdoaaGreatDoor.Rf
end
section
namespace Go.Proofs.YtkofimhnehkdoaaGreatDoor.Rf
inductive T where
 | mk (op width val:Int) (name:List UInt8) (o:Bool) (args:List T)
namespace T
def op : T → Int | .mk a _ _ _ _ _ => a
def width : T → Int | .mk _ a _ _ _ _ => a
def val : T → Int | .mk _ _ a _ _ _ => a
def name : T → List UInt8 | .mk _ _ _ a _ _ => a
def o : T → Bool | .mk _ _ _ _ a _ => a
def args : T → List T | .mk _ _ _ _ _ a => a
end T
mutual
def T.av : T → AV
 | .mk op w v n o as => .agg [.int .i64 op,.int .i64 w,.int .u64 v,.str n,.list (T.avs as) (ownB o)]
def T.avs : List T → List AV
 | [] => []
 | t :: r => t.av :: T.avs r
end
theorem T.av_eq (t:T) : t.av = .agg [.int .i64 t.op,.int .i64 t.width,.int .u64 t.val,.str t.name,.list (T.avs t.args) (ownB t.o)] := by cases t; rfl
abbrev T.cells (t:T) : List AV := [.int .i64 t.op,.int .i64 t.width,.int .u64 t.val,.str t.name,.list (T.avs t.args) (ownB t.o)]
theorem T.avs_eq : ∀ as : List T,T.avs as = as.map T.av
 | [] => rfl
 | t :: r => by simp [T.avs,T.avs_eq r]
@[simp] theorem T.avs_len (as:List T) : (T.avs as).length = as.length := by simp [T.avs_eq]
@[simp] theorem T.avs_getElem {as:List T} {i:Nat} (h:i < (T.avs as).length) : (T.avs as)[i] = (as[i]'(by simpa using h)).av := by simp [T.avs_eq]
mutual
def T.wf : T → Prop
 | .mk op w v n o as => (Lit.int .i64 op).wf = true ∧ (Lit.int .i64 w).wf = true ∧ (Lit.int .u64 v).wf = true ∧ n.length ≤ 9223372036854775807 ∧ as.length ≤ 9223372036854775807 ∧ (o = true → as = []) ∧ T.wfs as
def T.wfs : List T → Prop
 | [] => True
 | t :: r => t.wf ∧ T.wfs r
end
theorem T.wfs_iff : ∀ as : List T,T.wfs as ↔ ∀ t,t ∈ as → t.wf
 | [] => by simp [T.wfs]
 | t :: r => by simp [T.wfs,T.wfs_iff r]
theorem T.wf_eq (t:T) : t.wf ↔ (Lit.int .i64 t.op).wf = true ∧ (Lit.int .i64 t.width).wf = true ∧ (Lit.int .u64 t.val).wf = true ∧ t.name.length ≤ 9223372036854775807 ∧ t.args.length ≤ 9223372036854775807 ∧ (t.o = true → t.args = []) ∧ ∀ u,u ∈ t.args → u.wf := by
 cases t; simp only [T.wf,T.op,T.width,T.val,T.name,T.args,T.o,T.wfs_iff]
mutual
def T.same : T → T → Bool
 | .mk a b c d _ as,.mk a' b' c' d' _ as' => a == a' && (b == b' && (c == c' && (d == d' && T.sames as as')))
def T.sames : List T → List T → Bool
 | [],[] => true
 | t :: r,u :: s => t.same u && T.sames r s
 | [],_ :: _ => false
 | _ :: _,[] => false
end
theorem T.same_eq (t u:T) : t.same u = (t.op == u.op && (t.width == u.width && (t.val == u.val && (t.name == u.name && T.sames t.args u.args)))) := by cases t; cases u; rfl
mutual
def T.size : T → Nat
 | .mk _ _ _ _ _ as => 1 + T.sizes as
def T.sizes : List T → Nat
 | [] => 0
 | t :: r => t.size + T.sizes r
end
theorem T.size_eq (t:T) : t.size = 1 + T.sizes t.args := by cases t; rfl
theorem T.ind {p:T → Prop} (h:∀ t : T,(∀ u,u ∈ t.args → p u) → p t) (t:T) : p t :=
 T.rec (motive_1 := p) (motive_2 := fun as => ∀ u,u ∈ as → p u) (fun a b c d e as ih => h _ ih) (fun u hu => by simp at hu)
   (fun t r h1 h2 u hu => by
     rcases List.mem_cons.1 hu with e | hu
     · rw [e]; exact h1
     · exact h2 u hu) t
end Go.Proofs.YtkofimhnehkdoaaGreatDoor.Rf
end
