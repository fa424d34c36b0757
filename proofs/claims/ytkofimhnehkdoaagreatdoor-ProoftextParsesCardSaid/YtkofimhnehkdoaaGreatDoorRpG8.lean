/- A part of the proof: see the last text. -/
import Derived.Test.YtkofimhnehkdoaaGreatDoorRpG1
import Derived.Test.YtkofimhnehkdoaaGreatDoorRpG6
import Derived.Stop.LaidErr
import Derived.LaidSub
import Derived.Test.YtkofimhnehkdoaaGreatDoorRpG7
set_option linter.unusedVariables false
set_option linter.unusedSimpArgs false
section
namespace Go.Proofs.YtkofimhnehkdoaaGreatDoor.Rf
def CallLe (c d:CallF) : Prop := ∀ f vs hp lo q r,c f vs hp lo q = some r → d f vs hp lo q = some r
def LoopLe (c d:LoopF) : Prop := ∀ b st r,c b st = some r → d b st = some r
section
variable {G:Nat → Option (List AV)} {c d:CallF} {lo:Nat}
theorem evalOp_mono (h:CallLe c d) {o:IOp} {st:St} {r:OpR} (e:evalOp G c lo o st = some r) : evalOp G d lo o st = some r := by
 cases o
 case call f xs q =>
   simp only [evalOp] at e ⊢
   split at e
   · cases e
   · rename_i hp
     rw [if_neg hp]
     split at e
     · split at e
       · cases e
       · rename_i hpc
         rw [if_neg hpc]
         split at e
         · rename_i hc; rw [h _ _ _ _ _ _ hc]; exact e
         · rename_i hc; rw [h _ _ _ _ _ _ hc]; exact e
         · cases e
     · cases e
 all_goals exact e
theorem evalOps_mono (h:CallLe c d) : ∀ {os:List IOper} {st:St} {r:Ex × St},evalOps G c lo os st = some r → evalOps G d lo os st = some r
 | [],st,r,e => e
 | o :: os,st,r,e => by
   simp only [evalOps] at e ⊢
   split at e
   · split at e
     · rename_i ho; rw [evalOp_mono h ho]
       split at e
       · rename_i hp; simp only [hp]; exact evalOps_mono h e
       · cases e
     · rename_i ho; rw [evalOp_mono h ho]; exact e
     · cases e
   · split at e
     · rename_i hp; exact evalOps_mono h e
     · cases e
   · cases e
theorem evalDraw_mono (h:CallLe c d) {ops:List IOper} {pans:List Nat} : ∀ {ord:List Nat} {st:St} {r:Ex × St},evalDraw G c lo ops pans ord st = some r → evalDraw G d lo ops pans ord st = some r
 | [],st,r,e => e
 | i :: ord,st,r,e => by
   simp only [evalDraw] at e ⊢
   split at e
   · cases e
   · split at e
     · rename_i ho; rw [evalOps_mono h ho]; exact evalDraw_mono h e
     · rename_i ho; rw [evalOps_mono h ho]; exact e
     · cases e
theorem evalC_mono (h:CallLe c d) {l m:LoopF} (hl:LoopLe l m) : ∀ {x:ICode} {st:St} {r:Ex × St},evalC G c l lo x st = some r → evalC G d m lo x st = some r := by
 intro x
 induction x with
 | skip => intro st r e; exact e
 | region ops live =>
   intro st r e
   simp only [evalC] at e ⊢
   split at e
   · rename_i ho; rw [evalOps_mono h ho]; exact e
   · rename_i hne
     rw [evalOps_mono h e]
     split
     · rename_i s1 hh; cases hh; exact absurd e (by simpa using hne s1)
     · rfl
 | draw ops ord pans live =>
   intro st r e
   simp only [evalC] at e ⊢
   cases hb : evalDraw G c lo ops pans ord st with
   | none => rw [hb] at e; cases e
   | some x => rw [evalDraw_mono h hb]; rw [hb] at e; exact e
 | seq a b iha ihb =>
   intro st r e
   simp only [evalC] at e ⊢
   split at e
   · rename_i ho; rw [iha ho]; exact ihb e
   · rename_i hne
     rw [iha e]
     split
     · rename_i s1 hh; cases hh; exact absurd e (by simpa using hne s1)
     · rfl
 | cond c a b iha ihb =>
   intro st r e
   simp only [evalC] at e ⊢
   split at e
   · split at e
     · rename_i h1; rw [if_pos h1]; exact iha e
     · rename_i h1; rw [if_neg h1]; exact ihb e
   · cases e
 | block id b ih =>
   intro st r e
   simp only [evalC] at e ⊢
   split at e
   · rename_i ho; rw [ih ho]; exact e
   · rename_i hne
     rw [ih e]
     split
     · rename_i i s1 hh; cases hh; exact absurd e (by simpa using hne i s1)
     · rfl
 | loop b ih => intro st r e; exact hl _ _ _ e
 | exit id => intro st r e; exact e
 | ret => intro st r e; exact e
 | stuck => intro st r e; exact e
theorem evalRecv_mono (h:CallLe c d) {l m:LoopF} (hl:LoopLe l m) {IP:IProg} {f:Nat} {caps:List AV} {hp:List HObj} {v:AV} {r:List HObj} (e:evalRecv G IP c l lo f caps hp v = some r) : evalRecv G IP d m lo f caps hp v = some r := by
 simp only [evalRecv] at e ⊢
 split at e
 · cases e
 · split at e
   · split at e
     · cases e
     · rename_i hc
       rw [if_neg hc]
       split at e
       · rename_i ho; rw [evalC_mono h hl ho]; exact e
       · rename_i ho; rw [evalC_mono h hl ho]; exact e
       · cases e
   · cases e
theorem evalFin1_mono (h:CallLe c d) {l m:LoopF} (hl:LoopLe l m) {IP:IProg} {ds:DSpec} {s3:St} {v:AV} {r:Ex × St} (e:evalFin1 G IP c l lo ds s3 v = some r) : evalFin1 G IP d m lo ds s3 v = some r := by
 simp only [evalFin1] at e ⊢
 split at e
 · split at e
   · rename_i h4; rw [evalRecv_mono h hl h4]; exact e
   · cases e
 · cases e
theorem evalFin_mono (h:CallLe c d) {l m:LoopF} (hl:LoopLe l m) {IP:IProg} {ds:DSpec} {b:ICode} {st:St} {r:Ex × St} (e:evalFin G IP c l lo ds (evalC G c l lo b st) = some r) : evalFin G IP d m lo ds (evalC G d m lo b st) = some r := by
 cases hb : evalC G c l lo b st with
 | none => rw [hb] at e; simp [evalFin] at e
 | some x =>
   rw [evalC_mono h hl hb]
   rw [hb] at e
   obtain ⟨ex,s3⟩ := x
   cases ex <;> simp only [evalFin] at e ⊢ <;> first | exact evalFin1_mono h hl e | (cases e; done)
theorem evalF_mono (h:CallLe c d) {l m:LoopF} (hl:LoopLe l m) {IP:IProg} {fn:IFun} {st:St} {r:Ex × St} (e:evalF G IP c l lo fn st = some r) : evalF G IP d m lo fn st = some r := by
 simp only [evalF] at e ⊢
 split at e
 · exact evalC_mono h hl e
 · split at e
   · rename_i ho
     rw [evalC_mono h hl ho]
     simp only
     split at e
     · rename_i hc; rw [if_pos hc]; exact evalFin_mono h hl e
     · cases e
   · rename_i hne
     rw [evalC_mono h hl e]
     split
     · rename_i s1 hh; cases hh; exact absurd e (by simpa using hne s1)
     · rfl
theorem run_succ (IP:IProg) : ∀ k,CallLe (run G IP k).1 (run G IP (k + 1)).1 ∧ ∀ lo,LoopLe ((run G IP k).2 lo) ((run G IP (k + 1)).2 lo)
 | 0 => ⟨fun f vs hp lo q r e => by simp [run] at e,fun lo b st r e => by simp [run] at e⟩
 | k + 1 => by
   obtain ⟨h1,h2⟩ := run_succ IP k
   refine ⟨fun f vs hp lo q r e => ?_,fun lo b st r e => ?_⟩
   · rw [show (run G IP (k + 1)).1 = callBody G IP (run G IP k).1 (run G IP k).2 from rfl] at e
     rw [show (run G IP (k + 1 + 1)).1 = callBody G IP (run G IP (k + 1)).1 (run G IP (k + 1)).2 from rfl]
     simp only [callBody] at e ⊢
     split at e
     · cases e
     · rename_i fn hfn
       split at e
       · cases e
       · rename_i hc
         rw [if_neg hc]
         split at e
         · rename_i ho; rw [evalF_mono h1 (h2 _) ho]; exact e
         · rename_i ho; rw [evalF_mono h1 (h2 _) ho]; exact e
         · rename_i ho; rw [evalF_mono h1 (h2 _) ho]; exact e
         · cases e
   · rw [show (run G IP (k + 1)).2 lo = loopBody G (run G IP k).1 (run G IP k).2 lo from rfl] at e
     rw [show (run G IP (k + 1 + 1)).2 lo = loopBody G (run G IP (k + 1)).1 (run G IP (k + 1)).2 lo from rfl]
     simp only [loopBody] at e ⊢
     split at e
     · rename_i ho; rw [evalC_mono h1 (h2 _) ho]; exact h2 _ _ _ _ e
     · rename_i hne
       rw [evalC_mono h1 (h2 _) e]
       split
       · rename_i s1 hh; cases hh; exact absurd e (by simpa using hne s1)
       · rfl
theorem run_mono {IP:IProg} {k k' : Nat} (h:k ≤ k') : CallLe (run G IP k).1 (run G IP k').1 ∧ ∀ lo,LoopLe ((run G IP k).2 lo) ((run G IP k').2 lo) := by
 induction h with
 | refl => exact ⟨fun _ _ _ _ _ _ e => e,fun _ _ _ _ e => e⟩
 | step h ih =>
   obtain ⟨a,b⟩ := run_succ (G := G) IP _
   exact ⟨fun f vs hp lo q r e => a _ _ _ _ _ _ (ih.1 _ _ _ _ _ _ e),fun lo x st r e => b lo _ _ _ (ih.2 lo _ _ _ e)⟩
end
end Go.Proofs.YtkofimhnehkdoaaGreatDoor.Rf
end
section
namespace Go.Proofs.YtkofimhnehkdoaaGreatDoor.Rf
section
variable (G:Nat → Option (List AV)) (IP:IProg)
open Classical in
noncomputable def callD : CallF := fun f vs hp lo q => if h : ∃ k r,(run G IP k).1 f vs hp lo q = some r then some h.choose_spec.choose else none
open Classical in
noncomputable def loopD (lo:Nat) : LoopF := fun b st => if h : ∃ k r,(run G IP k).2 lo b st = some r then some h.choose_spec.choose else none
variable {G IP}
theorem callD_iff {f:Nat} {vs:List AV} {hp:List HObj} {lo:Nat} {q:Bool} {r:COut} : callD G IP f vs hp lo q = some r ↔ ∃ k,(run G IP k).1 f vs hp lo q = some r := by
 unfold callD
 constructor
 · intro h
   split at h
   · rename_i hh; cases h; exact ⟨_,hh.choose_spec.choose_spec⟩
   · cases h
 · rintro ⟨k,hk⟩
   have hh : ∃ k r,(run G IP k).1 f vs hp lo q = some r := ⟨k,r,hk⟩
   rw [dif_pos hh]
   have e1 := (run_mono (G := G) (IP := IP) (Nat.le_max_left k hh.choose)).1 _ _ _ _ _ _ hk
   have e2 := (run_mono (G := G) (IP := IP) (Nat.le_max_right k hh.choose)).1 _ _ _ _ _ _ hh.choose_spec.choose_spec
   rw [e1] at e2; exact e2.symm
theorem loopD_iff {lo:Nat} {b:ICode} {st:St} {r:Ex × St} : loopD G IP lo b st = some r ↔ ∃ k,(run G IP k).2 lo b st = some r := by
 unfold loopD
 constructor
 · intro h
   split at h
   · rename_i hh; cases h; exact ⟨_,hh.choose_spec.choose_spec⟩
   · cases h
 · rintro ⟨k,hk⟩
   have hh : ∃ k r,(run G IP k).2 lo b st = some r := ⟨k,r,hk⟩
   rw [dif_pos hh]
   have e1 := (run_mono (G := G) (IP := IP) (Nat.le_max_left k hh.choose)).2 lo _ _ _ hk
   have e2 := (run_mono (G := G) (IP := IP) (Nat.le_max_right k hh.choose)).2 lo _ _ _ hh.choose_spec.choose_spec
   rw [e1] at e2; exact e2.symm
theorem run_callD (k:Nat) : CallLe (run G IP k).1 (callD G IP) := fun _ _ _ _ _ _ h => callD_iff.2 ⟨k,h⟩
theorem run_loopD (k lo:Nat) : LoopLe ((run G IP k).2 lo) (loopD G IP lo) := fun _ _ _ h => loopD_iff.2 ⟨k,h⟩
theorem evalOp_cont {lo:Nat} {o:IOp} {st:St} {r:OpR} (e:evalOp G (callD G IP) lo o st = some r) : ∃ k,evalOp G (run G IP k).1 lo o st = some r := by
 cases o
 case call f xs q =>
   simp only [evalOp] at e ⊢
   split at e
   · cases e
   · rename_i hp
     simp only [if_neg hp]
     split at e
     · split at e
       · cases e
       · rename_i hpc
         simp only [if_neg hpc]
         split at e
         · rename_i hc; obtain ⟨k,hk⟩ := callD_iff.1 hc; exact ⟨k,by rw [hk]; exact e⟩
         · rename_i hc; obtain ⟨k,hk⟩ := callD_iff.1 hc; exact ⟨k,by rw [hk]; exact e⟩
         · cases e
     · cases e
 all_goals exact ⟨0,e⟩
theorem evalOps_cont {lo:Nat} : ∀ {os:List IOper} {st:St} {r:Ex × St},evalOps G (callD G IP) lo os st = some r → ∃ k,evalOps G (run G IP k).1 lo os st = some r
 | [],st,r,e => ⟨0,e⟩
 | o :: os,st,r,e => by
   simp only [evalOps] at e ⊢
   split at e
   · split at e
     · rename_i ho
       obtain ⟨k1,h1⟩ := evalOp_cont ho
       split at e
       · rename_i hp
         obtain ⟨k2,h2⟩ := evalOps_cont e
         refine ⟨max k1 k2,?_⟩
         rw [evalOp_mono (run_mono (Nat.le_max_left k1 k2)).1 h1]
         simp only [hp]
         exact evalOps_mono (run_mono (Nat.le_max_right k1 k2)).1 h2
       · cases e
     · rename_i ho
       obtain ⟨k1,h1⟩ := evalOp_cont ho
       exact ⟨k1,by rw [h1]; exact e⟩
     · cases e
   · split at e
     · rename_i hp
       exact evalOps_cont e
     · cases e
   · cases e
theorem evalDraw_cont {lo:Nat} {ops:List IOper} {pans:List Nat} : ∀ {ord:List Nat} {st:St} {r:Ex × St},evalDraw G (callD G IP) lo ops pans ord st = some r → ∃ k,evalDraw G (run G IP k).1 lo ops pans ord st = some r
 | [],st,r,e => ⟨0,e⟩
 | i :: ord,st,r,e => by
   simp only [evalDraw] at e ⊢
   split at e
   · cases e
   · split at e
     · rename_i ho
       obtain ⟨k1,h1⟩ := evalOps_cont ho
       obtain ⟨k2,h2⟩ := evalDraw_cont e
       refine ⟨max k1 k2,?_⟩
       rw [evalOps_mono (run_mono (Nat.le_max_left k1 k2)).1 h1]
       exact evalDraw_mono (run_mono (Nat.le_max_right k1 k2)).1 h2
     · rename_i ho
       obtain ⟨k1,h1⟩ := evalOps_cont ho
       exact ⟨k1,by rw [h1]; exact e⟩
     · cases e
theorem evalC_cont {lo:Nat} : ∀ {x:ICode} {st:St} {r:Ex × St},evalC G (callD G IP) (loopD G IP lo) lo x st = some r → ∃ k,evalC G (run G IP k).1 ((run G IP k).2 lo) lo x st = some r := by
 intro x
 induction x with
 | skip => intro st r e; exact ⟨0,e⟩
 | region ops live =>
   intro st r e
   simp only [evalC] at e ⊢
   split at e
   · rename_i ho; obtain ⟨k,hk⟩ := evalOps_cont ho; exact ⟨k,by rw [hk]; exact e⟩
   · rename_i hne
     obtain ⟨k,hk⟩ := evalOps_cont e
     refine ⟨k,?_⟩
     rw [hk]
     split
     · rename_i s1 hh; cases hh; exact absurd e (by simpa using hne s1)
     · rfl
 | draw ops ord pans live =>
   intro st r e
   simp only [evalC] at e ⊢
   cases hb : evalDraw G (callD G IP) lo ops pans ord st with
   | none => rw [hb] at e; cases e
   | some x =>
     obtain ⟨k,hk⟩ := evalDraw_cont hb
     exact ⟨k,by rw [hk]; rw [hb] at e; exact e⟩
 | seq a b iha ihb =>
   intro st r e
   simp only [evalC] at e ⊢
   split at e
   · rename_i ho
     obtain ⟨k1,h1⟩ := iha ho
     obtain ⟨k2,h2⟩ := ihb e
     refine ⟨max k1 k2,?_⟩
     have m1 := run_mono (G := G) (IP := IP) (Nat.le_max_left k1 k2)
     have m2 := run_mono (G := G) (IP := IP) (Nat.le_max_right k1 k2)
     rw [evalC_mono m1.1 (m1.2 lo) h1]
     exact evalC_mono m2.1 (m2.2 lo) h2
   · rename_i hne
     obtain ⟨k,hk⟩ := iha e
     refine ⟨k,?_⟩
     rw [hk]
     split
     · rename_i s1 hh; cases hh; exact absurd e (by simpa using hne s1)
     · rfl
 | cond c a b iha ihb =>
   intro st r e
   simp only [evalC] at e ⊢
   split at e
   · split at e
     · rename_i h1; simp only [if_pos h1]; exact iha e
     · rename_i h1; simp only [if_neg h1]; exact ihb e
   · cases e
 | block id b ih =>
   intro st r e
   simp only [evalC] at e ⊢
   split at e
   · rename_i ho; obtain ⟨k,hk⟩ := ih ho; exact ⟨k,by rw [hk]; exact e⟩
   · rename_i hne
     obtain ⟨k,hk⟩ := ih e
     refine ⟨k,?_⟩
     rw [hk]
     split
     · rename_i i s1 hh; cases hh; exact absurd e (by simpa using hne i s1)
     · rfl
 | loop b ih => intro st r e; obtain ⟨k,hk⟩ := loopD_iff.1 e; exact ⟨k,hk⟩
 | exit id => intro st r e; exact ⟨0,e⟩
 | ret => intro st r e; exact ⟨0,e⟩
 | stuck => intro st r e; exact ⟨0,e⟩
theorem evalRecv_cont {lo:Nat} {f:Nat} {caps:List AV} {hp:List HObj} {v:AV} {r:List HObj} (e:evalRecv G IP (callD G IP) (loopD G IP lo) lo f caps hp v = some r) : ∃ k,evalRecv G IP (run G IP k).1 ((run G IP k).2 lo) lo f caps hp v = some r := by
 simp only [evalRecv] at e ⊢
 split at e
 · cases e
 · split at e
   · split at e
     · cases e
     · rename_i hc
       simp only [if_neg hc]
       split at e
       · rename_i ho; obtain ⟨k,hk⟩ := evalC_cont ho; exact ⟨k,by rw [hk]; exact e⟩
       · rename_i ho; obtain ⟨k,hk⟩ := evalC_cont ho; exact ⟨k,by rw [hk]; exact e⟩
       · cases e
   · cases e
theorem evalFin1_cont {lo:Nat} {ds:DSpec} {s3:St} {v:AV} {r:Ex × St} (e:evalFin1 G IP (callD G IP) (loopD G IP lo) lo ds s3 v = some r) : ∃ k,evalFin1 G IP (run G IP k).1 ((run G IP k).2 lo) lo ds s3 v = some r := by
 simp only [evalFin1] at e ⊢
 split at e
 · split at e
   · rename_i h4
     obtain ⟨k,hk⟩ := evalRecv_cont h4
     exact ⟨k,by rw [hk]; exact e⟩
   · cases e
 · cases e
theorem evalFin_cont {lo:Nat} {ds:DSpec} {b:ICode} {st:St} {r:Ex × St} (e:evalFin G IP (callD G IP) (loopD G IP lo) lo ds (evalC G (callD G IP) (loopD G IP lo) lo b st) = some r) : ∃ k,evalFin G IP (run G IP k).1 ((run G IP k).2 lo) lo ds (evalC G (run G IP k).1 ((run G IP k).2 lo) lo b st) = some r := by
 cases hb : evalC G (callD G IP) (loopD G IP lo) lo b st with
 | none => rw [hb] at e; simp [evalFin] at e
 | some x =>
   rw [hb] at e
   obtain ⟨k1,h1⟩ := evalC_cont hb
   obtain ⟨ex,s3⟩ := x
   have fin : ∀ v,evalFin1 G IP (callD G IP) (loopD G IP lo) lo ds s3 v = some r → ∃ k,k1 ≤ k ∧ evalFin1 G IP (run G IP k).1 ((run G IP k).2 lo) lo ds s3 v = some r := fun v e => by
     obtain ⟨k2,h2⟩ := evalFin1_cont e
     have m2 := run_mono (G := G) (IP := IP) (Nat.le_max_right k1 k2)
     exact ⟨max k1 k2,Nat.le_max_left _ _,evalFin1_mono m2.1 (m2.2 lo) h2⟩
   have go : ∀ v,evalFin1 G IP (callD G IP) (loopD G IP lo) lo ds s3 v = some r → ∃ k,evalC G (run G IP k).1 ((run G IP k).2 lo) lo b st = some (ex,s3) ∧ evalFin1 G IP (run G IP k).1 ((run G IP k).2 lo) lo ds s3 v = some r := fun v e => by
     obtain ⟨k,q1,q2⟩ := fin v e
     have m1 := run_mono (G := G) (IP := IP) q1
     exact ⟨k,evalC_mono m1.1 (m1.2 lo) h1,q2⟩
   cases ex with
   | normal => obtain ⟨k,q1,q2⟩ := go _ e; exact ⟨k,by rw [q1]; exact q2⟩
   | ret => obtain ⟨k,q1,q2⟩ := go _ e; exact ⟨k,by rw [q1]; exact q2⟩
   | pan v => obtain ⟨k,q1,q2⟩ := go _ e; exact ⟨k,by rw [q1]; exact q2⟩
   | exit i => simp [evalFin] at e
theorem evalF_cont {lo:Nat} {fn:IFun} {st:St} {r:Ex × St} (e:evalF G IP (callD G IP) (loopD G IP lo) lo fn st = some r) : ∃ k,evalF G IP (run G IP k).1 ((run G IP k).2 lo) lo fn st = some r := by
 simp only [evalF] at e ⊢
 split at e
 · exact evalC_cont e
 · split at e
   · rename_i ho
     obtain ⟨k1,h1⟩ := evalC_cont ho
     split at e
     · rename_i hc
       obtain ⟨k2,h2⟩ := evalFin_cont e
       have m1 := run_mono (G := G) (IP := IP) (Nat.le_max_left k1 k2)
       have m2 := run_mono (G := G) (IP := IP) (Nat.le_max_right k1 k2)
       exact ⟨max k1 k2,by rw [evalC_mono m1.1 (m1.2 lo) h1]; simp only; rw [if_pos hc]; exact evalFin_mono m2.1 (m2.2 lo) h2⟩
     · cases e
   · rename_i hne
     obtain ⟨k,hk⟩ := evalC_cont e
     refine ⟨k,?_⟩
     rw [hk]
     split
     · rename_i s1 hh; cases hh; exact absurd e (by simpa using hne s1)
     · rfl
theorem callBody_mono {c d:CallF} {l m:Nat → LoopF} (h:CallLe c d) (hl:∀ lo,LoopLe (l lo) (m lo)) : CallLe (callBody G IP c l) (callBody G IP d m) := by
 intro f vs hp lo q r e
 simp only [callBody] at e ⊢
 split at e
 · cases e
 · rename_i fn hfn
   split at e
   · cases e
   · rename_i hc
     rw [if_neg hc]
     split at e
     · rename_i ho; rw [evalF_mono h (hl _) ho]; exact e
     · rename_i ho; rw [evalF_mono h (hl _) ho]; exact e
     · rename_i ho; rw [evalF_mono h (hl _) ho]; exact e
     · cases e
theorem loopBody_mono {c d:CallF} {l m:Nat → LoopF} (h:CallLe c d) (hl:∀ lo,LoopLe (l lo) (m lo)) (lo:Nat) : LoopLe (loopBody G c l lo) (loopBody G d m lo) := by
 intro b st r e
 simp only [loopBody] at e ⊢
 split at e
 · rename_i ho; rw [evalC_mono h (hl _) ho]; exact hl _ _ _ _ e
 · rename_i hne
   rw [evalC_mono h (hl _) e]
   split
   · rename_i s1 hh; cases hh; exact absurd e (by simpa using hne s1)
   · rfl
theorem opt_ext {α:Type} {a b:Option α} (h1:∀ r,a = some r → b = some r) (h2:∀ r,b = some r → a = some r) : a = b := by
 cases a with
 | none => cases b with
   | none => rfl
   | some r => exact h2 r rfl
 | some r => exact (h1 r rfl).symm
theorem callD_eq (f:Nat) (vs:List AV) (hp:List HObj) (lo:Nat) (q:Bool) : callD G IP f vs hp lo q = callBody G IP (callD G IP) (loopD G IP) f vs hp lo q := by
 apply opt_ext
 · intro r h
   obtain ⟨k,hk⟩ := callD_iff.1 h
   cases k with
   | zero => simp [run] at hk
   | succ k => exact callBody_mono (run_callD k) (run_loopD k) _ _ _ _ _ _ hk
 · intro r e
   suffices ∃ k,callBody G IP (run G IP k).1 (run G IP k).2 f vs hp lo q = some r by
     obtain ⟨k,hk⟩ := this; exact callD_iff.2 ⟨k + 1,hk⟩
   simp only [callBody] at e ⊢
   split at e
   · cases e
   · rename_i fn hfn
     split at e
     · cases e
     · rename_i hc
       simp only [if_neg hc]
       split at e
       · rename_i ho; obtain ⟨k,hk⟩ := evalF_cont ho; exact ⟨k,by rw [hk]; exact e⟩
       · rename_i ho; obtain ⟨k,hk⟩ := evalF_cont ho; exact ⟨k,by rw [hk]; exact e⟩
       · rename_i ho; obtain ⟨k,hk⟩ := evalF_cont ho; exact ⟨k,by rw [hk]; exact e⟩
       · cases e
theorem loopD_eq (lo:Nat) (b:ICode) (st:St) : loopD G IP lo b st = loopBody G (callD G IP) (loopD G IP) lo b st := by
 apply opt_ext
 · intro r h
   obtain ⟨k,hk⟩ := loopD_iff.1 h
   cases k with
   | zero => simp [run] at hk
   | succ k => exact loopBody_mono (run_callD k) (run_loopD k) _ _ _ _ hk
 · intro r e
   suffices ∃ k,loopBody G (run G IP k).1 (run G IP k).2 lo b st = some r by
     obtain ⟨k,hk⟩ := this; exact loopD_iff.2 ⟨k + 1,hk⟩
   simp only [loopBody] at e ⊢
   split at e
   · rename_i ho
     obtain ⟨k1,h1⟩ := evalC_cont ho
     obtain ⟨k2,h2⟩ := loopD_iff.1 e
     refine ⟨max k1 k2,?_⟩
     have m1 := run_mono (G := G) (IP := IP) (Nat.le_max_left k1 k2)
     have m2 := run_mono (G := G) (IP := IP) (Nat.le_max_right k1 k2)
     rw [evalC_mono m1.1 (m1.2 lo) h1]
     exact m2.2 lo _ _ _ h2
   · rename_i hne
     obtain ⟨k,hk⟩ := evalC_cont e
     refine ⟨k,?_⟩
     rw [hk]
     split
     · rename_i s1 hh; cases hh; exact absurd e (by simpa using hne s1)
     · rfl
end
end Go.Proofs.YtkofimhnehkdoaaGreatDoor.Rf
end
section
namespace Go.Proofs.YtkofimhnehkdoaaGreatDoor.Rf
section
variable {H:Type} {enc:TypeId × Value → H} {P:Program} {W:World} {base:Nat}
end
end Go.Proofs.YtkofimhnehkdoaaGreatDoor.Rf
end
section
namespace Go.Proofs.YtkofimhnehkdoaaGreatDoor.Rf
mutual
def datAV {H:Type} : DataW H → Option (List AV)
 | .lit (.int k n) => some [.int k n]
 | .lit (.string s) => some [.str s]
 | .lit (.bool b) => some [.bool b]
 | .agg ds => datAVs ds
 | _ => none
def datAVs {H:Type} : List (DataW H) → Option (List AV)
 | [] => some []
 | d :: r => match datAV d,datAVs r with | some a,some b => some (a ++ b) | _,_ => none
end
section
variable {H:Type} {P:Program}
theorem HasTy.dat : ∀ {n:Nat} {t:TypeId} {cs:List AV} {d:DataW H},HasTy P n t cs d → ∀ {as:List AV},datAV d = some as → cs = as := by
 intro n
 induction n with
 | zero => intro t cs d h; exact h.elim
 | succ n ih =>
   intro t cs d h as hd
   have flat : ∀ {parts:List (List AV)} {els:List (DataW H)} {as:List AV},els.length = parts.length → (∀ (i:Nat) ds d',parts[i]? = some ds → els[i]? = some d' → ∃ e,HasTy P n e ds d') → datAVs els = some as → parts.flatten = as := by
     intro parts
     induction parts with
     | nil => intro els as hl _ hd; cases els with
       | nil => simp [datAVs] at hd; subst hd; rfl
       | cons d r => simp at hl
     | cons ds parts ihp =>
       intro els as hl hh hd
       cases els with
       | nil => simp at hl
       | cons d r =>
         simp only [datAVs] at hd
         split at hd
         · rename_i a b ha hb
           cases hd
           obtain ⟨e,he⟩ := hh 0 _ _ rfl rfl
           rw [List.flatten_cons,ih he ha,ihp (by simpa using hl) (fun i ds d' x y => hh (i + 1) ds d' (by simpa using x) (by simpa using y)) hb]
         · cases hd
   simp only [HasTy] at h
   cases hu : P.underlying t with
   | none => simp [hu] at h
   | some de =>
     rw [hu] at h
     cases de <;> simp only [] at h <;> try (exact h.elim)
     case bool => obtain ⟨b,rfl,rfl⟩ := h; simp [datAV] at hd; exact hd
     case int k => obtain ⟨m,rfl,_,rfl⟩ := h; simp [datAV] at hd; exact hd
     case string => obtain ⟨s,rfl,_,rfl⟩ := h; simp [datAV] at hd; exact hd
     case slice e =>
       rcases h with ⟨rfl,rfl⟩ | ⟨xs,els,rest,_,rfl,_⟩ <;> simp [datAV] at hd
     case struct fs =>
       obtain ⟨parts,els,rfl,rfl,h1,h2,h3⟩ := h
       simp only [datAV] at hd
       refine flat (by omega) (fun i ds d' a b => ?_) hd
       have hi : i < fs.size := by have := (List.getElem?_eq_some_iff.1 a).1; omega
       exact ⟨_,h3 i fs[i] ds d' (Array.getElem?_eq_getElem hi) a b⟩
     case array m e =>
       obtain ⟨parts,els,rfl,rfl,h1,h2,h3⟩ := h
       simp only [datAV] at hd
       exact flat (by omega) (fun i ds d' a b => ⟨e,h3 i ds d' a b⟩) hd
end
section
variable {H:Type} {enc:TypeId × Value → H} {P:Program} {W:World}
def GlobAt (P:Program) (W:World) (b:Nat) (cs:List AV) : Prop := ∃ (vs:List Value) (ty:TypeId),W.heap[b]? = some (.cells vs.toArray ty (0,0)) ∧ VS (gh0 W) W cs vs ∧ Ones vs
theorem laid_mem {laid:List (String × DataW Unit)} : ∀ {l:List (String × DataW Unit)} {ps qs:List MemPlace},DataW.LaidVars P W l ps → (∀ x,x ∈ ps → x ∈ qs) → ∀ {n:String} {d:DataW Unit},(n,d) ∈ l →
   ∃ g t cs fuel p,P.globalNamed n = some g ∧ (P.globals[g]?).map (·.type) = some t ∧ W.var? P n = some cs ∧ DataW.trod (fun _ => ()) P W 0 (fun _ => true) false fuel t cs.toList = some (d,p) ∧ ∀ x,x ∈ MemPlace.row ⟨g,0,none⟩ cs.size → x ∈ qs
 | [],ps,qs,_,_,n,d,h => by simp at h
 | (m,e) :: r,ps,qs,⟨g,t,cs,fuel,p,q,h1,h2,h3,h4,h5,h6⟩,hq,n,d,hm => by
   rcases List.mem_cons.1 hm with e1 | hm
   · cases e1
     exact ⟨g,t,cs,fuel,p,h1,h2,h3,h4,fun x hx => hq x (by rw [h6]; simp [hx])⟩
   · exact laid_mem (laid := laid) h5 (fun x hx => hq x (by rw [h6]; simp [hx])) hm
theorem glob_dat {S:List TypeId} (hS:covS P S = true) {laid:List (String × DataW Unit)} (h:laidMet P laid W) {n:String} {d:DataW Unit} (hm:(n,d) ∈ laid) {g:Nat} (hg:P.globalNamed n = some g) {t:TypeId} (ht:(P.globals[g]?).map (·.type) = some t) (hc:t ∈ S)
   {as:List AV} (hd:datAV d = some as) (h0:as ≠ []) : GlobAt P W g as := by
 obtain ⟨ps,hl,_,hrows⟩ := h
 obtain ⟨g1,t1,cs,fuel,p,h1,h2,h3,h4,h5⟩ := laid_mem (laid := laid) hl (fun _ h => h) hm
 obtain rfl := Option.some.inj (hg.symm.trans h1)
 obtain rfl := Option.some.inj (ht.symm.trans h2)
 obtain ⟨avs,v1,v2,v3,_⟩ := trod_V (g := gh0 W) hS (fun b o h => gh0_imm h) fuel t _ _ hc h4
 have hav := v3.dat hd
 subst hav
 have hsz : 0 < cs.size := by
   have := v1.len
   cases avs with
   | nil => exact absurd rfl h0
   | cons a r => simp at this; omega
 have hcell : MemPlace.cell g 0 ∈ ps := h5 _ (by
   unfold MemPlace.row
   simp only [List.mem_map,List.mem_range]
   exact ⟨0,hsz,by simp [MemPlace.cell,Addr.add]⟩)
 obtain ⟨⟨c,ty,hh⟩,_⟩ := hrows g 0 hcell
 unfold World.var? at h3
 rw [hg] at h3
 simp only [Option.bind_some,hh] at h3
 cases h3
 exact ⟨cs.toList,ty,by simpa using hh,v1,v2⟩
theorem glob_err {laid:List (String × DataW Unit)} (h:laidMet P laid W) {n nm:String} {text:List UInt8} {r:List (String × DataW Unit)} (hl:∃ pre,laid = pre ++ (n,.iface nm (.ptr (.agg [.lit (.string text)]))) :: r)
   {g:Nat} {ti tp te ts:TypeId} {ms:Array (String × TypeId)} {f:Field} (hg:P.globalNamed n = some g) (ht:(P.globals[g]?).map (·.type) = some ti) (hi:P.underlying ti = some (.interface ms)) (hrow:∀ u,P.typeName? 3 u = some nm → u = tp)
   (hp:P.underlying tp = some (.pointer te)) (he:P.underlying te = some (.struct #[f])) (hft:f.type = ts) (hfo:f.offset = 0) (hs:P.underlying ts = some .string) (hc:P.cellsOf te = 1) (hcs:P.cellsOf ts = 1) : GlobAt P W g [.iface tp .none] := by
 obtain ⟨pre,rfl⟩ := hl
 have h' : laidMet P ((n,.iface nm (.ptr (.agg [.lit (.string text)]))) :: r) W := by
   induction pre with
   | nil => exact h
   | cons x pre ih => exact ih h.tail
 obtain ⟨a,s,e1,_⟩ := laid_sentinel h' hg ht hi hrow hp he hft hfo hs hc hcs
 obtain ⟨ps,hl,_,hrows⟩ := h'
 obtain ⟨g1,t1,cs,fuel,p,h1,h2,h3,h4,h5⟩ := laid_mem (laid := []) hl (fun _ h => h) (List.mem_cons_self ..)
 obtain rfl := Option.some.inj (hg.symm.trans h1)
 rw [e1] at h3; cases h3
 have hcell : MemPlace.cell g 0 ∈ ps := h5 _ (by
   unfold MemPlace.row
   simp only [List.mem_map,List.mem_range]
   exact ⟨0,by simp,by simp [MemPlace.cell,Addr.add]⟩)
 obtain ⟨⟨c,ty,hh⟩,_⟩ := hrows g 0 hcell
 unfold World.var? at e1
 rw [hg] at e1
 simp only [Option.bind_some,hh] at e1
 cases e1
 exact ⟨_,ty,hh,by simp only [VS,V]; exact ⟨_,[],rfl,⟨_,rfl,trivial⟩,rfl⟩,by intro u hu; simp at hu; subst hu; rfl⟩
end
mutual
def AV.lim : AV → Prop
 | .str s => s.length ≤ 140737488351232
 | .agg cs => AV.lims cs
 | .list xs _ => AV.lims xs
 | _ => True
def AV.lims : List AV → Prop
 | [] => True
 | v :: r => v.lim ∧ AV.lims r
end
theorem AV.lims_iff : ∀ l : List AV,AV.lims l ↔ ∀ v,v ∈ l → v.lim
 | [] => by simp [AV.lims]
 | v :: r => by simp [AV.lims,AV.lims_iff r]
theorem AV.lims_flatten {parts:List (List AV)} (h:∀ p,p ∈ parts → AV.lims p) : AV.lims parts.flatten := by
 rw [AV.lims_iff]
 intro v hv
 obtain ⟨p,hp,hv⟩ := List.mem_flatten.1 hv
 exact (AV.lims_iff p).1 (h p hp) v hv
section
variable {H:Type} {P:Program}
theorem elemAV_lim {e:TypeId} {ds:List AV} (h:AV.lims ds) : (elemAV P e ds).lim := by
 unfold elemAV
 split
 · exact h
 · cases ds with
   | nil => trivial
   | cons a r => exact h.1
theorem weightsAll_mem {e:TypeId} : ∀ {els:List (DataW H)} {i:Nat} {d:DataW H},els[i]? = some d → ∀ n,n ∈ d.weights P e → n ∈ DataW.weightsAll P e els
 | [],i,d,h => by simp at h
 | x :: r,0,d,h => by simp at h; subst h; intro n hn; simp [DataW.weightsAll,hn]
 | x :: r,i + 1,d,h => by
   intro n hn
   simp only [DataW.weightsAll,List.mem_append]
   exact .inr (weightsAll_mem (by simpa using h) n hn)
theorem HasTy.lim : ∀ {n:Nat} {t:TypeId} {cs:List AV} {d:DataW H},HasTy P n t cs d → (∀ m,m ∈ d.weights P t → m ≤ reachBytes) → AV.lims cs := by
 intro n
 induction n with
 | zero => intro t cs d h; exact h.elim
 | succ n ih =>
   intro t cs d h hz
   simp only [HasTy] at h
   cases hu : P.underlying t with
   | none => simp [hu] at h
   | some de =>
     rw [hu] at h
     cases de <;> simp only [] at h <;> try (exact h.elim)
     case bool => obtain ⟨b,rfl,rfl⟩ := h; simp [AV.lims,AV.lim]
     case int k => obtain ⟨m,rfl,_,rfl⟩ := h; simp [AV.lims,AV.lim]
     case string =>
       obtain ⟨s,rfl,_,rfl⟩ := h
       simp only [AV.lims,AV.lim,and_true]
       have := hz s.length (by simp [DataW.weights])
       simpa [reachBytes] using this
     case slice e =>
       rcases h with ⟨rfl,rfl⟩ | ⟨xs,els,rest,rfl,rfl,hl,_,hx⟩
       · simp [AV.lims,AV.lim]
       · simp only [AV.lims,AV.lim,and_true]
         rw [AV.lims_iff]
         intro v hv
         obtain ⟨i,hi⟩ := List.mem_iff_getElem?.1 hv
         have hil := (List.getElem?_eq_some_iff.1 hi).1
         have he : els[i]? = some els[i] := List.getElem?_eq_getElem (by omega)
         obtain ⟨ds,rfl,hds⟩ := hx i v _ hi he
         exact elemAV_lim (ih hds fun m hm => hz m (by
           simp only [DataW.weights,hu,List.mem_cons,List.mem_append]
           exact .inr (.inl (weightsAll_mem he m hm))))
     case struct fs =>
       obtain ⟨parts,els,rfl,rfl,h1,h2,h3⟩ := h
       refine AV.lims_flatten fun p hp => ?_
       obtain ⟨i,hi⟩ := List.mem_iff_getElem?.1 hp
       have hil := (List.getElem?_eq_some_iff.1 hi).1
       have he : els[i]? = some els[i] := List.getElem?_eq_getElem (by omega)
       have hf : fs[i]? = some fs[i] := Array.getElem?_eq_getElem (by omega)
       exact ih (h3 i _ _ _ hf hi he) fun m hm => hz m (by
         simp only [DataW.weights,hu]
         exact DataW.weights_mem_each (j := i) (by simp [hf]) he m hm)
     case array m e =>
       obtain ⟨parts,els,rfl,rfl,h1,h2,h3⟩ := h
       refine AV.lims_flatten fun p hp => ?_
       obtain ⟨i,hi⟩ := List.mem_iff_getElem?.1 hp
       have hil := (List.getElem?_eq_some_iff.1 hi).1
       have he : els[i]? = some els[i] := List.getElem?_eq_getElem (by omega)
       exact ih (h3 i _ _ hi he) fun m hm => hz m (by
         simp only [DataW.weights,hu]
         exact weightsAll_mem he m hm)
theorem ArgsTy.lims : ∀ {ts:List TypeId} {vs:List AV} {ds:List (DataW H)},ArgsTy P ts vs ds → (∀ (j:Nat) t d,ts[j]? = some t → ds[j]? = some d → ∀ m,m ∈ d.weights P t → m ≤ reachBytes) → AV.lims vs
 | _,_,_,.nil,_ => trivial
 | _,_,_,.cons h k,hz => by
   obtain ⟨n,cs,rfl,h⟩ := h
   exact ⟨elemAV_lim (h.lim (hz 0 _ _ rfl rfl)),k.lims fun j t d a b => hz (j + 1) t d (by simpa using a) (by simpa using b)⟩
end
section
variable {H:Type} {enc:TypeId × Value → H} {P:Program} {W:World} {base:Nat}
theorem calls_of_runG {G:Nat → Option (List AV)} (hG:∀ b cs,G b = some cs → GlobAt P W b cs) (hm:P.follows .mixedOrders = true) {IP:IProg} (hIP:∀ f fn,IP f = some fn → chkFun P f fn = true) {f:FuncId} {avs:List AV} {us:List Value} (hv:VS (gh0 W) W avs us) (hno:avs.all noOwn = true)
   {k:Nat} {q:Bool} {hp:List HObj} (hr:(run G IP k).1 f avs [] 0 q = some (.ret (.bool true) hp)) :
   Calls P f us.toArray W fun e W' => e = .returned (.bool true) ∧ RowKit.Below W.heap.size W W' := by
 obtain ⟨hc,_⟩ := run_sound (G := G) hm hIP k
 have hpl : plains avs = true := by
   simp only [plains,List.all_eq_true] at hno ⊢
   intro x hx
   have := hno x hx
   cases x <;> simp_all [noOwn,AV.plain]
 have hrel : Rel G (gh0 W) ⟨[],[]⟩ (avs.zip us) #[] W := by
   refine ⟨fun s => by simp [Fr.get,VF,VX,V,Owns],fun j v cv hj => ?_,⟨rfl,fun id o h => by simp at h⟩,fun b o hb => by simp only [gh0]; rw [if_neg (by omega)],fun b cs h => ?_⟩
   · obtain ⟨h1,h2⟩ := zip_get hj
     have hvv := hv.get' h1 h2
     have hn : noOwn v = true := by simp only [List.all_eq_true] at hno; exact hno v (List.mem_of_getElem? h1)
     have hp' : v.plain = true := by simp only [plains,List.all_eq_true] at hpl; exact hpl v (List.mem_of_getElem? h1)
     rw [VF_loose (AV.loose_of_plain hp'),VX_plain hp']
     refine ⟨hvv,Owns.not_own (fun xs sz e0 e => ?_) fun vs e => ?_⟩
     · rw [e] at hn; simp [noOwn] at hn
     · rw [e] at hn; simp [noOwn] at hn
   · obtain ⟨vs,ty,h1,h2,h3⟩ := hG b cs h
     exact ⟨vs,ty,h1,⟨h2,h3⟩,fun o => gh0_imm (Array.getElem?_eq_some_iff.1 h1).1⟩
 obtain ⟨_,hcall⟩ := hc f avs [] 0 q _ (gh0 W) W us hr hv.len hpl hrel
 refine Calls.mono hcall fun e W' h => ?_
 cases e with
 | returned cv =>
   obtain ⟨g',v,hp',e1,k1,s1⟩ := h
   cases e1
   have f1 := k1.ps 0 _ _ rfl
   rw [VF_loose rfl] at f1
   simp only [VX,V] at f1
   refine ⟨by rw [f1.1],s1.os,s1.tape,s1.output,s1.size,fun b hb => s1.blk b hb fun o => ?_⟩
   rw [gh0_imm hb]; exact ⟨trivial,by simp⟩
 | panicked chain =>
   obtain ⟨g',v,hp',cv,e1,_⟩ := h
   cases e1
 | outgrown => exact h.elim
theorem law_endG {G:Nat → Option (List AV)} (hG:∀ b cs,G b = some cs → GlobAt P W b cs) (hm:P.follows .mixedOrders = true) {IP:IProg} (hIP:∀ f fn,IP f = some fn → chkFun P f fn = true) (hlaid:laidOutB P = true) {S:List TypeId} (hS:covS P S = true) {f:FuncId} {fn:Func}
   (hp:fn.params.toList.all (fun t => S.contains t && P.readableRec t && Nat.blt t P.types.size) = true) {s:ChangeSpec} (hvars:s.vars = []) {tb:TypeId} (hres:fn.resultTypes = #[tb]) (hb:P.underlying tb = some .bool)
   (hspec:∀ ds : List (DataW H),ds.length = fn.params.size → s.fn H (ds ++ []) = ⟨[.lit (.bool true)],ds,[]⟩) {args:Array Value} {ds gs:List (DataW H)} {before:List MemPlace}
   (hval:∀ (j:Nat) t v,fn.params[j]? = some t → args[j]? = some v → Value.okWide P W .any base t v) (hW:DataW.Whole enc P fn.params.toList s.vars false W args.toList ds gs before)
   (hz:(DataW.weightsEach P (fn.params.toList ++ s.plain.varTypes P) (ds ++ gs)).all (· ≤ reachBytes) = true)
   (hrun:∀ avs,ArgsTy P fn.params.toList avs ds → AV.lims avs → ∃ q hp,callD G IP f avs [] 0 q = some (.ret (.bool true) hp)) :
   Calls P f args W fun e W' => ∃ v,e = .returned v ∧ s.post enc P fn false true false false W args v W' := by
 have hW0 := hW
 obtain ⟨p,q,hA,hV,rfl,hfz,hnd⟩ := hW
 have hgs : gs = [] ∧ q = [] := by
   rw [hvars] at hV
   cases gs with
   | nil => exact ⟨rfl,hV⟩
   | cons g gs => exact hV.elim
 obtain ⟨rfl,rfl⟩ := hgs
 simp only [List.all_eq_true,Bool.and_eq_true] at hp
 obtain ⟨avs,a1,a2,a3⟩ := args_V hS (fun t ht => by have := (hp t ht).1.1; simpa using this) (fun j t v h1 h2 => hval j t v (by simpa using h1) (by simpa using h2)) hA
 have hlen := trodAll_len hA
 have hlim : AV.lims avs := a3.lims fun j t d h1 h2 m hm => by
   have := List.all_eq_true.1 hz m (DataW.weights_mem_each (j := j) (by rw [List.getElem?_append,if_pos (List.getElem?_eq_some_iff.1 h1).1]; exact h1) (by simpa using h2) m hm)
   simpa using this
 obtain ⟨q,hp',hr⟩ := hrun avs a3 hlim
 obtain ⟨k,hr⟩ := callD_iff.1 hr
 have hsp := hspec ds (by simpa using hlen.1)
 have hcall := calls_of_runG hG hm hIP a1 a2 hr
 rw [show args.toList.toArray = args by simp] at hcall
 refine Calls.mono hcall fun e W' ⟨he,bel⟩ => ⟨_,he,ds,[],p ++ [],[],p,[],hW0,?_,?_,?_,bel.frame _,fun h => by cases h⟩
 · rw [hsp,hres]; exact ChangeShapes.trodAll_mk1 (open Go.ChangeShapes Go.WideShapes Go.ChangeAt Go.RowKit in shut_bool hb _)
 · rw [hsp]
   exact args_back hlaid bel (fun t ht => by
     have := hp t ht
     exact ⟨this.1.2,by simpa using this.2⟩) hA
 · rw [hsp,hvars]; rfl
end
end Go.Proofs.YtkofimhnehkdoaaGreatDoor.Rf
end
section
namespace Go.Proofs.YtkofimhnehkdoaaGreatDoor.Rf
attribute [simp] ownE frzs frz1 callBody evalF evalRecv evalFin evalFin1 toHeap ptrsFrom setPtrs AV.husk Fr.husk evalC evalDraw evalOps evalOp opd opds wanted St.put ret1 Fr.get Fr.set Fr.keep Fr.keepOk AV.loose evalRess evalRes1 AV.plain plains tupOf AV.closed AV.closedL enter memOk behind behindPut cut put ofCells binAV intBin strBin shiftBin eqAV unAV bound AV.spread AV.cells buildCells fillElems keyEq
@[simp] theorem Own.cp_nil : Own.cp .nil = .nil := rfl
@[simp] theorem Own.cp_no : Own.cp .no = .no := rfl
@[simp] theorem Own.cp_tightT : Own.cp .tight = .no := rfl
@[simp] theorem Own.ck_tight : Own.ck .tight = .tight := rfl
@[simp] theorem Own.ck_no : Own.ck .no = .no := rfl
@[simp] theorem Own.ck_nil : Own.ck .nil = .nil := rfl
@[simp] theorem Own.ck_own0 (n:Nat) : Own.ck (.own n 0) = .no := rfl
@[simp] theorem Own.ck_ownS (n e:Nat) : Own.ck (.own n (e + 1)) = .view (e + 1) := by simp [Own.ck,Own.cp,Own.vw]
@[simp] theorem Own.ck_view (e:Nat) : Own.ck (.view (e + 1)) = .view (e + 1) := by simp [Own.ck,Own.cp,Own.vw]
@[simp] theorem Own.cp_own0 (n:Nat) : Own.cp (.own n 0) = .no := rfl
@[simp] theorem Own.cp_ownS (n e:Nat) : Own.cp (.own n (e + 1)) = .view (e + 1) := by simp [Own.cp,Own.vw]
@[simp] theorem Own.cp_cp (o:Own) : o.cp.cp = o.cp := by
 cases o with
 | no => rfl
 | nil => rfl
 | own n e => by_cases h : e = 0 <;> simp [Own.cp,Own.vw,h]
 | view e => by_cases h : e = 0 <;> simp [Own.cp,Own.vw,h]
 | tight => rfl
@[simp] theorem Own.ck_cp (o:Own) : o.cp.ck = o.cp := by
 cases o with
 | no => rfl
 | nil => rfl
 | own n e => by_cases h : e = 0 <;> simp [Own.ck,Own.cp,Own.vw,h]
 | view e => by_cases h : e = 0 <;> simp [Own.ck,Own.cp,Own.vw,h]
 | tight => rfl
section
variable (k:IntKind) (n:Int) (b:Bool) (s:List UInt8) (xs cs:List AV) (o:Own) (i j:Nat) (v:AV)
@[simp] theorem ck1_none : AV.ck1 .none = .none := rfl
@[simp] theorem ck1_bool : AV.ck1 (.bool b) = .bool b := rfl
@[simp] theorem ck1_int' : AV.ck1 (.int k n) = .int k n := rfl
@[simp] theorem ck1_str : AV.ck1 (.str s) = .str s := rfl
@[simp] theorem ck1_agg : AV.ck1 (.agg cs) = .agg cs := rfl
@[simp] theorem ck1_list : AV.ck1 (.list xs o) = .list xs o.ck := rfl
@[simp] theorem ck1_ptr : AV.ck1 (.ptr i j) = .ptr i j := rfl
@[simp] theorem ck1_nilp : AV.ck1 .nilp = .nilp := rfl
@[simp] theorem ck1_sref (a b c d:Nat) : AV.ck1 (.sref a b c d) = .sref a b c d := rfl
@[simp] theorem ck1_lref : AV.ck1 (.lref i j) = .lref i j := rfl
@[simp] theorem ck1_box : AV.ck1 (.box cs) = .box cs := rfl
@[simp] theorem ck1_eref : AV.ck1 (.eref v i) = .eref v i := rfl
@[simp] theorem ck1_lastr : AV.ck1 (.lastr i) = .lastr i := rfl
@[simp] theorem ck1_map : AV.ck1 (.map i) = .map i := rfl
@[simp] theorem ck1_nilm : AV.ck1 .nilm = .nilm := rfl
@[simp] theorem ck1_func : AV.ck1 (.func i cs) = .func i cs := rfl
@[simp] theorem ck1_nilf : AV.ck1 .nilf = .nilf := rfl
@[simp] theorem ck1_iface : AV.ck1 (.iface i v) = .iface i v := rfl
@[simp] theorem ck1_nili : AV.ck1 .nili = .nili := rfl
@[simp] theorem ck1_glob : AV.ck1 (.glob i j) = .glob i j := rfl
@[simp] theorem ck1_tup : AV.ck1 (.tup cs) = .tup cs := rfl
@[simp] theorem cp1_none : AV.cp1 .none = .none := rfl
@[simp] theorem cp1_bool : AV.cp1 (.bool b) = .bool b := rfl
@[simp] theorem cp1_int' : AV.cp1 (.int k n) = .int k n := rfl
@[simp] theorem cp1_str : AV.cp1 (.str s) = .str s := rfl
@[simp] theorem cp1_agg : AV.cp1 (.agg cs) = .agg cs := rfl
@[simp] theorem cp1_list : AV.cp1 (.list xs o) = .list xs o.cp := by cases o <;> rfl
@[simp] theorem cp1_ptr : AV.cp1 (.ptr i j) = .ptr i j := rfl
@[simp] theorem cp1_nilp : AV.cp1 .nilp = .nilp := rfl
@[simp] theorem cp1_sref (a b c d:Nat) : AV.cp1 (.sref a b c d) = .sref a b c d := rfl
@[simp] theorem cpA_sref (a b c d:Nat) : AV.cpA (.sref a b c d) = .sref a b c d := rfl
@[simp] theorem cp_sref (a b c d:Nat) : AV.cp (.sref a b c d) = .sref a b c d := rfl
@[simp] theorem cp1_lref : AV.cp1 (.lref i j) = .lref i j := rfl
@[simp] theorem cp1_box : AV.cp1 (.box cs) = .box cs := rfl
@[simp] theorem cp1_eref : AV.cp1 (.eref v i) = .eref v i := rfl
@[simp] theorem cp1_lastr : AV.cp1 (.lastr i) = .lastr i := rfl
@[simp] theorem cp1_map : AV.cp1 (.map i) = .map i := rfl
@[simp] theorem cp1_nilm : AV.cp1 .nilm = .nilm := rfl
@[simp] theorem cp1_func : AV.cp1 (.func i cs) = .func i cs := rfl
@[simp] theorem cp1_nilf : AV.cp1 .nilf = .nilf := rfl
@[simp] theorem cp1_iface : AV.cp1 (.iface i v) = .iface i v := rfl
@[simp] theorem cp1_nili : AV.cp1 .nili = .nili := rfl
@[simp] theorem cp1_glob : AV.cp1 (.glob i j) = .glob i j := rfl
@[simp] theorem cp1_tup : AV.cp1 (.tup cs) = .tup cs := rfl
@[simp] theorem cpA_none : AV.cpA .none = .none := rfl
@[simp] theorem cpA_bool : AV.cpA (.bool b) = .bool b := rfl
@[simp] theorem cpA_int' : AV.cpA (.int k n) = .int k n := rfl
@[simp] theorem cpA_str : AV.cpA (.str s) = .str s := rfl
@[simp] theorem cpA_agg : AV.cpA (.agg cs) = .agg (cs.map AV.cp1) := rfl
@[simp] theorem cpA_list : AV.cpA (.list xs o) = .list xs o.cp := by cases o <;> rfl
@[simp] theorem cpA_ptr : AV.cpA (.ptr i j) = .ptr i j := rfl
@[simp] theorem cpA_nilp : AV.cpA .nilp = .nilp := rfl
@[simp] theorem cpA_map : AV.cpA (.map i) = .map i := rfl
@[simp] theorem cpA_nilm : AV.cpA .nilm = .nilm := rfl
@[simp] theorem cpA_func : AV.cpA (.func i cs) = .func i cs := rfl
@[simp] theorem cpA_nilf : AV.cpA .nilf = .nilf := rfl
@[simp] theorem cpA_iface : AV.cpA (.iface i v) = .iface i v := rfl
@[simp] theorem cpA_nili : AV.cpA .nili = .nili := rfl
@[simp] theorem cpA_glob : AV.cpA (.glob i j) = .glob i j := rfl
@[simp] theorem cp_none : AV.cp .none = .none := rfl
@[simp] theorem cp_bool : AV.cp (.bool b) = .bool b := rfl
@[simp] theorem cp_int' : AV.cp (.int k n) = .int k n := rfl
@[simp] theorem cp_str : AV.cp (.str s) = .str s := rfl
@[simp] theorem cp_agg : AV.cp (.agg cs) = .agg (cs.map AV.cp1) := rfl
@[simp] theorem cp_list : AV.cp (.list xs o) = .list xs o.cp := by cases o <;> rfl
@[simp] theorem cp_ptr : AV.cp (.ptr i j) = .ptr i j := rfl
@[simp] theorem cp_nilp : AV.cp .nilp = .nilp := rfl
@[simp] theorem cp_lref : AV.cp (.lref i j) = .lref i j := rfl
@[simp] theorem cp_box : AV.cp (.box cs) = .box cs := rfl
@[simp] theorem cp_eref : AV.cp (.eref v i) = .eref v i := rfl
@[simp] theorem cp_lastr : AV.cp (.lastr i) = .lastr i := rfl
@[simp] theorem cp_map : AV.cp (.map i) = .map i := rfl
@[simp] theorem cp_nilm : AV.cp .nilm = .nilm := rfl
@[simp] theorem cp_func : AV.cp (.func i cs) = .func i cs := rfl
@[simp] theorem cp_nilf : AV.cp .nilf = .nilf := rfl
@[simp] theorem cp_iface : AV.cp (.iface i v) = .iface i v := rfl
@[simp] theorem cp_nili : AV.cp .nili = .nili := rfl
@[simp] theorem cp_glob : AV.cp (.glob i j) = .glob i j := rfl
@[simp] theorem cp_tup : AV.cp (.tup cs) = .tup (cs.map AV.cpA) := rfl
end
section
variable {G:Nat → Option (List AV)} {IP:IProg}
theorem loop_iter {lo:Nat} {b:ICode} (S:Nat → St) (n:Nat) {r:Ex × St} (hstep:∀ i,i < n → evalC G (callD G IP) (loopD G IP lo) lo b (S i) = some (.normal,S (i + 1)))
   (hend:evalC G (callD G IP) (loopD G IP lo) lo b (S n) = some r) (hr:∀ s,r ≠ (.normal,s)) : loopD G IP lo b (S 0) = some r := by
 have h : ∀ k,k ≤ n → loopD G IP lo b (S (n - k)) = some r := by
   intro k
   induction k with
   | zero =>
     intro _
     rw [loopD_eq,loopBody,Nat.sub_zero,hend]
     split
     · rename_i s hh; cases hh; exact absurd rfl (hr s)
     · rfl
   | succ k ih =>
     intro hk
     have h1 := hstep (n - (k + 1)) (by omega)
     rw [show n - (k + 1) + 1 = n - k by omega] at h1
     rw [loopD_eq,loopBody,h1]
     exact ih (by omega)
 have := h n (Nat.le_refl n)
 rwa [Nat.sub_self] at this
theorem loop_some {lo:Nat} {b:ICode} (S:Nat → St) (n:Nat) (p:Nat → Bool) (Y:Nat → Ex × St) (r:Ex × St)
   (hstep:∀ i,i < n → p i = false → evalC G (callD G IP) (loopD G IP lo) lo b (S i) = some (.normal,S (i + 1)))
   (hyes:∀ i,i < n → p i = true → evalC G (callD G IP) (loopD G IP lo) lo b (S i) = some (Y i)) (hY:∀ i s,Y i ≠ (.normal,s))
   (hend:evalC G (callD G IP) (loopD G IP lo) lo b (S n) = some r) (hr:∀ s,r ≠ (.normal,s)) :
   (∃ m,m < n ∧ p m = true ∧ (∀ j,j < m → p j = false) ∧ loopD G IP lo b (S 0) = some (Y m)) ∨ ((∀ i,i < n → p i = false) ∧ loopD G IP lo b (S 0) = some r) := by
 by_cases hc : ∃ i,i < n ∧ p i = true
 · have : ∃ m,(m < n ∧ p m = true) ∧ ∀ j,j < m → p j = false := by
     obtain ⟨i,hi⟩ := hc
     induction i using Nat.strongRecOn with
     | _ i ih =>
       by_cases hj : ∃ j,j < i ∧ p j = true
       · obtain ⟨j,h1,h2⟩ := hj; exact ih j h1 ⟨by omega,h2⟩
       · refine ⟨i,hi,fun j h1 => ?_⟩
         cases h2 : p j with
         | false => rfl
         | true => exact absurd ⟨j,h1,h2⟩ hj
   obtain ⟨m,⟨h1,h2⟩,h3⟩ := this
   exact .inl ⟨m,h1,h2,h3,loop_iter S m (fun i hi => hstep i (by omega) (h3 i hi)) (hyes m h1 h2) (hY m)⟩
 · have h0 : ∀ i,i < n → p i = false := fun i hi => by
     cases h2 : p i with
     | false => rfl
     | true => exact absurd ⟨i,hi,h2⟩ hc
   exact .inr ⟨h0,loop_iter S n (fun i hi => hstep i hi (h0 i hi)) hend hr⟩
theorem loop_find {lo:Nat} {b:ICode} (S:Nat → St) (n:Nat) (p:Nat → Bool) (Y r:Ex × St)
   (hstep:∀ i,i < n → p i = false → evalC G (callD G IP) (loopD G IP lo) lo b (S i) = some (.normal,S (i + 1)))
   (hyes:∀ i,i < n → p i = true → evalC G (callD G IP) (loopD G IP lo) lo b (S i) = some Y) (hY:∀ s,Y ≠ (.normal,s))
   (hend:evalC G (callD G IP) (loopD G IP lo) lo b (S n) = some r) (hr:∀ s,r ≠ (.normal,s)) : loopD G IP lo b (S 0) = some (if (List.range n).any p then Y else r) := by
 by_cases hc : ∃ i,i < n ∧ p i = true
 · have : ∃ m,(m < n ∧ p m = true) ∧ ∀ j,j < m → p j = false := by
     obtain ⟨i,hi⟩ := hc
     induction i using Nat.strongRecOn with
     | _ i ih =>
       by_cases hj : ∃ j,j < i ∧ p j = true
       · obtain ⟨j,h1,h2⟩ := hj; exact ih j h1 ⟨by omega,h2⟩
       · refine ⟨i,hi,fun j h1 => ?_⟩
         cases h2 : p j with
         | false => rfl
         | true => exact absurd ⟨j,h1,h2⟩ hj
   obtain ⟨m,⟨h1,h2⟩,h3⟩ := this
   rw [if_pos (by simp only [List.any_eq_true,List.mem_range]; exact ⟨m,h1,h2⟩)]
   exact loop_iter S m (fun i hi => hstep i (by omega) (h3 i hi)) (hyes m h1 h2) hY
 · rw [if_neg (by simp only [List.any_eq_true,List.mem_range]; exact hc)]
   refine loop_iter S n (fun i hi => hstep i hi ?_) hend hr
   cases h2 : p i with
   | false => rfl
   | true => exact absurd ⟨i,hi,h2⟩ hc
end
@[simp] theorem ck1_int (k:IntKind) : AV.ck1 ∘ AV.int k = AV.int k := rfl
@[simp] theorem cp1_int (k:IntKind) : AV.cp1 ∘ AV.int k = AV.int k := rfl
@[simp] theorem beqI (a b:Int) : (a == b) = decide (a = b) := by by_cases h : a = b <;> simp [h]
@[simp] theorem bneI (a b:Int) : (a != b) = !decide (a = b) := by by_cases h : a = b <;> simp [h]
@[simp] theorem beqS (a b:List UInt8) : (a == b) = decide (a = b) := by by_cases h : a = b <;> simp [h]
@[simp] theorem bneS (a b:List UInt8) : (a != b) = !decide (a = b) := by by_cases h : a = b <;> simp [h]
@[simp] theorem okSize_nil (n:Nat) : okSize n [] = true := rfl
@[simp] theorem okSize_cons (n:Nat) (x:AV) (r:List AV) : okSize n (x :: r) = (x.cells.length == n) := rfl
@[simp] theorem closedL_app (n:Nat) : ∀ a b : List AV,AV.closedL n (a ++ b) = (AV.closedL n a && AV.closedL n b)
 | [],b => by simp [AV.closedL]
 | v :: r,b => by simp [AV.closedL,closedL_app n r b,Bool.and_assoc]
@[simp] theorem keep1_list (xs:List AV) (o:Own) : AV.keep1 (.list xs o) = .list xs o := rfl
@[simp] theorem keep1_int (k:IntKind) (n:Int) : AV.keep1 (.int k n) = .int k n := rfl
@[simp] theorem keep1_bool (b:Bool) : AV.keep1 (.bool b) = .bool b := rfl
@[simp] theorem keep1_str (s:List UInt8) : AV.keep1 (.str s) = .str s := rfl
@[simp] theorem keep1_agg (cs:List AV) : AV.keep1 (.agg cs) = .agg (cs.map AV.cp1) := rfl
def ownB (o:Bool) : Own := if o then .nil else .no
@[simp] theorem ownB_ck (o:Bool) : (ownB o).ck = ownB o := by cases o <;> rfl
@[simp] theorem ownB_cp (o:Bool) : (ownB o).cp = ownB o := by cases o <;> rfl
@[simp] theorem ownB_own (o:Bool) (n e:Nat) : (ownB o = .own n e) = False := by cases o <;> simp [ownB]
theorem wrap_small {n:Int} (h0:0 ≤ n) (h1:n ≤ 9223372036854775807) : IntKind.wrap .i64 n = n := by
 simp [IntKind.wrap,IntKind.signed,IntKind.bits]; omega
theorem wrap_succ {i n:Nat} (h:i < n) (hn:n ≤ 9223372036854775807) : IntKind.wrap .i64 ((i:Int) + 1) = ((i + 1 : Nat) : Int) := by
 rw [wrap_small (by omega) (by omega)]; rfl
end Go.Proofs.YtkofimhnehkdoaaGreatDoor.Rf
end
section
namespace Go.Proofs.YtkofimhnehkdoaaGreatDoor.Rf
inductive T where
 | mk (op width val:Int) (name:List UInt8) (o:Bool) (args:List T)
namespace T
def op : T → Int | .mk a _ _ _ _ _ => a
def width : T → Int | .mk _ a _ _ _ _ => a
def val : T → Int | .mk _ _ a _ _ _ => a
def name : T → List UInt8 | .mk _ _ _ a _ _ => a
def o : T → Bool | .mk _ _ _ _ a _ => a
def args : T → List T | .mk _ _ _ _ _ a => a
end T
mutual
def T.av : T → AV
 | .mk op w v n o as => .agg [.int .i64 op,.int .i64 w,.int .u64 v,.str n,.list (T.avs as) (ownB o)]
def T.avs : List T → List AV
 | [] => []
 | t :: r => t.av :: T.avs r
end
theorem T.av_eq (t:T) : t.av = .agg [.int .i64 t.op,.int .i64 t.width,.int .u64 t.val,.str t.name,.list (T.avs t.args) (ownB t.o)] := by cases t; rfl
abbrev T.cells (t:T) : List AV := [.int .i64 t.op,.int .i64 t.width,.int .u64 t.val,.str t.name,.list (T.avs t.args) (ownB t.o)]
theorem T.avs_eq : ∀ as : List T,T.avs as = as.map T.av
 | [] => rfl
 | t :: r => by simp [T.avs,T.avs_eq r]
@[simp] theorem T.avs_len (as:List T) : (T.avs as).length = as.length := by simp [T.avs_eq]
@[simp] theorem T.avs_getElem {as:List T} {i:Nat} (h:i < (T.avs as).length) : (T.avs as)[i] = (as[i]'(by simpa using h)).av := by simp [T.avs_eq]
theorem T.avs_get {as:List T} {i:Nat} (h:i < as.length) : (T.avs as)[i]? = some as[i].av := by simp [T.avs_eq,h]
mutual
def T.wf : T → Prop
 | .mk op w v n o as => (Lit.int .i64 op).wf = true ∧ (Lit.int .i64 w).wf = true ∧ (Lit.int .u64 v).wf = true ∧ n.length ≤ 9223372036854775807 ∧ as.length ≤ 9223372036854775807 ∧ (o = true → as = []) ∧ T.wfs as
def T.wfs : List T → Prop
 | [] => True
 | t :: r => t.wf ∧ T.wfs r
end
theorem T.wfs_iff : ∀ as : List T,T.wfs as ↔ ∀ t,t ∈ as → t.wf
 | [] => by simp [T.wfs]
 | t :: r => by simp [T.wfs,T.wfs_iff r]
theorem T.wf_eq (t:T) : t.wf ↔ (Lit.int .i64 t.op).wf = true ∧ (Lit.int .i64 t.width).wf = true ∧ (Lit.int .u64 t.val).wf = true ∧ t.name.length ≤ 9223372036854775807 ∧ t.args.length ≤ 9223372036854775807 ∧ (t.o = true → t.args = []) ∧ ∀ u,u ∈ t.args → u.wf := by
 cases t; simp only [T.wf,T.op,T.width,T.val,T.name,T.args,T.o,T.wfs_iff]
mutual
def T.same : T → T → Bool
 | .mk a b c d _ as,.mk a' b' c' d' _ as' => a == a' && (b == b' && (c == c' && (d == d' && T.sames as as')))
def T.sames : List T → List T → Bool
 | [],[] => true
 | t :: r,u :: s => t.same u && T.sames r s
 | [],_ :: _ => false
 | _ :: _,[] => false
end
theorem T.same_eq (t u:T) : t.same u = (t.op == u.op && (t.width == u.width && (t.val == u.val && (t.name == u.name && T.sames t.args u.args)))) := by cases t; cases u; rfl
theorem T.sames_eq : ∀ (as bs:List T) (h:as.length = bs.length),T.sames as bs = !(List.range as.length).any fun i => !(as.getD i (.mk 0 0 0 [] true [])).same (bs.getD i (.mk 0 0 0 [] true []))
 | [],[],_ => rfl
 | t :: r,u :: s,h => by
   rw [T.sames,T.sames_eq r s (by simpa using h),List.length_cons,List.range_succ_eq_map]
   simp [List.any_map,Function.comp_def]
 | [],_ :: _,h => by simp at h
 | _ :: _,[],h => by simp at h
theorem T.sames_len : ∀ (as bs:List T),as.length ≠ bs.length → T.sames as bs = false
 | [],[],h => by simp at h
 | t :: r,u :: s,h => by rw [T.sames,T.sames_len r s (by simpa using h),Bool.and_false]
 | [],_ :: _,h => rfl
 | _ :: _,[],h => rfl
mutual
def T.size : T → Nat
 | .mk _ _ _ _ _ as => 1 + T.sizes as
def T.sizes : List T → Nat
 | [] => 0
 | t :: r => t.size + T.sizes r
end
theorem T.ind {p:T → Prop} (h:∀ t : T,(∀ u,u ∈ t.args → p u) → p t) (t:T) : p t :=
 T.rec (motive_1 := p) (motive_2 := fun as => ∀ u,u ∈ as → p u) (fun a b c d e as ih => h _ ih) (fun u hu => by simp at hu)
   (fun t r h1 h2 u hu => by
     rcases List.mem_cons.1 hu with e | hu
     · rw [e]; exact h1
     · exact h2 u hu) t
end Go.Proofs.YtkofimhnehkdoaaGreatDoor.Rf
end
section
namespace Go.Proofs.YtkofimhnehkdoaaGreatDoor.Rf
section
variable {H:Type} {P:Program}
theorem HasTy.str {n:Nat} {t:TypeId} {cs:List AV} {d:DataW H} (hu:P.underlying t = some .string) (h:HasTy P n t cs d) : ∃ s,cs = [.str s] ∧ s.length ≤ 9223372036854775807 := by
 cases n with
 | zero => exact h.elim
 | succ n => simp only [HasTy,hu] at h; obtain ⟨m,h1,h2,_⟩ := h; exact ⟨m,h1,h2⟩
theorem HasTy.bool {n:Nat} {t:TypeId} {cs:List AV} {d:DataW H} (hu:P.underlying t = some .bool) (h:HasTy P n t cs d) : ∃ s,cs = [.bool s] := by
 cases n with
 | zero => exact h.elim
 | succ n => simp only [HasTy,hu] at h; obtain ⟨m,h1,h2⟩ := h; exact ⟨m,h1⟩
theorem HasTy.slice {α:Type} {n:Nat} {t e:TypeId} {cs:List AV} {d:DataW H} (f:α → AV) (w:α → Prop) (hu:P.underlying t = some (.slice e)) (h:HasTy P n t cs d)
   (he:∀ m,m < n → ∀ ds (d' : DataW H),HasTy P m e ds d' → ∃ x,elemAV P e ds = f x ∧ w x) :
   ∃ (o:Bool) (l:List α),cs = [.list (l.map f) (ownB o)] ∧ (o = true → l = []) ∧ l.length ≤ 9223372036854775807 ∧ ∀ x,x ∈ l → w x := by
 cases n with
 | zero => exact h.elim
 | succ n =>
   simp only [HasTy,hu] at h
   rcases h with ⟨rfl,_⟩ | ⟨xs,els,rest,rfl,_,h1,h2,h3⟩
   · exact ⟨true,[],rfl,fun _ => rfl,by simp,by simp⟩
   · have : ∀ (xs:List AV) (els:List (DataW H)),xs.length = els.length → (∀ (i:Nat) x d',xs[i]? = some x → els[i]? = some d' → ∃ ds,x = elemAV P e ds ∧ HasTy P n e ds d') → ∃ l : List α,xs = l.map f ∧ ∀ x,x ∈ l → w x := by
       intro xs
       induction xs with
       | nil => intro els _ _; exact ⟨[],rfl,by simp⟩
       | cons x xs ih =>
         intro els hl hh
         cases els with
         | nil => simp at hl
         | cons y els =>
           obtain ⟨ds,e1,e2⟩ := hh 0 x y rfl rfl
           obtain ⟨a,f1,f2⟩ := he n (by omega) ds y e2
           obtain ⟨l,l1,l2⟩ := ih els (by simpa using hl) fun i x d' a b => hh (i + 1) x d' (by simpa using a) (by simpa using b)
           exact ⟨a :: l,by simp [e1,f1,l1],fun z hz => by
             rcases List.mem_cons.1 hz with e | hz
             · rw [e]; exact f2
             · exact l2 z hz⟩
     obtain ⟨l,l1,l2⟩ := this xs els h1 h3
     subst l1
     have hm : maxLen = 9223372036854775807 := rfl
     rw [hm] at h2
     exact ⟨false,l,rfl,by simp,by simpa using h2,l2⟩
theorem HasTy.fields {n:Nat} {t:TypeId} {fs:Array Field} {cs:List AV} {d:DataW H} (hu:P.underlying t = some (.struct fs)) (h:HasTy P n t cs d) :
   ∃ parts : List (List AV),cs = parts.flatten ∧ parts.length = fs.size ∧ ∀ (i:Nat) f ds,fs[i]? = some f → parts[i]? = some ds → ∃ m,∃ d' : DataW H,m < n ∧ HasTy P m f.type ds d' := by
 cases n with
 | zero => exact h.elim
 | succ n =>
   simp only [HasTy,hu] at h
   obtain ⟨parts,els,rfl,_,h1,h2,h3⟩ := h
   refine ⟨parts,rfl,h1,fun i f ds a b => ?_⟩
   have : i < els.length := by rw [h2,← h1]; exact (List.getElem?_eq_some_iff.1 b).1
   exact ⟨n,els[i],by omega,h3 i f ds _ a b (List.getElem?_eq_getElem this)⟩
theorem ArgTy.array {α:Type} {t e:TypeId} {m:Nat} {v:AV} {d:DataW H} (f:α → List AV) (w:α → Prop) (hu:P.underlying t = some (.array m e)) (h:ArgTy P t v d)
   (he:∀ n ds (d' : DataW H),HasTy P n e ds d' → ∃ x,ds = f x ∧ w x) : ∃ l : List α,l.length = m ∧ v = .agg (l.map f).flatten ∧ ∀ x,x ∈ l → w x := by
 obtain ⟨n,cs,rfl,h⟩ := h
 cases n with
 | zero => exact h.elim
 | succ n =>
   simp only [HasTy,hu] at h
   obtain ⟨parts,els,rfl,_,h1,h2,h3⟩ := h
   have : ∀ (xs:List (List AV)) (els:List (DataW H)),xs.length = els.length → (∀ (i:Nat) x d',xs[i]? = some x → els[i]? = some d' → HasTy P n e x d') → ∃ l : List α,xs = l.map f ∧ ∀ x,x ∈ l → w x := by
     intro xs
     induction xs with
     | nil => intro els _ _; exact ⟨[],rfl,by simp⟩
     | cons x xs ih =>
       intro els hl hh
       cases els with
       | nil => simp at hl
       | cons y els =>
         obtain ⟨a,f1,f2⟩ := he n x y (hh 0 x y rfl rfl)
         obtain ⟨l,l1,l2⟩ := ih els (by simpa using hl) fun i x d' a b => hh (i + 1) x d' (by simpa using a) (by simpa using b)
         exact ⟨a :: l,by simp [f1,l1],fun z hz => by
           rcases List.mem_cons.1 hz with e | hz
           · rw [e]; exact f2
           · exact l2 z hz⟩
   obtain ⟨l,l1,l2⟩ := this parts els (by omega) h3
   subst l1
   refine ⟨l,by simpa using h1,?_,l2⟩
   unfold elemAV aggTy; rw [hu]; rfl
end
end Go.Proofs.YtkofimhnehkdoaaGreatDoor.Rf
end
section
namespace Go.Proofs.YtkofimhnehkdoaaGreatDoor.Rf
structure Sb where
 name : List UInt8
 t : T
structure St7 where
 kind : Int
 ro : Bool
 refs : List Int
 rule : Int
 so : Bool
 subs : List Sb
 a : T
 b : T
abbrev Sb.cells (s:Sb) : List AV := .str s.name :: s.t.cells
def Sb.av (s:Sb) : AV := .agg s.cells
theorem Sb.av_eq (s:Sb) : s.av = .agg [.str s.name,.int .i64 s.t.op,.int .i64 s.t.width,.int .u64 s.t.val,.str s.t.name,.list (T.avs s.t.args) (ownB s.t.o)] := rfl
def sbs (l:List Sb) : List AV := l.map Sb.av
def i64s (l:List Int) : List AV := l.map (AV.int .i64)
@[simp] theorem sbs_len (l:List Sb) : (sbs l).length = l.length := by simp [sbs]
@[simp] theorem i64s_len (l:List Int) : (i64s l).length = l.length := by simp [i64s]
@[simp] theorem sbs_getElem {l:List Sb} {i:Nat} (h:i < (sbs l).length) : (sbs l)[i] = (l[i]'(by simpa using h)).av := by simp [sbs]
@[simp] theorem i64s_getElem {l:List Int} {i:Nat} (h:i < (i64s l).length) : (i64s l)[i] = .int .i64 (l[i]'(by simpa using h)) := by simp [i64s]
abbrev St7.cells (s:St7) : List AV := [.int .i64 s.kind,.list (i64s s.refs) (ownB s.ro),.int .i64 s.rule,.list (sbs s.subs) (ownB s.so),
 .int .i64 s.a.op,.int .i64 s.a.width,.int .u64 s.a.val,.str s.a.name,.list (T.avs s.a.args) (ownB s.a.o),
 .int .i64 s.b.op,.int .i64 s.b.width,.int .u64 s.b.val,.str s.b.name,.list (T.avs s.b.args) (ownB s.b.o)]
def St7.av (s:St7) : AV := .agg s.cells
def St7.avs (l:List St7) : List AV := l.map St7.av
@[simp] theorem St7.avs_len (l:List St7) : (St7.avs l).length = l.length := by simp [St7.avs]
@[simp] theorem St7.avs_getElem {l:List St7} {i:Nat} (h:i < (St7.avs l).length) : (St7.avs l)[i] = (l[i]'(by simpa using h)).av := by simp [St7.avs]
def Sb.wf (s:Sb) : Prop := s.name.length ≤ 9223372036854775807 ∧ s.t.wf
def St7.wf (s:St7) : Prop := (Lit.int .i64 s.kind).wf = true ∧ (∀ x,x ∈ s.refs → (Lit.int .i64 x).wf = true) ∧ s.refs.length ≤ 9223372036854775807 ∧ (Lit.int .i64 s.rule).wf = true ∧ (∀ x,x ∈ s.subs → x.wf) ∧ s.subs.length ≤ 9223372036854775807 ∧ s.a.wf ∧ s.b.wf
section
variable {H:Type} {P:Program}
theorem HasTy.two {n:Nat} {t a b:TypeId} {fs:Array Field} {cs:List AV} {d:DataW H} (hu:P.underlying t = some (.struct fs)) (hf:fs.toList.map Field.type = [a,b]) (h:HasTy P n t cs d) :
   ∃ p q : List AV,cs = p ++ q ∧ (∃ m,∃ d' : DataW H,m < n ∧ HasTy P m a p d') ∧ (∃ m,∃ d' : DataW H,m < n ∧ HasTy P m b q d') := by
 obtain ⟨parts,rfl,hl,hp⟩ := h.fields hu
 have hsz : fs.size = 2 := by have := congrArg List.length hf; simpa using this
 rw [hsz] at hl
 match parts,hl with
 | [p0,p1],_ =>
   have g : ∀ (i:Nat) ds x,[p0,p1][i]? = some ds → [a,b][i]? = some x → ∃ m,∃ d' : DataW H,m < n ∧ HasTy P m x ds d' := by
     intro i ds x h1 h2
     rw [← hf] at h2
     simp only [List.getElem?_map,Array.getElem?_toList,Option.map_eq_some_iff] at h2
     obtain ⟨f,f1,f2⟩ := h2
     obtain ⟨m,d',m1,m2⟩ := hp i f ds f1 h1
     exact ⟨m,d',m1,f2 ▸ m2⟩
   exact ⟨p0,p1,by simp,g 0 _ _ rfl rfl,g 1 _ _ rfl rfl⟩
theorem HasTy.six {n:Nat} {t a b c e f g:TypeId} {fs:Array Field} {cs:List AV} {d:DataW H} (hu:P.underlying t = some (.struct fs)) (hf:fs.toList.map Field.type = [a,b,c,e,f,g]) (h:HasTy P n t cs d) :
   ∃ p0 p1 p2 p3 p4 p5 : List AV,cs = p0 ++ (p1 ++ (p2 ++ (p3 ++ (p4 ++ p5)))) ∧ (∃ m,∃ d' : DataW H,m < n ∧ HasTy P m a p0 d') ∧ (∃ m,∃ d' : DataW H,m < n ∧ HasTy P m b p1 d') ∧ (∃ m,∃ d' : DataW H,m < n ∧ HasTy P m c p2 d') ∧
     (∃ m,∃ d' : DataW H,m < n ∧ HasTy P m e p3 d') ∧ (∃ m,∃ d' : DataW H,m < n ∧ HasTy P m f p4 d') ∧ (∃ m,∃ d' : DataW H,m < n ∧ HasTy P m g p5 d') := by
 obtain ⟨parts,rfl,hl,hp⟩ := h.fields hu
 have hsz : fs.size = 6 := by have := congrArg List.length hf; simpa using this
 rw [hsz] at hl
 match parts,hl with
 | [p0,p1,p2,p3,p4,p5],_ =>
   have k : ∀ (i:Nat) ds x,[p0,p1,p2,p3,p4,p5][i]? = some ds → [a,b,c,e,f,g][i]? = some x → ∃ m,∃ d' : DataW H,m < n ∧ HasTy P m x ds d' := by
     intro i ds x h1 h2
     rw [← hf] at h2
     simp only [List.getElem?_map,Array.getElem?_toList,Option.map_eq_some_iff] at h2
     obtain ⟨f,f1,f2⟩ := h2
     obtain ⟨m,d',m1,m2⟩ := hp i f ds f1 h1
     exact ⟨m,d',m1,f2 ▸ m2⟩
   exact ⟨p0,p1,p2,p3,p4,p5,by simp,k 0 _ _ rfl rfl,k 1 _ _ rfl rfl,k 2 _ _ rfl rfl,k 3 _ _ rfl rfl,k 4 _ _ rfl rfl,k 5 _ _ rfl rfl⟩
theorem HasTy.sub {st a b:TypeId} {fs:Array Field} (hT:∀ n cs (d:DataW H),HasTy P n b cs d → ∃ t : T,cs = t.cells ∧ t.wf) (hu:P.underlying st = some (.struct fs)) (hf:fs.toList.map Field.type = [a,b]) (ha:P.underlying a = some .string)
   {n:Nat} {cs:List AV} {d:DataW H} (h:HasTy P n st cs d) : ∃ s : Sb,cs = s.cells ∧ s.wf := by
 obtain ⟨p,q,rfl,⟨m0,d0,_,q0⟩,⟨m1,d1,_,q1⟩⟩ := h.two hu hf
 obtain ⟨x0,rfl,w0⟩ := q0.str ha
 obtain ⟨t,rfl,w1⟩ := hT _ _ _ q1
 exact ⟨⟨x0,t⟩,rfl,w0,w1⟩
theorem HasTy.step {tt ti tl ts te st:TypeId} {fs gs:Array Field} {tn:TypeId} (hT:∀ n cs (d:DataW H),HasTy P n te cs d → ∃ t : T,cs = t.cells ∧ t.wf)
   (hu:P.underlying tt = some (.struct fs)) (hf:fs.toList.map Field.type = [ti,tl,ti,ts,te,te]) (hi:P.underlying ti = some (.int .i64)) (hl:P.underlying tl = some (.slice ti)) (hs:P.underlying ts = some (.slice st))
   (hv:P.underlying st = some (.struct gs)) (hg:gs.toList.map Field.type = [tn,te]) (hn:P.underlying tn = some .string)
   {n:Nat} {cs:List AV} {d:DataW H} (h:HasTy P n tt cs d) : ∃ s : St7,cs = s.cells ∧ s.wf := by
 obtain ⟨p0,p1,p2,p3,p4,p5,rfl,⟨_,_,_,q0⟩,⟨_,_,_,q1⟩,⟨_,_,_,q2⟩,⟨_,_,_,q3⟩,⟨_,_,_,q4⟩,⟨_,_,_,q5⟩⟩ := h.six hu hf
 obtain ⟨x0,rfl,w0⟩ := q0.int hi
 obtain ⟨o1,l1,rfl,_,b1,w1⟩ := q1.slice (AV.int .i64) (fun x => (Lit.int .i64 x).wf = true) hl fun m hm ds d' h => by
   obtain ⟨x,rfl,hx⟩ := h.int hi
   exact ⟨x,by unfold elemAV aggTy; rw [hi]; rfl,hx⟩
 obtain ⟨x2,rfl,w2⟩ := q2.int hi
 obtain ⟨o3,l3,rfl,_,b3,w3⟩ := q3.slice Sb.av Sb.wf hs fun m hm ds d' h => by
   obtain ⟨x,rfl,hx⟩ := HasTy.sub hT hv hg hn h
   exact ⟨x,by unfold elemAV aggTy; rw [hv]; rfl,hx⟩
 obtain ⟨t4,rfl,w4⟩ := hT _ _ _ q4
 obtain ⟨t5,rfl,w5⟩ := hT _ _ _ q5
 exact ⟨⟨x0,o1,l1,x2,o3,l3,t4,t5⟩,rfl,w0,w1,b1,w2,w3,b3,w4,w5⟩
end
end Go.Proofs.YtkofimhnehkdoaaGreatDoor.Rf
end
section
namespace Go.Proofs.YtkofimhnehkdoaaGreatDoor.Rf
def kdN : List (List UInt8) := [[],[114,101,102,108],[115,121,109],[116,114,97,110,115],[99,111,110,103],[114,117,108,101],[102,111,108,100],[116,111,112],[110,111,100,101],[109,101,101,116],[109,111,118,101],[115,105,110,103,108,101],[103,105,118,101,110]]
def kindE (k:Int) : List UInt8 := if k < 1 ∨ 12 < k then [] else kdN.getD k.toNat []
theorem kind_cases {k:Int} (h:¬ (k < 1 ∨ 12 < k)) : k = 1 ∨ k = 2 ∨ k = 3 ∨ k = 4 ∨ k = 5 ∨ k = 6 ∨ k = 7 ∨ k = 8 ∨ k = 9 ∨ k = 10 ∨ k = 11 ∨ k = 12 := by omega
section
variable {hp:List HObj} {lo:Nat}
theorem kind_D (k:Int) (hp:List HObj) (lo:Nat) (q:Bool) : callD G0 IP n_proof_Kind [.int .i64 k] hp lo q = some (.ret (.str (kindE k)) hp) := by
 rw [callD_eq]
 by_cases h1 : k < 1
 · simp [IP_proof_Kind,i_proof_Kind,h1,kindE]
 · by_cases h2 : 12 < k
   · simp [IP_proof_Kind,i_proof_Kind,h1,h2,kindE]
   · rcases kind_cases (k := k) (by omega) with rfl | rfl | rfl | rfl | rfl | rfl | rfl | rfl | rfl | rfl | rfl | rfl
     all_goals simp [IP_proof_Kind,i_proof_Kind,kindE,kdN,G0_1,g_1]
theorem kind34_D (k:Int) (hp:List HObj) (lo:Nat) (q:Bool) : callD G0 IP n_sr34_Kind [.int .i64 k] hp lo q = some (.ret (.str (kindE k)) hp) := by
 rw [callD_eq]
 by_cases h1 : k < 1
 · simp [IP_sr34_Kind,i_sr34_Kind,h1,kindE]
 · by_cases h2 : 12 < k
   · simp [IP_sr34_Kind,i_sr34_Kind,h1,h2,kindE]
   · rcases kind_cases (k := k) (by omega) with rfl | rfl | rfl | rfl | rfl | rfl | rfl | rfl | rfl | rfl | rfl | rfl
     all_goals simp [IP_sr34_Kind,i_sr34_Kind,kindE,kdN,show IntKind.wrap .i64 0 = 0 from rfl,show IntKind.wrap .i64 1 = 1 from rfl,show IntKind.wrap .i64 2 = 2 from rfl,show IntKind.wrap .i64 3 = 3 from rfl,show IntKind.wrap .i64 4 = 4 from rfl,show IntKind.wrap .i64 5 = 5 from rfl,show IntKind.wrap .i64 6 = 6 from rfl,show IntKind.wrap .i64 7 = 7 from rfl,show IntKind.wrap .i64 8 = 8 from rfl,show IntKind.wrap .i64 9 = 9 from rfl,show IntKind.wrap .i64 10 = 10 from rfl,show IntKind.wrap .i64 11 = 11 from rfl]
end
end Go.Proofs.YtkofimhnehkdoaaGreatDoor.Rf
end
section
namespace Go.Proofs.YtkofimhnehkdoaaGreatDoor.Rf
def dig (n:Nat) : UInt8 := UInt8.ofNat (48 + n)
theorem dig_toNat {n:Nat} (h:n < 10) : (dig n).toNat = 48 + n := by
 unfold dig; rw [UInt8.toNat_ofNat']; omega
def dec (n:Nat) : List UInt8 := if n < 10 then [dig n] else dec (n / 10) ++ [dig (n % 10)]
termination_by n
decreasing_by omega
theorem dec_small {n:Nat} (h:n < 10) : dec n = [dig n] := by rw [dec,if_pos h]
theorem dec_big {n:Nat} (h:10 ≤ n) : dec n = dec (n / 10) ++ [dig (n % 10)] := by rw [dec,if_neg (by omega)]
def isDig (c:UInt8) : Bool := decide (48 ≤ c.toNat) && decide (c.toNat ≤ 57)
def digVal (s:List UInt8) : Nat := s.foldl (fun v c => 10 * v + (c.toNat - 48)) 0
theorem digVal_snoc (s:List UInt8) (c:UInt8) : digVal (s ++ [c]) = 10 * digVal s + (c.toNat - 48) := by simp [digVal,List.foldl_append]
def numOk (s:List UInt8) : Bool := !s.isEmpty && (!(decide (1 < s.length) && (s.head? == some 48)) && s.all isDig)
def numE (s:List UInt8) : Int × Int := if numOk s = false then (0,6) else if 18446744073709551616 ≤ digVal s then (0,2) else (digVal s,0)
theorem dec_digVal {s:List UInt8} (h:numOk s = true) : dec (digVal s) = s := by
 simp only [numOk,Bool.and_eq_true,Bool.not_eq_true',List.all_eq_true] at h
 obtain ⟨h1,h2,h3⟩ := h
 have key : ∀ (r:List UInt8) (a:UInt8),isDig a = true → a ≠ 48 → (∀ c,c ∈ r → isDig c = true) → dec (digVal (a :: r)) = a :: r ∧ 0 < digVal (a :: r) := by
   intro r
   induction hr : r.length generalizing r with
   | zero =>
     intro a ha hn _
     have : r = [] := List.length_eq_zero_iff.1 hr
     subst this
     simp [isDig] at ha
     have h0 : a.toNat ≠ 48 := fun e => hn (UInt8.toNat_inj.1 (by simpa using e))
     have hv : digVal [a] = a.toNat - 48 := by simp [digVal]
     rw [hv,dec_small (by omega)]
     refine ⟨?_,by omega⟩
     congr 1
     apply UInt8.toNat_inj.1; rw [dig_toNat (by omega)]; omega
   | succ n ih =>
     intro a ha hn hd
     have hne : r ≠ [] := by intro e; subst e; simp at hr
     obtain ⟨q,c,rfl⟩ : ∃ q c,r = q ++ [c] := ⟨r.dropLast,r.getLast hne,(List.dropLast_concat_getLast hne).symm⟩
     obtain ⟨i1,i2⟩ := ih q (by simp at hr; omega) a ha hn (fun c hc => hd c (by simp [hc]))
     have hc := hd c (by simp)
     simp [isDig] at hc
     have hv : digVal (a :: (q ++ [c])) = 10 * digVal (a :: q) + (c.toNat - 48) := by rw [← List.cons_append,digVal_snoc]
     rw [hv,dec_big (by omega)]
     refine ⟨?_,by omega⟩
     rw [show (10 * digVal (a :: q) + (c.toNat - 48)) / 10 = digVal (a :: q) by omega,i1,show (10 * digVal (a :: q) + (c.toNat - 48)) % 10 = c.toNat - 48 by omega]
     have : dig (c.toNat - 48) = c := by apply UInt8.toNat_inj.1; rw [dig_toNat (by omega)]; omega
     rw [this]; simp
 cases s with
 | nil => simp at h1
 | cons a r =>
   by_cases ha : a = 48
   · subst ha
     have : r = [] := by
       cases r with
       | nil => rfl
       | cons b r => simp at h2
     subst this
     simp [digVal]; rw [dec_small (by omega)]; rfl
   · exact (key r a (h3 a (by simp)) ha (fun c hc => h3 c (by simp [hc]))).1
end Go.Proofs.YtkofimhnehkdoaaGreatDoor.Rf
end
section
namespace Go.Proofs.YtkofimhnehkdoaaGreatDoor.Rf
section
variable {hp:List HObj} {lo:Nat} (q:Bool)
def hasPre (s p:List UInt8) : Bool := decide (p.length ≤ s.length) && decide (s.take p.length = p)
theorem hasPreL_D (s p:List UInt8) : callD G0 IP n_isl_HasPrefix [.str s,.str p] hp lo q = some (.ret (.bool (hasPre s p)) hp) := by
 rw [callD_eq]
 by_cases h : p.length ≤ s.length
 · have h1 : (p.length : Int) ≤ (s.length : Int) := by omega
   simp [IP_isl_HasPrefix,i_isl_HasPrefix,h,h1,hasPre]
 · have h1 : ¬ (p.length : Int) ≤ (s.length : Int) := by omega
   simp [IP_isl_HasPrefix,i_isl_HasPrefix,h,h1,hasPre]
theorem hasPre_D (s p:List UInt8) : callD G0 IP n_ss_HasPrefix [.str s,.str p] hp lo q = some (.ret (.bool (hasPre s p)) hp) := by
 rw [callD_eq]
 simp [IP_ss_HasPrefix,i_ss_HasPrefix,hasPreL_D]
theorem cutPreL_D (s p:List UInt8) : callD G0 IP n_isl_CutPrefix [.str s,.str p] hp lo q = some (.ret (.tup [.str (if hasPre s p then s.drop p.length else s),.bool (hasPre s p)]) hp) := by
 rw [callD_eq]
 cases h : hasPre s p with
 | true =>
   have h1 : p.length ≤ s.length := by simp [hasPre] at h; exact h.1
   simp [IP_isl_CutPrefix,i_isl_CutPrefix,hasPreL_D,h,h1]
 | false => simp [IP_isl_CutPrefix,i_isl_CutPrefix,hasPreL_D,h]
theorem cutPre_D (s p:List UInt8) : callD G0 IP n_ss_CutPrefix [.str s,.str p] hp lo q = some (.ret (.tup [.str (if hasPre s p then s.drop p.length else s),.bool (hasPre s p)]) hp) := by
 rw [callD_eq]
 simp [IP_ss_CutPrefix,i_ss_CutPrefix,cutPreL_D]
theorem idxBL_D (s:List UInt8) (n:Int) : callD G0 IP n_isl_IndexByte [.str s,.int .u8 n] hp lo q = some (.ret (.int .i64 (idxB s (UInt8.ofNat n.toNat))) hp) := by
 rw [callD_eq]
 simp [IP_isl_IndexByte,i_isl_IndexByte]
theorem idxB_D (s:List UInt8) (n:Int) : callD G0 IP n_ss_IndexByte [.str s,.int .u8 n] hp lo q = some (.ret (.int .i64 (idxB s (UInt8.ofNat n.toNat))) hp) := by
 rw [callD_eq]
 simp [IP_ss_IndexByte,i_ss_IndexByte,idxBL_D]
theorem idxB_ge : ∀ (s:List UInt8) (c:UInt8),-1 ≤ idxB s c ∧ idxB s c < s.length
 | [],c => by simp [idxB]
 | b :: l,c => by
   have := idxB_ge l c
   simp only [idxB]
   split
   · simp
   · split
     · simp; omega
     · rename_i h; simp at h; simp; omega
theorem idxB_mem : ∀ (s:List UInt8) (c:UInt8),(0 ≤ idxB s c ↔ c ∈ s)
 | [],c => by simp [idxB]
 | b :: l,c => by
   have ih := idxB_mem l c
   have hg := idxB_ge l c
   simp only [idxB,List.mem_cons]
   by_cases h : b = c
   · subst h; simp
   · have h' : ¬ c = b := fun e => h e.symm
     simp only [show (b == c) = false by simp [h],Bool.false_eq_true,if_false,h',false_or]
     split
     · rename_i h2; simp at h2; rw [← ih]; omega
     · rename_i h2; simp at h2; rw [← ih]; omega
theorem index1_D (s:List UInt8) (c:UInt8) : callD G0 IP n_isl_Index [.str s,.str [c]] hp lo q = some (.ret (.int .i64 (idxB s c)) hp) := by
 rw [callD_eq]
 by_cases h : [c] = s
 · subst h
   simp [IP_isl_Index,i_isl_Index,idxB]
 · simp [IP_isl_Index,i_isl_Index,h,idxBL_D]
def cutB (s:List UInt8) (c:UInt8) : List UInt8 × List UInt8 × Bool := if 0 ≤ idxB s c then (s.take (idxB s c).toNat,s.drop ((idxB s c).toNat + 1),true) else (s,[],false)
theorem cut1L_D (s:List UInt8) (hs:s.length ≤ 9223372036854775806) (c:UInt8) : callD G0 IP n_isl_Cut [.str s,.str [c]] hp lo q = some (.ret (.tup [.str (cutB s c).1,.str (cutB s c).2.1,.bool (cutB s c).2.2]) hp) := by
 rw [callD_eq]
 have hg := idxB_ge s c
 by_cases h : 0 ≤ idxB s c
 · have hw : IntKind.wrap .i64 (idxB s c + 1) = idxB s c + 1 := wrap_small (by omega) (by omega)
   have h1 : (idxB s c).toNat ≤ s.length := by omega
   have h2 : (idxB s c + 1).toNat = (idxB s c).toNat + 1 := by omega
   have h3 : (idxB s c).toNat + 1 ≤ s.length := by omega
   have h4 : 0 ≤ idxB s c + 1 := by omega
   simp [IP_isl_Cut,i_isl_Cut,index1_D,h,hw,h1,h2,h3,h4,cutB]
 · simp [IP_isl_Cut,i_isl_Cut,index1_D,h,cutB]
theorem cut1_D (s:List UInt8) (hs:s.length ≤ 9223372036854775806) (c:UInt8) : callD G0 IP n_ss_Cut [.str s,.str [c]] hp lo q = some (.ret (.tup [.str (cutB s c).1,.str (cutB s c).2.1,.bool (cutB s c).2.2]) hp) := by
 rw [callD_eq]
 have e := fun (hp:List HObj) (lo:Nat) (q:Bool) => cut1L_D (hp := hp) (lo := lo) q s hs c
 simp [IP_ss_Cut,i_ss_Cut,e]
end
end Go.Proofs.YtkofimhnehkdoaaGreatDoor.Rf
end
section
namespace Go.Proofs.YtkofimhnehkdoaaGreatDoor.Rf
theorem wrapU (n:Int) : IntKind.wrap .u64 n = n % 18446744073709551616 := by
 simp [IntKind.wrap,IntKind.signed,IntKind.bits]
theorem wrapU_small {n:Int} (h0:0 ≤ n) (h1:n < 18446744073709551616) : IntKind.wrap .u64 n = n := by rw [wrapU]; omega
theorem wrap8_small {n:Int} (h0:0 ≤ n) (h1:n < 256) : IntKind.wrap .u8 n = n := by
 simp [IntKind.wrap,IntKind.signed,IntKind.bits]; omega
theorem idxB_decs (c:UInt8) : (idxB [48,49,50,51,52,53,54,55,56,57] c < 0) ↔ isDig c = false := by
 have h := idxB_mem [48,49,50,51,52,53,54,55,56,57] c
 have h2 : c ∈ ([48,49,50,51,52,53,54,55,56,57] : List UInt8) ↔ isDig c = true := by
   simp only [List.mem_cons,List.not_mem_nil,or_false,isDig,Bool.and_eq_true,decide_eq_true_eq,← UInt8.toNat_inj]
   have := c.toNat_lt
   simp
   omega
 rw [h2] at h
 cases hd : isDig c with
 | true => rw [hd] at h; simp at h ⊢; omega
 | false => rw [hd] at h; simp at h ⊢; omega
theorem any_range_isDig (s:List UInt8) : ((List.range s.length).any fun i => !isDig (s.getD i 0)) = !s.all isDig := by
 induction s with
 | nil => rfl
 | cons c r ih =>
   rw [List.length_cons,List.range_succ_eq_map]
   simp [List.any_map,Function.comp_def] at ih ⊢
   rw [ih]
section
variable {hp:List HObj} {lo:Nat} (q:Bool)
theorem numeral_D (s:List UInt8) (hs:s.length ≤ 9223372036854775807) : callD G0 IP n_digits_numeral [.str s,.str [48,49,50,51,52,53,54,55,56,57]] hp lo q = some (.ret (.bool (numOk s)) hp) := by
 rw [callD_eq]
 cases s with
 | nil => simp [IP_digits_numeral,i_digits_numeral,numOk]
 | cons a r =>
   generalize hse : a :: r = s at *
   have hne : s ≠ [] := by rw [← hse]; simp
   have h0 : s[0]? = some a := by rw [← hse]; rfl
   have hloop := loop_find (G := G0) (IP := IP) (lo := hp.length) (b := l_digits_numeral_0)
     (fun i => ⟨[(0,.str s),(1,.str [48,49,50,51,52,53,54,55,56,57]),(19,.int .i64 s.length),(20,.int .i64 i)],hp⟩) s.length (fun i => !isDig (s.getD i 0))
     (.ret,⟨[(4,.bool false)],hp⟩) (.exit 0,⟨[(0,.str s),(1,.str [48,49,50,51,52,53,54,55,56,57]),(19,.int .i64 s.length),(20,.int .i64 s.length),(21,.bool false)],hp⟩)
     (fun i hi hp => by
       have hw := wrap_succ hi hs
       have hd : ¬ idxB [48,49,50,51,52,53,54,55,56,57] s[i] < 0 := by rw [idxB_decs]; simp [List.getD,hi] at hp; simp [hp]
       rw [← hw]
       simp [l_digits_numeral_0,hi,idxB_D,hd])
     (fun i hi hp => by
       have hd : idxB [48,49,50,51,52,53,54,55,56,57] s[i] < 0 := by rw [idxB_decs]; simp [List.getD,hi] at hp; simp [hp]
       simp [l_digits_numeral_0,hi,idxB_D,hd])
     (by simp) (by simp [l_digits_numeral_0]) (by simp)
   rw [any_range_isDig] at hloop
   simp only [Int.natCast_zero] at hloop
   have hh : s.head? = some a := by rw [← hse]; rfl
   have hemp : s.isEmpty = false := by rw [← hse]; rfl
   by_cases hl : (1:Int) < (s.length : Int)
   · have hl' : 1 < s.length := by omega
     by_cases ha : a = 48
     · subst ha
       simp [IP_digits_numeral,i_digits_numeral,numOk,hne,h0,hl,hl',hh,hemp]
     · have ha' : ¬ (a.toNat : Int) = 48 := by intro e; apply ha; apply UInt8.toNat_inj.1; simp; omega
       cases hd : s.all isDig with
       | true => simp [IP_digits_numeral,i_digits_numeral,numOk,hne,h0,hl,hl',hh,ha,ha',hloop,hd,hemp]
       | false => simp [IP_digits_numeral,i_digits_numeral,numOk,hne,h0,hl,hl',hh,ha,ha',hloop,hd,hemp]
   · have hl' : ¬ 1 < s.length := by omega
     cases hd : s.all isDig with
     | true => simp [IP_digits_numeral,i_digits_numeral,numOk,hne,h0,hl,hl',hh,hloop,hd,hemp]
     | false => simp [IP_digits_numeral,i_digits_numeral,numOk,hne,h0,hl,hl',hh,hloop,hd,hemp]
theorem digVal_take {s:List UInt8} {i:Nat} (h:i < s.length) : digVal (s.take (i + 1)) = 10 * digVal (s.take i) + (s[i].toNat - 48) := by
 rw [List.take_succ_eq_append_getElem h,digVal_snoc]
def pU (s:List UInt8) : AV := if 18446744073709551616 ≤ digVal s then .tup [.int .u64 18446744073709551615,.iface 211 (.int .i64 1)] else .tup [.int .u64 (digVal s),.nili]
theorem digVal_le {s:List UInt8} {i:Nat} (h:i ≤ s.length) : digVal (s.take i) ≤ digVal s := by
 have key : ∀ (k:Nat),i + k ≤ s.length → digVal (s.take i) ≤ digVal (s.take (i + k)) := by
   intro k
   induction k with
   | zero => intro _; exact Nat.le_refl _
   | succ k ih =>
     intro hk
     have := ih (by omega)
     rw [← Nat.add_assoc,digVal_take (by omega)]; omega
 have := key (s.length - i) (by omega)
 rwa [show i + (s.length - i) = s.length by omega,List.take_length] at this
theorem any_over (s:List UInt8) : ((List.range s.length).any fun i => decide (18446744073709551616 ≤ digVal (s.take (i + 1)))) = decide (18446744073709551616 ≤ digVal s) := by
 rw [Bool.eq_iff_iff]
 simp only [List.any_eq_true,List.mem_range,decide_eq_true_eq]
 constructor
 · rintro ⟨i,hi,h⟩; exact Nat.le_trans h (digVal_le (by omega))
 · intro h
   have hl : s.length ≠ 0 := by
     intro e
     have : s = [] := List.length_eq_zero_iff.1 e
     have h2 : digVal s = 0 := by subst this; rfl
     omega
   exact ⟨s.length - 1,by omega,by rwa [show s.length - 1 + 1 = s.length by omega,List.take_length]⟩
theorem parseUintI_D (s:List UInt8) (hs:s.length ≤ 140737488355328) (h0:s ≠ []) (hd:s.all isDig = true) : callD G0 IP n_isc_ParseUint [.str s,.int .i64 10,.int .i64 64] hp lo false = some (.ret (pU s) hp) := by
 rw [callD_eq]
 have hc : ∀ i (h:i < s.length),48 ≤ s[i].toNat ∧ s[i].toNat ≤ 57 := fun i h => by
   have := List.all_eq_true.1 hd s[i] (List.getElem_mem h)
   simpa [isDig] using this
 have hloop := loop_find (G := G0) (IP := IP) (lo := lo) (b := l_isc_ParseUint_0)
   (fun i => ⟨[(1,.int .i64 10),(8,.bool false),(9,.str s),(10,.int .u64 1844674407370955162),(11,.int .u64 18446744073709551615),(12,.bool false),(13,.int .u64 (digVal (s.take i))),(99,.list (s.map fun b => .int .u8 b.toNat) .no),(100,.int .i64 s.length),(101,.int .i64 i)],hp⟩)
   s.length (fun i => decide (18446744073709551616 ≤ digVal (s.take (i + 1))))
   (.ret,⟨[(6,.int .u64 18446744073709551615),(7,.iface 211 (.int .i64 1))],hp⟩)
   (.exit 3,⟨[(1,.int .i64 10),(8,.bool false),(9,.str s),(10,.int .u64 1844674407370955162),(11,.int .u64 18446744073709551615),(12,.bool false),(13,.int .u64 (digVal s)),(99,.list (s.map fun b => .int .u8 b.toNat) .no),(100,.int .i64 s.length),(101,.int .i64 s.length),(102,.bool false)],hp⟩)
   (fun i hi hp => by
     have hw := wrap_succ hi (by omega)
     obtain ⟨c1,c2⟩ := hc i hi
     simp only [decide_eq_false_iff_not] at hp
     have ht := digVal_take hi
     rw [ht] at hp
     have e1 : ¬ ((s[i].toNat : Int) = 95) := by omega
     have e2 : (48:Int) ≤ (s[i].toNat : Int) := by omega
     have e3 : (s[i].toNat : Int) ≤ 57 := by omega
     have e4 : IntKind.wrap .u8 ((s[i].toNat : Int) - 48) = ((s[i].toNat - 48 : Nat) : Int) := by rw [wrap8_small (by omega) (by omega)]; omega
     have e5 : ¬ (10:Int) ≤ ((s[i].toNat - 48 : Nat) : Int) := by omega
     have e6 : ¬ (1844674407370955162:Int) ≤ (digVal (s.take i) : Int) := by omega
     have e7 : IntKind.wrap .u64 ((digVal (s.take i) : Int) * 10) = ((10 * digVal (s.take i) : Nat) : Int) := by rw [wrapU_small (by omega) (by omega)]; omega
     have e8 : IntKind.wrap .u64 ((s[i].toNat - 48 : Nat) : Int) = ((s[i].toNat - 48 : Nat) : Int) := wrapU_small (by omega) (by omega)
     have e9 : IntKind.wrap .u64 (((10 * digVal (s.take i) : Nat) : Int) + ((s[i].toNat - 48 : Nat) : Int)) = ((10 * digVal (s.take i) + (s[i].toNat - 48) : Nat) : Int) := by rw [wrapU_small (by omega) (by omega)]; omega
     have e10 : ¬ ((10 * digVal (s.take i) + (s[i].toNat - 48) : Nat) : Int) < ((10 * digVal (s.take i) : Nat) : Int) := by omega
     have e11 : ¬ ((10 * digVal (s.take i) + (s[i].toNat - 48) : Nat) : Int) > 18446744073709551615 := by omega
     rw [← hw,ht]
     generalize ((10 * digVal (s.take i) + (s[i].toNat - 48) : Nat) : Int) = N at *
     generalize ((10 * digVal (s.take i) : Nat) : Int) = M at *
     generalize ((s[i].toNat - 48 : Nat) : Int) = D at *
     generalize (digVal (s.take i) : Int) = V at *
     simp [l_isc_ParseUint_0,hi,e1,e2,e3,e4,e5,e6,e7,e8,e9,e10,e11,show IntKind.wrap .u8 10 = 10 from rfl,show IntKind.wrap .u64 10 = 10 from rfl])
   (fun i hi hp => by
     obtain ⟨c1,c2⟩ := hc i hi
     simp only [decide_eq_true_eq] at hp
     have ht := digVal_take hi
     rw [ht] at hp
     have e1 : ¬ ((s[i].toNat : Int) = 95) := by omega
     have e2 : (48:Int) ≤ (s[i].toNat : Int) := by omega
     have e3 : (s[i].toNat : Int) ≤ 57 := by omega
     have e4 : IntKind.wrap .u8 ((s[i].toNat : Int) - 48) = ((s[i].toNat - 48 : Nat) : Int) := by rw [wrap8_small (by omega) (by omega)]; omega
     have e5 : ¬ (10:Int) ≤ ((s[i].toNat - 48 : Nat) : Int) := by omega
     by_cases e6 : (1844674407370955162:Int) ≤ (digVal (s.take i) : Int)
     · generalize ((s[i].toNat - 48 : Nat) : Int) = D at *
       generalize (digVal (s.take i) : Int) = V at *
       simp [l_isc_ParseUint_0,hi,e1,e2,e3,e4,e5,e6,show IntKind.wrap .u8 10 = 10 from rfl,show IntKind.wrap .u64 10 = 10 from rfl]
     · have e7 : IntKind.wrap .u64 ((digVal (s.take i) : Int) * 10) = ((10 * digVal (s.take i) : Nat) : Int) := by rw [wrapU_small (by omega) (by omega)]; omega
       have e8 : IntKind.wrap .u64 ((s[i].toNat - 48 : Nat) : Int) = ((s[i].toNat - 48 : Nat) : Int) := wrapU_small (by omega) (by omega)
       have e9 : IntKind.wrap .u64 (((10 * digVal (s.take i) : Nat) : Int) + ((s[i].toNat - 48 : Nat) : Int)) = (((10 * digVal (s.take i) + (s[i].toNat - 48) : Nat) : Int) - 18446744073709551616) := by rw [wrapU]; omega
       have e10 : (((10 * digVal (s.take i) + (s[i].toNat - 48) : Nat) : Int) - 18446744073709551616) < ((10 * digVal (s.take i) : Nat) : Int) := by omega
       generalize (((10 * digVal (s.take i) + (s[i].toNat - 48) : Nat) : Int) - 18446744073709551616) = N at *
       generalize ((10 * digVal (s.take i) : Nat) : Int) = M at *
       generalize ((s[i].toNat - 48 : Nat) : Int) = D at *
       generalize (digVal (s.take i) : Int) = V at *
       simp [l_isc_ParseUint_0,hi,e1,e2,e3,e4,e5,e6,e7,e8,e9,e10,show IntKind.wrap .u8 10 = 10 from rfl,show IntKind.wrap .u64 10 = 10 from rfl])
   (by simp) (by simp [l_isc_ParseUint_0]) (by simp)
 rw [any_over] at hloop
 simp only [List.take_zero,show digVal [] = 0 from rfl,Int.natCast_zero] at hloop
 by_cases hv : 18446744073709551616 ≤ digVal s
 · simp [IP_isc_ParseUint,i_isc_ParseUint,h0,hs,hloop,hv,pU,show IntKind.wrap .u64 64 = 64 from rfl,show IntKind.wrap .u64 18446744073709551616 = 0 from rfl,show IntKind.wrap .u64 (-1) = 18446744073709551615 from rfl,IntKind.bits]
 · simp [IP_isc_ParseUint,i_isc_ParseUint,h0,hs,hloop,hv,pU,show IntKind.wrap .u64 64 = 64 from rfl,show IntKind.wrap .u64 18446744073709551616 = 0 from rfl,show IntKind.wrap .u64 (-1) = 18446744073709551615 from rfl,IntKind.bits]
theorem numE_nonempty {s:List UInt8} (h:numOk s = true) : s ≠ [] ∧ s.all isDig = true := by
 simp only [numOk,Bool.and_eq_true] at h
 refine ⟨?_,h.2.2⟩
 intro e; subst e; simp at h
end
end Go.Proofs.YtkofimhnehkdoaaGreatDoor.Rf
end
section
namespace Go.Proofs.YtkofimhnehkdoaaGreatDoor.Rf
section
variable {hp:List HObj} {lo:Nat} (q:Bool)
theorem bytesOf_map : ∀ s : List UInt8,bytesOf (s.map fun b => AV.int .u8 b.toNat) = some s
 | [] => rfl
 | b :: r => by
   have h := bytesOf_map r
   have h1 : (b.toNat : Int) < 256 := by have := b.toNat_lt; omega
   simp only [List.map_cons,bytesOf]
   rw [if_pos ⟨by omega,h1⟩,h]
   simp
theorem clone_D (s:List UInt8) (hs:s.length ≤ 140737488355328) : callD G0 IP n_isl_Clone [.str s] hp lo q = some (.ret (.str s) hp) := by
 rw [callD_eq]
 by_cases h0 : s = []
 · subst h0
   simp [IP_isl_Clone,i_isl_Clone]
 · have hl : s.length ≠ 0 := fun e => h0 (List.length_eq_zero_iff.1 e)
   have h1 : (0:Int) < (s.length : Int) := by omega
   have h2 : (s.length : Int) ≤ 9223372036854775807 := by omega
   have h3 : s.length ≤ s.length := Nat.le_refl _
   have hb := bytesOf_map s
   have htk : List.take s.length (s.map fun b => AV.int .u8 b.toNat) = s.map fun b => AV.int .u8 b.toNat := List.take_of_length_le (by simp)
   simp [IP_isl_Clone,i_isl_Clone,h0,hl,h1,h2,hs,hb,htk,Nat.pos_of_ne_zero hl]
theorem rangeError_D (f s:List UInt8) (hs:s.length ≤ 140737488355328) : callD G0 IP n_sc_rangeError [.str f,.str s] hp lo false = some (.ret (.ptr hp.length 0) (hp ++ [.cells 0 [.str f,.str s,.iface 222 .none]])) := by
 rw [callD_eq]
 have e := fun (hp:List HObj) (lo:Nat) (q:Bool) => clone_D (hp := hp) (lo := lo) q s hs
 simp [IP_sc_rangeError,i_sc_rangeError,e,G0_7,g_7]
theorem toError_D (f s:List UInt8) (hs:s.length ≤ 140737488355328) (b c:Int) : callD G0 IP n_sc_toError [.str f,.str s,.int .i64 b,.int .i64 c,.iface 211 (.int .i64 1)] hp lo false = some (.ret (.iface 213 (.ptr hp.length 0)) (hp ++ [.cells 0 [.str f,.str s,.iface 222 .none]])) := by
 rw [callD_eq]
 have e := fun (hp:List HObj) (lo:Nat) => rangeError_D (hp := hp) (lo := lo) f s hs
 simp [IP_sc_toError,i_sc_toError,e]
theorem parseUint_D (s:List UInt8) (hs:s.length ≤ 140737488355328) (h0:s ≠ []) (hd:s.all isDig = true) : ∃ hp',callD G0 IP n_sc_ParseUint [.str s,.int .i64 10,.int .i64 64] hp lo false =
   some (.ret (if 18446744073709551616 ≤ digVal s then .tup [.int .u64 18446744073709551615,.iface 213 (.ptr hp.length 0)] else .tup [.int .u64 (digVal s),.nili]) hp') := by
 have e := fun (hp:List HObj) (lo:Nat) => parseUintI_D (hp := hp) (lo := lo) s hs h0 hd
 have e2 := fun (f:List UInt8) (hp:List HObj) (lo:Nat) (b c:Int) => toError_D (hp := hp) (lo := lo) f s hs b c
 by_cases hv : 18446744073709551616 ≤ digVal s
 · refine ⟨hp ++ [.cells 0 [.str [80,97,114,115,101,85,105,110,116],.str s,.iface 222 .none]],?_⟩
   rw [callD_eq]
   simp only [pU,if_pos hv] at e ⊢
   simp [IP_sc_ParseUint,i_sc_ParseUint,e,e2]
 · refine ⟨hp,?_⟩
   rw [callD_eq]
   simp only [pU,if_neg hv] at e ⊢
   simp [IP_sc_ParseUint,i_sc_ParseUint,e,e2]
theorem digitsParse_D (s:List UInt8) (hs:s.length ≤ 140737488355328) (hx:hasPre s [48,120] = false) : callD G0 IP n_digits_Parse [.str s] hp lo q = some (.ret (.tup [.int .u64 (numE s).1,.int .i64 (numE s).2]) hp) := by
 rw [callD_eq]
 have e1 := fun (hp:List HObj) (lo:Nat) (q:Bool) => numeral_D (hp := hp) (lo := lo) q s (by omega)
 cases hn : numOk s with
 | false => simp [IP_digits_Parse,i_digits_Parse,cutPre_D,hx,e1,hn,numE]
 | true =>
   obtain ⟨h0,hd⟩ := numE_nonempty hn
   obtain ⟨hp',e2⟩ := parseUint_D (hp := hp) (lo := hp.length) s hs h0 hd
   by_cases hv : 18446744073709551616 ≤ digVal s
   · rw [if_pos hv] at e2
     simp [IP_digits_Parse,i_digits_Parse,cutPre_D,hx,e1,hn,numE,e2,hv]
   · rw [if_neg hv] at e2
     simp [IP_digits_Parse,i_digits_Parse,cutPre_D,hx,e1,hn,numE,e2,hv]
theorem numOk_0x {s:List UInt8} (h:hasPre s [48,120] = true) : numOk s = false := by
 simp only [hasPre,Bool.and_eq_true,decide_eq_true_eq] at h
 match s,h with
 | a :: b :: r,⟨_,h⟩ =>
   simp at h
   obtain ⟨rfl,rfl⟩ := h
   simp [numOk]
theorem ttNumeral_D (s:List UInt8) (hs:s.length ≤ 140737488355328) : callD G0 IP n_tt_numeral [.str s] hp lo q = some (.ret (.tup [.int .u64 (numE s).1,.int .i64 (numE s).2]) hp) := by
 rw [callD_eq]
 cases hx : hasPre s [48,120] with
 | true => simp [IP_tt_numeral,i_tt_numeral,hasPre_D,hx,numE,numOk_0x hx]
 | false =>
   have e := fun (hp:List HObj) (lo:Nat) (q:Bool) => digitsParse_D (hp := hp) (lo := lo) q s hs hx
   simp [IP_tt_numeral,i_tt_numeral,hasPre_D,hx,e]
theorem digit2_D (c:UInt8) : callD G0 IP n_sr02_digit [.int .u8 c.toNat,.int .u64 10] hp lo q = some (.ret (.int .i64 (if isDig c then (c.toNat : Int) - 48 else -1)) hp) := by
 rw [callD_eq]
 have hlt := c.toNat_lt
 by_cases h1 : (48:Int) ≤ (c.toNat : Int)
 · by_cases h2 : (c.toNat : Int) ≤ 57
   · have h3 : isDig c = true := by simp [isDig]; omega
     have e1 : IntKind.wrap .u8 ((c.toNat : Int) - 48) = (c.toNat : Int) - 48 := wrap8_small (by omega) (by omega)
     have e2 : IntKind.wrap .i64 ((c.toNat : Int) - 48) = (c.toNat : Int) - 48 := wrap_small (by omega) (by omega)
     simp [IP_sr02_digit,i_sr02_digit,h1,h2,h3,e1,e2]
   · have h3 : isDig c = false := by simp [isDig]; omega
     simp [IP_sr02_digit,i_sr02_digit,h1,h2,h3]
 · have h3 : isDig c = false := by simp [isDig]; omega
   simp [IP_sr02_digit,i_sr02_digit,h1,h3]
theorem over_step {V d:Nat} (hd:d ≤ 9) : (decide (18446744073709551616 ≤ V) || decide (((V:Int) % 18446744073709551616) > (18446744073709551615 - (d:Int)).tdiv 10)) = decide (18446744073709551616 ≤ 10 * V + d) := by
 rw [Int.tdiv_eq_ediv_of_nonneg (by omega)]
 by_cases h : 18446744073709551616 ≤ V
 · have h2 : 18446744073709551616 ≤ 10 * V + d := by omega
   simp only [h,h2,decide_true,Bool.true_or]
 · have h1 : (V:Int) % 18446744073709551616 = V := by omega
   rw [h1]
   by_cases h2 : 18446744073709551616 ≤ 10 * V + d
   · have h3 : (V:Int) > (18446744073709551615 - (d:Int)) / 10 := by omega
     simp only [h,h2,h3,decide_true,decide_false,Bool.or_true]
   · have h3 : ¬ (V:Int) > (18446744073709551615 - (d:Int)) / 10 := by omega
     simp only [h,h2,h3,decide_false,Bool.or_self]
theorem number2_D (s:List UInt8) (hs:s.length ≤ 9223372036854775807) : callD G0 IP n_sr02_number [.str s,.int .u64 10] hp lo q = some (.ret (.tup [.int .u64 (numE s).1,.int .i64 (numE s).2]) hp) := by
 rw [callD_eq]
 cases s with
 | nil => simp [IP_sr02_number,i_sr02_number,numE,numOk]
 | cons a r =>
   generalize hse : a :: r = s at *
   have hne : s ≠ [] := by rw [← hse]; simp
   have h0 : s[0]? = some a := by rw [← hse]; rfl
   have hh : s.head? = some a := by rw [← hse]; rfl
   have hemp : s.isEmpty = false := by rw [← hse]; rfl
   have hloop := loop_find (G := G0) (IP := IP) (lo := hp.length) (b := l_sr02_number_0)
     (fun i => ⟨[(0,.str s),(1,.int .u64 10),(6,.int .u64 ((digVal (s.take i) : Int) % 18446744073709551616)),(7,.bool (decide (18446744073709551616 ≤ digVal (s.take i)))),(8,.int .i64 i)],hp⟩) s.length (fun i => !isDig (s.getD i 0))
     (.ret,⟨[(4,.int .u64 0),(5,.int .i64 6)],hp⟩) (.exit 0,⟨[(0,.str s),(1,.int .u64 10),(6,.int .u64 ((digVal s:Int) % 18446744073709551616)),(7,.bool (decide (18446744073709551616 ≤ digVal s))),(8,.int .i64 s.length),(25,.bool false)],hp⟩)
     (fun i hi hp => by
       have hw := wrap_succ hi hs
       simp [List.getD,hi] at hp
       have hd : 48 ≤ s[i].toNat ∧ s[i].toNat ≤ 57 := by simpa [isDig] using hp
       have ht := digVal_take hi
       obtain ⟨d,hdd,hd9⟩ : ∃ d : Nat,s[i].toNat = d + 48 ∧ d ≤ 9 := ⟨s[i].toNat - 48,by omega,by omega⟩
       have ht' : digVal (s.take (i + 1)) = 10 * digVal (s.take i) + d := by omega
       have hD : ((s[i].toNat : Int) - 48) = (d:Int) := by omega
       have e0 := digit2_D (hp := ‹List HObj›) (lo := (‹List HObj›).length) false s[i]
       rw [if_pos hp,hD] at e0
       have e1 : ¬ ((d:Int) < 0) := by omega
       have e2 : IntKind.wrap .u64 (d:Int) = d := wrapU_small (by omega) (by omega)
       have e3 : IntKind.wrap .u64 (18446744073709551615 - (d:Int)) = 18446744073709551615 - (d:Int) := wrapU_small (by omega) (by omega)
       have e4 : IntKind.wrap .u64 ((18446744073709551615 - (d:Int)).tdiv 10) = (18446744073709551615 - (d:Int)).tdiv 10 := by
         rw [Int.tdiv_eq_ediv_of_nonneg (by omega)]; exact wrapU_small (by omega) (by omega)
       have e5 := over_step (V := digVal (s.take i)) hd9
       have e6 : IntKind.wrap .u64 (IntKind.wrap .u64 (10 * ((digVal (s.take i) : Int) % 18446744073709551616)) + (d:Int)) = ((digVal (s.take (i + 1)) : Int) % 18446744073709551616) := by
         rw [wrapU,wrapU,ht']; omega
       rw [← hw,← e6,show decide (18446744073709551616 ≤ digVal (s.take (i + 1))) = decide (18446744073709551616 ≤ 10 * digVal (s.take i) + d) by rw [ht'],← e5]
       cases hv : decide (18446744073709551616 ≤ digVal (s.take i)) with
       | true =>
         generalize ((digVal (s.take i) : Int) % 18446744073709551616) = X at *
         simp [l_sr02_number_0,hi,show (i:Int) < (s.length : Int) by omega,e0,e1,e2]
       | false =>
         generalize ((digVal (s.take i) : Int) % 18446744073709551616) = X at *
         simp [l_sr02_number_0,hi,show (i:Int) < (s.length : Int) by omega,e0,e1,e2,e3,e4])
     (fun i hi hp => by
       simp [List.getD,hi] at hp
       have e0 := digit2_D (hp := ‹List HObj›) (lo := (‹List HObj›).length) false s[i]
       rw [if_neg (by simp [hp])] at e0
       simp [l_sr02_number_0,hi,show (i:Int) < (s.length : Int) by omega,e0])
     (by simp) (by simp [l_sr02_number_0]) (by simp)
   rw [any_range_isDig] at hloop
   have z1 : decide (18446744073709551616 ≤ digVal (s.take 0)) = false := by
     have : digVal (s.take 0) = 0 := rfl
     rw [this]; exact decide_eq_false (by omega)
   have z2 : ((digVal (s.take 0) : Int) % 18446744073709551616) = 0 := rfl
   simp only [z1,z2,Int.natCast_zero] at hloop
   by_cases ha : a = 48
   · subst ha
     by_cases hl : (1:Int) < (s.length : Int)
     · have hl' : 1 < s.length := by omega
       simp [IP_sr02_number,i_sr02_number,numE,numOk,hne,h0,hl,hl',hh,hemp]
     · have hl' : ¬ 1 < s.length := by omega
       cases hd : s.all isDig with
       | false => simp [IP_sr02_number,i_sr02_number,numE,numOk,hne,h0,hl,hl',hh,hemp,hloop,hd]
       | true =>
         by_cases hv : 18446744073709551616 ≤ digVal s
         · simp [IP_sr02_number,i_sr02_number,numE,numOk,hne,h0,hl,hl',hh,hemp,hloop,hd,hv]
         · have hm : ((digVal s:Int) % 18446744073709551616) = digVal s := by omega
           simp [IP_sr02_number,i_sr02_number,numE,numOk,hne,h0,hl,hl',hh,hemp,hloop,hd,hv,hm]
   · have ha' : ¬ (a.toNat : Int) = 48 := by intro e; apply ha; apply UInt8.toNat_inj.1; simp; omega
     cases hd : s.all isDig with
     | false => simp [IP_sr02_number,i_sr02_number,numE,numOk,hne,h0,ha,ha',hh,hemp,hloop,hd]
     | true =>
       by_cases hv : 18446744073709551616 ≤ digVal s
       · simp [IP_sr02_number,i_sr02_number,numE,numOk,hne,h0,ha,ha',hh,hemp,hloop,hd,hv]
       · have hm : ((digVal s:Int) % 18446744073709551616) = digVal s := by omega
         simp [IP_sr02_number,i_sr02_number,numE,numOk,hne,h0,ha,ha',hh,hemp,hloop,hd,hv,hm]
theorem parse2x_D (s:List UInt8) (hs:s.length ≤ 9223372036854775807) (hx:hasPre s [48,120] = false) : callD G0 IP n_sr02_Parse [.str s] hp lo q = some (.ret (.tup [.int .u64 (numE s).1,.int .i64 (numE s).2]) hp) := by
 rw [callD_eq]
 have e := fun (hp:List HObj) (lo:Nat) (q:Bool) => number2_D (hp := hp) (lo := lo) q s hs
 by_cases hl : (2:Int) < (s.length : Int)
 · have hl' : 2 ≤ s.length := by omega
   have hx' : ¬ s.take 2 = [48,120] := by
     intro h; simp [hasPre,h] at hx; omega
   simp [IP_sr02_Parse,i_sr02_Parse,hl,hl',hx',e]
 · simp [IP_sr02_Parse,i_sr02_Parse,hl,e]
theorem number7_D (s:List UInt8) (hs:s.length ≤ 9223372036854775807) : callD G0 IP n_sr07_Number [.str s] hp lo q = some (.ret (.tup [.int .u64 (numE s).1,.int .i64 (numE s).2]) hp) := by
 rw [callD_eq]
 cases s with
 | nil => simp [IP_sr07_Number,i_sr07_Number,numE,numOk]
 | cons a r =>
   generalize hse : a :: r = s at *
   have hne : s ≠ [] := by rw [← hse]; simp
   have hnl : s.length ≠ 0 := by rw [← hse]; simp
   have h0 : s[0]? = some a := by rw [← hse]; rfl
   have hh : s.head? = some a := by rw [← hse]; rfl
   have hemp : s.isEmpty = false := by rw [← hse]; rfl
   have hloop := loop_find (G := G0) (IP := IP) (lo := hp.length) (b := l_sr07_Number_0)
     (fun i => ⟨[(0,.str s),(4,.int .i64 i)],hp⟩) s.length (fun i => !isDig (s.getD i 0))
     (.ret,⟨[(2,.int .u64 0),(3,.int .i64 6)],hp⟩) (.exit 0,⟨[(0,.str s),(4,.int .i64 s.length),(21,.bool false)],hp⟩)
     (fun i hi hp => by
       have hw := wrap_succ hi hs
       simp [List.getD,hi] at hp
       have hd : 48 ≤ s[i].toNat ∧ s[i].toNat ≤ 57 := by simpa [isDig] using hp
       rw [← hw]
       simp [l_sr07_Number_0,hi,show (i:Int) < (s.length : Int) by omega,show ¬ ((s[i].toNat : Int) < 48) by omega,show ¬ (57:Int) < (s[i].toNat : Int) by omega])
     (fun i hi hp => by
       simp [List.getD,hi] at hp
       by_cases h1 : (s[i].toNat : Int) < 48
       · simp [l_sr07_Number_0,hi,show (i:Int) < (s.length : Int) by omega,h1]
       · have h2 : (57:Int) < (s[i].toNat : Int) := by simp [isDig] at hp; omega
         simp [l_sr07_Number_0,hi,show (i:Int) < (s.length : Int) by omega,h1,h2])
     (by simp) (by simp [l_sr07_Number_0]) (by simp)
   rw [any_range_isDig] at hloop
   simp only [Int.natCast_zero] at hloop
   have tail : s.all isDig = true → ∀ (hp:List HObj) (lo:Nat) (q:Bool),callD G0 IP n_sr02_Parse [.str s] hp lo q = some (.ret (.tup [.int .u64 (numE s).1,.int .i64 (numE s).2]) hp) := fun hd hp lo q => by
     refine parse2x_D q s hs ?_
     cases hx : hasPre s [48,120] with
     | false => rfl
     | true =>
       exfalso
       have h1 := numOk_0x hx
       simp only [hasPre,Bool.and_eq_true,decide_eq_true_eq] at hx
       have h2 : (120:UInt8) ∈ s := by
         have : (120:UInt8) ∈ s.take 2 := by
           have := hx.2; simp at this; rw [this]; simp
         exact List.mem_of_mem_take this
       have := List.all_eq_true.1 hd _ h2
       simp [isDig] at this
   by_cases hl : (1:Int) < (s.length : Int)
   · have hl' : 1 < s.length := by omega
     by_cases ha : a = 48
     · subst ha
       simp [IP_sr07_Number,i_sr07_Number,numE,numOk,hne,hnl,h0,hl,hl',hh,hemp]
     · have ha' : ¬ (a.toNat : Int) = 48 := by intro e; apply ha; apply UInt8.toNat_inj.1; simp; omega
       cases hd : s.all isDig with
       | false => simp [IP_sr07_Number,i_sr07_Number,numE,numOk,hne,hnl,h0,hl,hl',ha,ha',hh,hemp,hloop,hd]
       | true => simp [IP_sr07_Number,i_sr07_Number,hne,hnl,h0,hl,hl',ha,ha',hh,hemp,hloop,hd,tail hd]
   · have hl' : ¬ 1 < s.length := by omega
     cases hd : s.all isDig with
     | false => simp [IP_sr07_Number,i_sr07_Number,numE,numOk,hne,hnl,h0,hl,hl',hh,hemp,hloop,hd]
     | true => simp [IP_sr07_Number,i_sr07_Number,hne,hnl,h0,hl,hl',hh,hemp,hloop,hd,tail hd]
end
end Go.Proofs.YtkofimhnehkdoaaGreatDoor.Rf
end
section
namespace Go.Proofs.YtkofimhnehkdoaaGreatDoor.Rf
def intE (s:List UInt8) : Int × Int :=
 if hasPre s [45] then
   (if numOk (s.drop 1) = false ∨ s.drop 1 = [48] then (0,6) else if 9223372036854775808 < digVal (s.drop 1) then (0,2) else (-(digVal (s.drop 1) : Int),0))
 else
   (if numOk s = false then (0,6) else if 9223372036854775808 ≤ digVal s then (0,2) else ((digVal s:Int),0))
def pI (neg:Bool) (r:List UInt8) : AV :=
 if neg then (if 9223372036854775808 < digVal r then .tup [.int .i64 (-9223372036854775808),.iface 211 (.int .i64 1)] else .tup [.int .i64 (-(digVal r:Int)),.nili])
 else (if 9223372036854775808 ≤ digVal r then .tup [.int .i64 9223372036854775807,.iface 211 (.int .i64 1)] else .tup [.int .i64 (digVal r),.nili])
section
variable {hp:List HObj} {lo:Nat}
set_option maxHeartbeats 1000000 in
theorem parseIntI_D (neg:Bool) (r:List UInt8) (hs:r.length ≤ 140737488355000) (h0:r ≠ []) (hd:r.all isDig = true) (hp:List HObj) (lo:Nat) : callD G0 IP n_isc_ParseInt [.str (if neg then 45 :: r else r),.int .i64 10,.int .i64 64] hp lo false = some (.ret (pI neg r) hp) := by
 rw [callD_eq]
 have e := fun (hp:List HObj) (lo:Nat) => parseUintI_D (hp := hp) (lo := lo) r (by omega) h0 hd
 have sh : IntKind.wrap .u64 (2 ^ min 63 IntKind.u64.bits) = 9223372036854775808 := by decide
 have z1 : IntKind.wrap .u64 9223372036854775807 = 9223372036854775807 := by decide
 have z2 : IntKind.wrap .i64 9223372036854775807 = 9223372036854775807 := by decide
 have z3 : IntKind.wrap .i64 9223372036854775808 = -9223372036854775808 := by decide
 have z4 : IntKind.wrap .i64 (-9223372036854775808) = -9223372036854775808 := by decide
 have c64 : IntKind.wrap .u64 (IntKind.wrap .i64 (64 - 1)) = 63 := by decide
 have c63 : IntKind.wrap .i64 63 = 63 := by decide
 have c63u : IntKind.wrap .u64 63 = 63 := by decide
 rcases r with _ | ⟨c,r'⟩
 · exact absurd rfl h0
 have hc : 48 ≤ c.toNat ∧ c.toNat ≤ 57 := by
   have := List.all_eq_true.1 hd c (by simp)
   simpa [isDig] using this
 have n43 : ¬ (c.toNat : Int) = 43 := by omega
 have n45 : ¬ (c.toNat : Int) = 45 := by omega
 have hl : (0:Int) < (r'.length : Int) + 1 := by omega
 have hl2 : (0:Int) < (r'.length : Int) + 1 + 1 := by omega
 generalize hD : digVal (c :: r') = D at *
 cases neg with
 | false =>
   by_cases hv : 18446744073709551616 ≤ D
   · have hv2 : 9223372036854775808 ≤ D := by omega
     simp only [pU,hD,if_pos hv] at e
     simp [IP_isc_ParseInt,i_isc_ParseInt,n43,n45,hl,hl2,e,pI,sh,c64,c63,c63u,z1,z2,z3,z4,hD,hv2]
   · simp only [pU,hD,if_neg hv] at e
     by_cases hv2 : 9223372036854775808 ≤ D
     · have k1 : (9223372036854775808:Int) ≤ (D:Int) := by omega
       simp [IP_isc_ParseInt,i_isc_ParseInt,n43,n45,hl,hl2,e,pI,sh,c64,c63,c63u,z1,z2,z3,z4,hD,hv2,k1]
     · have k1 : ¬ (9223372036854775808:Int) ≤ (D:Int) := by omega
       have w1 : IntKind.wrap .i64 (D:Int) = D := wrap_small (by omega) (by omega)
       simp [IP_isc_ParseInt,i_isc_ParseInt,n43,n45,hl,hl2,e,pI,sh,c64,c63,c63u,z1,z2,z3,z4,hD,hv2,k1,w1]
 | true =>
   by_cases hv : 18446744073709551616 ≤ D
   · have hv2 : 9223372036854775808 < D := by omega
     simp only [pU,hD,if_pos hv] at e
     simp [IP_isc_ParseInt,i_isc_ParseInt,n43,n45,hl,hl2,e,pI,sh,c64,c63,c63u,z1,z2,z3,z4,hD,hv2]
   · simp only [pU,hD,if_neg hv] at e
     by_cases hv2 : 9223372036854775808 < D
     · have k1 : (9223372036854775808:Int) < (D:Int) := by omega
       simp [IP_isc_ParseInt,i_isc_ParseInt,n43,n45,hl,hl2,e,pI,sh,c64,c63,c63u,z1,z2,z3,z4,hD,hv2,k1]
     · have k1 : ¬ (9223372036854775808:Int) < (D:Int) := by omega
       by_cases hv3 : D = 9223372036854775808
       · subst hv3
         simp [IP_isc_ParseInt,i_isc_ParseInt,n43,n45,hl,hl2,e,pI,sh,c64,c63,c63u,z1,z2,z3,z4,hD]
       · have w1 : IntKind.wrap .i64 (D:Int) = D := wrap_small (by omega) (by omega)
         have w2 : IntKind.wrap .i64 (-(D:Int)) = -(D:Int) := by simp [IntKind.wrap,IntKind.signed,IntKind.bits]; omega
         simp [IP_isc_ParseInt,i_isc_ParseInt,n43,n45,hl,hl2,e,pI,sh,c64,c63,c63u,z1,z2,z3,z4,hD,hv2,k1,w1,w2]
end
end Go.Proofs.YtkofimhnehkdoaaGreatDoor.Rf
end
section
namespace Go.Proofs.YtkofimhnehkdoaaGreatDoor.Rf
theorem hasPre45 {s:List UInt8} (h:hasPre s [45] = true) : ∃ r,s = 45 :: r := by
 simp only [hasPre,Bool.and_eq_true,decide_eq_true_eq] at h
 match s,h with
 | c :: r,⟨_,h⟩ => simp at h; exact ⟨r,by rw [h]⟩
theorem hasPre45n {c:UInt8} {r:List UInt8} (h:hasPre (c :: r) [45] = false) : ¬ c = 45 := fun e => by
 subst e; simp [hasPre] at h
section
variable {hp:List HObj} {lo:Nat}
theorem toErrorI_D (neg:Bool) (r:List UInt8) (hs:r.length ≤ 140737488355000) (h0:r ≠ []) (hd:r.all isDig = true) (hp:List HObj) (lo:Nat) :
   ∃ hp',callD G0 IP n_sc_ParseInt [.str (if neg then 45 :: r else r),.int .i64 10,.int .i64 64] hp lo false =
     some (.ret (if (if neg then 9223372036854775808 < digVal r else 9223372036854775808 ≤ digVal r) then .tup [.int .i64 (if neg then -9223372036854775808 else 9223372036854775807),.iface 213 (.ptr hp.length 0)] else .tup [.int .i64 (if neg then -(digVal r:Int) else digVal r),.nili]) hp') := by
 have e := fun (hp:List HObj) (lo:Nat) => parseIntI_D neg r hs h0 hd hp lo
 have hl : (if neg then 45 :: r else r).length ≤ 140737488355328 := by cases neg <;> simp <;> omega
 have e2 := fun (f:List UInt8) (hp:List HObj) (lo:Nat) (b c:Int) => toError_D (hp := hp) (lo := lo) f (if neg then 45 :: r else r) hl b c
 cases neg with
 | true =>
   by_cases hv : 9223372036854775808 < digVal r
   · refine ⟨hp ++ [.cells 0 [.str [80,97,114,115,101,73,110,116],.str (45 :: r),.iface 222 .none]],?_⟩
     rw [callD_eq]
     simp [pI,hv] at e
     simp at e2
     simp [IP_sc_ParseInt,i_sc_ParseInt,e,e2,hv]
   · refine ⟨hp,?_⟩
     rw [callD_eq]
     simp [pI,hv] at e
     simp [IP_sc_ParseInt,i_sc_ParseInt,e,hv]
 | false =>
   by_cases hv : 9223372036854775808 ≤ digVal r
   · refine ⟨hp ++ [.cells 0 [.str [80,97,114,115,101,73,110,116],.str r,.iface 222 .none]],?_⟩
     rw [callD_eq]
     simp [pI,hv] at e
     simp at e2
     simp [IP_sc_ParseInt,i_sc_ParseInt,e,e2,hv]
   · refine ⟨hp,?_⟩
     rw [callD_eq]
     simp [pI,hv] at e
     simp [IP_sc_ParseInt,i_sc_ParseInt,e,hv]
set_option maxHeartbeats 1000000 in
theorem parseIntT_D (s:List UInt8) (hs:s.length ≤ 140737488355000) (hp:List HObj) (lo:Nat) (q:Bool) : callD G0 IP n_digits_ParseInt [.str s] hp lo q = some (.ret (.tup [.int .i64 (intE s).1,.int .i64 (intE s).2]) hp) := by
 rw [callD_eq]
 cases hm : hasPre s [45] with
 | true =>
   obtain ⟨r,rfl⟩ := hasPre45 hm
   have hsr : r.length ≤ 140737488355000 := by simp at hs; omega
   have e1 := fun (hp:List HObj) (lo:Nat) (q:Bool) => numeral_D (hp := hp) (lo := lo) q r (by omega)
   have e3 : intE (45 :: r) = (if numOk r = false ∨ r = [48] then (0,6) else if 9223372036854775808 < digVal r then (0,2) else (-(digVal r:Int),0)) := by
     unfold intE; rw [if_pos hm]; rfl
   rw [e3]
   cases hn : numOk r with
   | false => simp [IP_digits_ParseInt,i_digits_ParseInt,cutPre_D,hm,e1,hn]
   | true =>
     by_cases hz : r = [48]
     · subst hz
       simp [IP_digits_ParseInt,i_digits_ParseInt,cutPre_D,hm,e1,hn]
     · obtain ⟨h0,hd⟩ := numE_nonempty hn
       obtain ⟨hp',e2⟩ := toErrorI_D true r hsr h0 hd hp hp.length
       by_cases hv : 9223372036854775808 < digVal r
       · simp [hv] at e2
         simp [IP_digits_ParseInt,i_digits_ParseInt,cutPre_D,hm,e1,hn,hz,e2,hv]
       · simp [hv] at e2
         simp [IP_digits_ParseInt,i_digits_ParseInt,cutPre_D,hm,e1,hn,hz,e2,hv]
 | false =>
   have e1 := fun (hp:List HObj) (lo:Nat) (q:Bool) => numeral_D (hp := hp) (lo := lo) q s (by omega)
   have e3 : intE s = (if numOk s = false then (0,6) else if 9223372036854775808 ≤ digVal s then (0,2) else ((digVal s:Int),0)) := by
     unfold intE; rw [if_neg (by rw [hm]; simp)]
   rw [e3]
   cases hn : numOk s with
   | false => simp [IP_digits_ParseInt,i_digits_ParseInt,cutPre_D,hm,e1,hn]
   | true =>
     obtain ⟨h0,hd⟩ := numE_nonempty hn
     obtain ⟨hp',e2⟩ := toErrorI_D false s hs h0 hd hp hp.length
     by_cases hv : 9223372036854775808 ≤ digVal s
     · simp [hv] at e2
       simp [IP_digits_ParseInt,i_digits_ParseInt,cutPre_D,hm,e1,hn,e2,hv]
     · simp [hv] at e2
       simp [IP_digits_ParseInt,i_digits_ParseInt,cutPre_D,hm,e1,hn,e2,hv]
set_option maxHeartbeats 1000000 in
theorem parseInt2_D (s:List UInt8) (hs:s.length ≤ 140737488355000) (hp:List HObj) (lo:Nat) (q:Bool) : callD G0 IP n_sr02_ParseInt [.str s] hp lo q = some (.ret (.tup [.int .i64 (intE s).1,.int .i64 (intE s).2]) hp) := by
 rw [callD_eq]
 have w0 : IntKind.wrap .i64 0 = 0 := by decide
 cases hm : hasPre s [45] with
 | true =>
   obtain ⟨r,rfl⟩ := hasPre45 hm
   have e1 := fun (hp:List HObj) (lo:Nat) (q:Bool) => number2_D (hp := hp) (lo := lo) q r (by simp at hs; omega)
   have hl : (0:Int) < (r.length : Int) + 1 := by omega
   have e3 : intE (45 :: r) = (if numOk r = false ∨ r = [48] then (0,6) else if 9223372036854775808 < digVal r then (0,2) else (-(digVal r:Int),0)) := by
     unfold intE; rw [if_pos hm]; rfl
   rw [e3]
   cases hn : numOk r with
   | false =>
     have e4 : numE r = (0,6) := by simp [numE,hn]
     simp [IP_sr02_ParseInt,i_sr02_ParseInt,hl,e1,e4,w0]
   | true =>
     by_cases hz : r = [48]
     · subst hz
       have e4 : numE [48] = (0,0) := by rfl
       simp [IP_sr02_ParseInt,i_sr02_ParseInt,e1,e4,w0]
     · have hpos : 0 < digVal r := by
         rcases Nat.eq_zero_or_pos (digVal r) with h | h
         · exfalso; have := dec_digVal hn; rw [h,dec_small (by omega)] at this; exact hz this.symm
         · exact h
       by_cases hv : 18446744073709551616 ≤ digVal r
       · have e4 : numE r = (0,2) := by simp [numE,hn,hv]
         have hv2 : 9223372036854775808 < digVal r := by omega
         simp [IP_sr02_ParseInt,i_sr02_ParseInt,hl,e1,e4,w0,hz,hv2]
       · have e4 : numE r = ((digVal r:Int),0) := by simp [numE,hn,hv]
         generalize digVal r = D at *
         have k0 : ¬ (D:Int) = 0 := by omega
         have k0' : ¬ D = 0 := by omega
         by_cases hv2 : 9223372036854775808 < D
         · have k1 : (9223372036854775808:Int) < D := by omega
           simp [IP_sr02_ParseInt,i_sr02_ParseInt,hl,e1,e4,hz,hv2,k0,k0',k1]
         · have k1 : ¬ (9223372036854775808:Int) < D := by omega
           by_cases hv3 : D = 9223372036854775808
           · subst hv3
             have z3 : IntKind.wrap .i64 9223372036854775808 = -9223372036854775808 := by decide
             have z4 : IntKind.wrap .i64 (-9223372036854775808) = -9223372036854775808 := by decide
             simp [IP_sr02_ParseInt,i_sr02_ParseInt,hl,e1,e4,hz,z3,z4]
           · have w1 : IntKind.wrap .i64 (D:Int) = D := wrap_small (by omega) (by omega)
             have w2 : IntKind.wrap .i64 (-(D:Int)) = -(D:Int) := by simp [IntKind.wrap,IntKind.signed,IntKind.bits]; omega
             simp [IP_sr02_ParseInt,i_sr02_ParseInt,hl,e1,e4,hz,hv2,k0,k0',k1,w1,w2]
 | false =>
   have e1 := fun (hp:List HObj) (lo:Nat) (q:Bool) => number2_D (hp := hp) (lo := lo) q s (by omega)
   have e3 : intE s = (if numOk s = false then (0,6) else if 9223372036854775808 ≤ digVal s then (0,2) else ((digVal s:Int),0)) := by
     unfold intE; rw [if_neg (by rw [hm]; simp)]
   rw [e3]
   rcases s with _ | ⟨c,r⟩
   · have e4 : numE [] = (0,6) := by rfl
     simp [IP_sr02_ParseInt,i_sr02_ParseInt,e1,e4,w0,numOk]
   · have hc := hasPre45n hm
     have hc' : ¬ (c.toNat : Int) = 45 := fun e => hc (UInt8.toNat_inj.1 (by simp only [show UInt8.toNat 45 = 45 from rfl]; omega))
     have hl : (0:Int) < (r.length : Int) + 1 := by omega
     cases hn : numOk (c :: r) with
     | false =>
       have e4 : numE (c :: r) = (0,6) := by simp [numE,hn]
       simp [IP_sr02_ParseInt,i_sr02_ParseInt,hl,hc',e1,e4,w0]
     | true =>
       by_cases hv : 18446744073709551616 ≤ digVal (c :: r)
       · have e4 : numE (c :: r) = (0,2) := by simp [numE,hn,hv]
         have hv2 : 9223372036854775808 ≤ digVal (c :: r) := by omega
         simp [IP_sr02_ParseInt,i_sr02_ParseInt,hl,hc',e1,e4,w0,hv2]
       · have e4 : numE (c :: r) = ((digVal (c :: r) : Int),0) := by simp [numE,hn,hv]
         generalize digVal (c :: r) = D at *
         by_cases hv2 : 9223372036854775808 ≤ D
         · have k1 : (9223372036854775807:Int) < D := by omega
           simp [IP_sr02_ParseInt,i_sr02_ParseInt,hl,hc',e1,e4,hv2,k1]
         · have k1 : ¬ (9223372036854775807:Int) < D := by omega
           have w1 : IntKind.wrap .i64 (D:Int) = D := wrap_small (by omega) (by omega)
           simp [IP_sr02_ParseInt,i_sr02_ParseInt,hl,hc',e1,e4,hv2,k1,w1]
end
end Go.Proofs.YtkofimhnehkdoaaGreatDoor.Rf
end
section
namespace Go.Proofs.YtkofimhnehkdoaaGreatDoor.Rf
inductive S where
 | mk (atom:List UInt8) (o:Bool) (list:List S)
namespace S
def atom : S → List UInt8 | .mk a _ _ => a
def o : S → Bool | .mk _ a _ => a
def list : S → List S | .mk _ _ a => a
end S
mutual
def S.av : S → AV
 | .mk a o l => .agg [.str a,.list (S.avs l) (ownB o)]
def S.avs : List S → List AV
 | [] => []
 | t :: r => t.av :: S.avs r
end
theorem S.av_eq (t:S) : t.av = .agg [.str t.atom,.list (S.avs t.list) (ownB t.o)] := by cases t; rfl
theorem S.avs_eq : ∀ l : List S,S.avs l = l.map S.av
 | [] => rfl
 | t :: r => by simp [S.avs,S.avs_eq r]
@[simp] theorem S.avs_len (l:List S) : (S.avs l).length = l.length := by simp [S.avs_eq]
@[simp] theorem S.avs_nil : S.avs [] = [] := rfl
@[simp] theorem S.avs_getElem {l:List S} {i:Nat} (h:i < (S.avs l).length) : (S.avs l)[i] = (l[i]'(by simpa using h)).av := by simp [S.avs_eq]
theorem S.avs_get {l:List S} {i:Nat} (h:i < l.length) : (S.avs l)[i]? = some l[i].av := by simp [S.avs_eq,h]
theorem S.avs_app (a b:List S) : S.avs (a ++ b) = S.avs a ++ S.avs b := by simp [S.avs_eq]
mutual
def S.wf : S → Prop
 | .mk a o l => a.length ≤ 9223372036854775807 ∧ l.length ≤ 9223372036854775807 ∧ (o = true → l = []) ∧ S.wfs l
def S.wfs : List S → Prop
 | [] => True
 | t :: r => t.wf ∧ S.wfs r
end
theorem S.wfs_iff : ∀ l : List S,S.wfs l ↔ ∀ t,t ∈ l → t.wf
 | [] => by simp [S.wfs]
 | t :: r => by simp [S.wfs,S.wfs_iff r]
theorem S.wf_eq (t:S) : t.wf ↔ t.atom.length ≤ 9223372036854775807 ∧ t.list.length ≤ 9223372036854775807 ∧ (t.o = true → t.list = []) ∧ ∀ u,u ∈ t.list → u.wf := by
 cases t; simp only [S.wf,S.atom,S.list,S.o,S.wfs_iff]
mutual
def S.same : S → S → Bool
 | .mk a _ l,.mk a' _ l' => a == a' && S.sames l l'
def S.sames : List S → List S → Bool
 | [],[] => true
 | t :: r,u :: s => t.same u && S.sames r s
 | [],_ :: _ => false
 | _ :: _,[] => false
end
theorem S.same_eq (t u:S) : t.same u = (t.atom == u.atom && S.sames t.list u.list) := by cases t; cases u; rfl
theorem S.sames_eq : ∀ (as bs:List S) (h:as.length = bs.length),S.sames as bs = !(List.range as.length).any fun i => !(as.getD i (.mk [] true [])).same (bs.getD i (.mk [] true []))
 | [],[],_ => rfl
 | t :: r,u :: s,h => by
   rw [S.sames,S.sames_eq r s (by simpa using h),List.length_cons,List.range_succ_eq_map]
   simp [List.any_map,Function.comp_def]
 | [],_ :: _,h => by simp at h
 | _ :: _,[],h => by simp at h
theorem S.sames_len : ∀ (as bs:List S),as.length ≠ bs.length → S.sames as bs = false
 | [],[],h => by simp at h
 | t :: r,u :: s,h => by rw [S.sames,S.sames_len r s (by simpa using h),Bool.and_false]
 | [],_ :: _,h => rfl
 | _ :: _,[],h => rfl
theorem S.ind {p:S → Prop} (h:∀ t : S,(∀ u,u ∈ t.list → p u) → p t) (t:S) : p t :=
 S.rec (motive_1 := p) (motive_2 := fun l => ∀ u,u ∈ l → p u) (fun a b c ih => h _ ih) (fun u hu => by simp at hu)
   (fun t r h1 h2 u hu => by
     rcases List.mem_cons.1 hu with e | hu
     · rw [e]; exact h1
     · exact h2 u hu) t
theorem S.same_refl (t:S) : t.same t = true := by
 induction t using S.ind with | h t ih =>
 have : ∀ l : List S,(∀ u,u ∈ l → u.same u = true) → S.sames l l = true := by
   intro l
   induction l with
   | nil => intro _; rfl
   | cons x r ihl => intro h; simp only [S.sames,h x (by simp),Bool.true_and]; exact ihl fun u hu => h u (by simp [hu])
 rw [S.same_eq,this t.list ih]; simp
theorem S.sames_refl (l:List S) : S.sames l l = true := by
 induction l with
 | nil => rfl
 | cons x r ih => simp only [S.sames,S.same_refl x,ih,Bool.true_and]
section
variable {H:Type} {P:Program}
theorem ArgTy.str {t:TypeId} {v:AV} {d:DataW H} (hu:P.underlying t = some .string) (h:ArgTy P t v d) : ∃ s,v = .str s ∧ s.length ≤ 9223372036854775807 := by
 obtain ⟨n,cs,rfl,h⟩ := h
 obtain ⟨m,rfl,hm⟩ := h.str hu
 exact ⟨m,by unfold elemAV aggTy; rw [hu]; rfl,hm⟩
end
end Go.Proofs.YtkofimhnehkdoaaGreatDoor.Rf
end
section
namespace Go.Proofs.YtkofimhnehkdoaaGreatDoor.Rf
def kindOf (s:List UInt8) : Int := if s = [] then 0 else match (List.range 12).find? fun i : Nat => decide (kindE ((i:Int) + 1) = s) with | some i => ((i:Int) + 1) | none => 0
def partsE (k:Int) : Int := if k = 5 ∨ k = 4 then 4 else if k = 12 ∨ k = 1 ∨ k = 6 ∨ k = 7 ∨ k = 8 then 3 else 2
theorem kindOf_bd (s:List UInt8) : 0 ≤ kindOf s ∧ kindOf s ≤ 12 := by
 unfold kindOf; split
 · omega
 · split
   · rename_i i hi
     have := List.mem_of_find?_eq_some hi
     simp at this
     omega
   · omega
section
variable {hp:List HObj} {lo:Nat}
theorem kindT_D (s:List UInt8) (hp:List HObj) (lo:Nat) (q:Bool) : callD G0 IP n_pt_kind [.str s] hp lo q = some (.ret (.int .i64 (kindOf s)) hp) := by
 rw [callD_eq]
 by_cases h0 : s = []
 · subst h0
   have hl : loopD G0 IP hp.length l_pt_kind_0 ⟨[(0,.str []),(3,.int .i64 1)],hp⟩ = some (.exit 0,⟨[(0,.str []),(3,.int .i64 1),(9,.bool false)],hp⟩) := by
     rw [loopD_eq,loopBody]
     simp [l_pt_kind_0]
   simp [IP_pt_kind,i_pt_kind,hl,kindOf]
 have hloop := loop_some (G := G0) (IP := IP) (lo := hp.length) (b := l_pt_kind_0)
   (fun i => ⟨[(0,.str s),(3,.int .i64 ((i:Int) + 1))],hp⟩) 12 (fun i => decide (kindE ((i:Int) + 1) = s)) (fun i => (.ret,⟨[(2,.int .i64 ((i:Int) + 1))],hp⟩))
   (.exit 0,⟨[(0,.str s),(3,.int .i64 13),(9,.bool false)],hp⟩)
   (fun i hi hp1 => by
     have e1 : (i:Int) + 1 ≤ 12 := by omega
     have e5 : IntKind.wrap .i64 ((i:Int) + 1 + 1) = (i:Int) + 1 + 1 := wrap_small (by omega) (by omega)
     simp only [decide_eq_false_iff_not] at hp1
     simp [l_pt_kind_0,kind_D,e1,e5,hp1,h0])
   (fun i hi hp1 => by
     have e1 : (i:Int) + 1 ≤ 12 := by omega
     simp only [decide_eq_true_eq] at hp1
     simp [l_pt_kind_0,kind_D,e1,hp1,h0])
   (fun i s => by simp) (by simp [l_pt_kind_0]) (by simp)
 simp only [Int.natCast_zero,Int.zero_add] at hloop
 rcases hloop with ⟨m,hm,hp1,hp2,hl⟩ | ⟨hno,hl⟩
 · have hf : (List.range 12).find? (fun i:Nat => decide (kindE ((i:Int) + 1) = s)) = some m := by
     rw [List.find?_range_eq_some]
     exact ⟨hp1,by simpa using hm,fun j hj => by simpa using hp2 j hj⟩
   have he : kindOf s = (m:Int) + 1 := by unfold kindOf; rw [if_neg h0,hf]
   simp [IP_pt_kind,i_pt_kind,hl,he]
 · have hf : (List.range 12).find? (fun i:Nat => decide (kindE ((i:Int) + 1) = s)) = none := by
     rw [List.find?_eq_none]
     intro i hi; simp at hi; have := hno i hi; simpa using this
   have he : kindOf s = 0 := by unfold kindOf; rw [if_neg h0,hf]
   simp [IP_pt_kind,i_pt_kind,hl,he]
theorem kind36_D (s:List UInt8) (hp:List HObj) (lo:Nat) (q:Bool) : callD G0 IP n_sr36_kind [.str s] hp lo q = some (.ret (.int .i64 (kindOf s)) hp) := by
 rw [callD_eq]
 have hloop := loop_some (G := G0) (IP := IP) (lo := hp.length) (b := l_sr36_kind_0)
   (fun i => ⟨[(0,.str s),(3,.int .i64 ((i:Int) + 1))],hp⟩) 12 (fun i => decide (kindE ((i:Int) + 1) = s ∧ s ≠ [])) (fun i => (.ret,⟨[(2,.int .i64 ((i:Int) + 1))],hp⟩))
   (.exit 0,⟨[(0,.str s),(3,.int .i64 13),(5,.bool false)],hp⟩)
   (fun i hi hp1 => by
     have e1 : (i:Int) + 1 ≤ 12 := by omega
     have e5 : IntKind.wrap .i64 ((i:Int) + 1 + 1) = (i:Int) + 1 + 1 := wrap_small (by omega) (by omega)
     simp only [decide_eq_false_iff_not] at hp1
     by_cases h2 : kindE ((i:Int) + 1) = s
     · have h3 : s = [] := by
         by_cases h : s = []
         · exact h
         · exact absurd ⟨h2,h⟩ hp1
       subst h3
       simp [l_sr36_kind_0,kind34_D,e1,e5,h2]
     · simp [l_sr36_kind_0,kind34_D,e1,e5,h2])
   (fun i hi hp1 => by
     have e1 : (i:Int) + 1 ≤ 12 := by omega
     simp only [decide_eq_true_eq] at hp1
     simp [l_sr36_kind_0,kind34_D,e1,hp1.1,hp1.2])
   (fun i s => by simp) (by simp [l_sr36_kind_0]) (by simp)
 simp only [Int.natCast_zero,Int.zero_add] at hloop
 rcases hloop with ⟨m,hm,hp1,hp2,hl⟩ | ⟨hno,hl⟩
 · simp only [decide_eq_true_eq] at hp1
   have hf : (List.range 12).find? (fun i:Nat => decide (kindE ((i:Int) + 1) = s)) = some m := by
     rw [List.find?_range_eq_some]
     exact ⟨by simp [hp1.1],by simpa using hm,fun j hj => by
       have := hp2 j hj
       simp [hp1.2] at this
       simp [this]⟩
   have he : kindOf s = (m:Int) + 1 := by unfold kindOf; rw [if_neg hp1.2,hf]
   simp [IP_sr36_kind,i_sr36_kind,hl,he]
 · have he : kindOf s = 0 := by
     unfold kindOf
     by_cases h0 : s = []
     · rw [if_pos h0]
     · have hf : (List.range 12).find? (fun i:Nat => decide (kindE ((i:Int) + 1) = s)) = none := by
         rw [List.find?_eq_none]
         intro i hi; simp at hi; have := hno i hi; simpa [h0] using this
       rw [if_neg h0,hf]
   simp [IP_sr36_kind,i_sr36_kind,hl,he]
theorem parts_D (k:Int) (hp:List HObj) (lo:Nat) (q:Bool) : callD G0 IP n_sr36_parts [.int .i64 k] hp lo q = some (.ret (.int .i64 (partsE k)) hp) := by
 rw [callD_eq]
 by_cases h5 : k = 5
 · subst h5; simp [IP_sr36_parts,i_sr36_parts,partsE]
 by_cases h4 : k = 4
 · subst h4; simp [IP_sr36_parts,i_sr36_parts,partsE]
 by_cases h12 : k = 12
 · subst h12; simp [IP_sr36_parts,i_sr36_parts,partsE]
 by_cases h1 : k = 1
 · subst h1; simp [IP_sr36_parts,i_sr36_parts,partsE]
 by_cases h6 : k = 6
 · subst h6; simp [IP_sr36_parts,i_sr36_parts,partsE]
 by_cases h7 : k = 7
 · subst h7; simp [IP_sr36_parts,i_sr36_parts,partsE]
 by_cases h8 : k = 8
 · subst h8; simp [IP_sr36_parts,i_sr36_parts,partsE]
 simp [IP_sr36_parts,i_sr36_parts,partsE,h5,h4,h12,h1,h6,h7,h8]
theorem intE_nil : intE [] = (0,6) := by rfl
theorem integer_D (a:List UInt8) (ha:a.length ≤ 140737488355000) (l:List AV) (o:Own) (hp:List HObj) (lo:Nat) (q:Bool) : callD G0 IP n_pt_integer [.agg [.str a,.list l o]] hp lo q = some (.ret (.tup [.int .i64 (intE a).1,.bool (decide ((intE a).2 = 0))]) hp) := by
 have e := parseIntT_D a ha
 rw [callD_eq]
 simp [IP_pt_integer,i_pt_integer,e]
theorem number36_D (a:List UInt8) (ha:a.length ≤ 140737488355000) (l:List AV) (o:Own) (hp:List HObj) (lo:Nat) (q:Bool) : callD G0 IP n_sr36_number [.agg [.str a,.list l o]] hp lo q = some (.ret (.tup [.int .i64 (intE a).1,.bool (decide ((intE a).2 = 0))]) hp) := by
 have e := parseInt2_D a ha
 rw [callD_eq]
 by_cases h : a = []
 · subst h
   simp [IP_sr36_number,i_sr36_number,intE_nil]
 · simp [IP_sr36_number,i_sr36_number,e,h]
end
end Go.Proofs.YtkofimhnehkdoaaGreatDoor.Rf
end
section
namespace Go.Proofs.YtkofimhnehkdoaaGreatDoor.Rf
def plainC (n:Int) : Bool := decide (n ≥ 33) && (decide (n ≤ 126) && (!decide (n = 40) && (!decide (n = 41) && !decide (n = 59))))
def blankC (n:Int) : Bool := decide (n = 32) || (decide (n = 9) || (decide (n = 10) || decide (n = 13)))
theorem plain1_D (n:Int) (hp:List HObj) (lo:Nat) (q:Bool) : callD G0 IP n_sr05_Byte [.int .u8 n] hp lo q = some (.ret (.bool (plainC n)) hp) := by
 rw [callD_eq]
 by_cases h1 : n ≥ 33
 · by_cases h2 : n ≤ 126
   · by_cases h3 : n = 40
     · subst h3; simp [IP_sr05_Byte,i_sr05_Byte,plainC]
     · by_cases h4 : n = 41
       · subst h4; simp [IP_sr05_Byte,i_sr05_Byte,plainC]
       · by_cases h5 : n = 59
         · subst h5; simp [IP_sr05_Byte,i_sr05_Byte,plainC]
         · simp [IP_sr05_Byte,i_sr05_Byte,plainC,h1,h2,h3,h4,h5]
   · simp [IP_sr05_Byte,i_sr05_Byte,plainC,h1,h2]
 · simp [IP_sr05_Byte,i_sr05_Byte,plainC,h1]
theorem plain2_D (n:Int) (hp:List HObj) (lo:Nat) (q:Bool) : callD G0 IP n_sx_plain [.int .u8 n] hp lo q = some (.ret (.bool (plainC n)) hp) := by
 rw [callD_eq]
 by_cases h1 : n ≥ 33
 · by_cases h2 : n ≤ 126
   · by_cases h3 : n = 40
     · subst h3; simp [IP_sx_plain,i_sx_plain,plainC]
     · by_cases h4 : n = 41
       · subst h4; simp [IP_sx_plain,i_sx_plain,plainC]
       · by_cases h5 : n = 59
         · subst h5; simp [IP_sx_plain,i_sx_plain,plainC]
         · simp [IP_sx_plain,i_sx_plain,plainC,h1,h2,h3,h4,h5]
   · simp [IP_sx_plain,i_sx_plain,plainC,h1,h2]
 · simp [IP_sx_plain,i_sx_plain,plainC,h1]
theorem blank_D (n:Int) (hp:List HObj) (lo:Nat) (q:Bool) : callD G0 IP n_sr05_blank [.int .u8 n] hp lo q = some (.ret (.bool (blankC n)) hp) := by
 rw [callD_eq]
 by_cases h1 : n = 32
 · subst h1; simp [IP_sr05_blank,i_sr05_blank,blankC]
 · by_cases h2 : n = 9
   · subst h2; simp [IP_sr05_blank,i_sr05_blank,blankC]
   · by_cases h3 : n = 10
     · subst h3; simp [IP_sr05_blank,i_sr05_blank,blankC]
     · by_cases h4 : n = 13
       · subst h4; simp [IP_sr05_blank,i_sr05_blank,blankC]
       · simp [IP_sr05_blank,i_sr05_blank,blankC,h1,h2,h3,h4]
def byt (s:List UInt8) (i:Nat) : Int := ((s.getD i 0).toNat : Int)
theorem byt_some {s:List UInt8} {i:Nat} (h:i < s.length) : ∃ c : UInt8,s[i]? = some c ∧ byt s i = (c.toNat : Int) := ⟨s[i],by simp [h],by simp [byt,h]⟩
def comK (s:List UInt8) : Nat → Nat → Nat
 | 0,i => i
 | k + 1,i => if byt s i = 10 then i else comK s k (i + 1)
theorem comK_le (s:List UInt8) : ∀ k i,i ≤ comK s k i ∧ comK s k i ≤ i + k
 | 0,i => by simp [comK]
 | k + 1,i => by
   simp only [comK]
   split
   · omega
   · have := comK_le s k (i + 1); omega
def skipK (s:List UInt8) : Nat → Nat → Nat
 | 0,i => i
 | n + 1,i => if i < s.length then (if blankC (byt s i) then skipK s n (i + 1) else if byt s i = 59 then skipK s n (comK s (s.length - i) i) else i) else i
theorem skipK_le (s:List UInt8) : ∀ n i,i ≤ s.length → i ≤ skipK s n i ∧ skipK s n i ≤ s.length
 | 0,i,h => by simp [skipK]; exact h
 | n + 1, i,h => by
   simp only [skipK]
   split
   · split
     · have := skipK_le s n (i + 1) (by omega); omega
     · split
       · have h1 := comK_le s (s.length - i) i
         have := skipK_le s n (comK s (s.length - i) i) (by omega); omega
       · omega
   · omega
def skipN (s:List UInt8) (i:Nat) : Nat := skipK s s.length i
def atomK (s:List UInt8) : Nat → Nat → Nat
 | 0,i => i
 | k + 1,i => if plainC (byt s i) then atomK s k (i + 1) else i
def atomN (s:List UInt8) (i:Nat) : Nat := atomK s (s.length - i) i
theorem atomK_le (s:List UInt8) : ∀ k i,i ≤ atomK s k i ∧ atomK s k i ≤ i + k
 | 0,i => by simp [atomK]
 | k + 1,i => by
   simp only [atomK]
   split
   · have := atomK_le s k (i + 1); omega
   · omega
section
variable {s:List UInt8} {hp:List HObj} {lo:Nat}
theorem com1_L (hs:s.length ≤ 9223372036854775807) : ∀ (k i:Nat) (ex:Fr),ex = [] ∨ ex = [(24,.bool true)] → i + k = s.length →
   loopD G0 IP lo l_sr05_skip_1 ⟨(0,.str s) :: (1,.int .i64 i) :: ex,hp⟩ = some (.exit 2,⟨[(0,.str s),(1,.int .i64 (comK s k i)),(34,.bool false)],hp⟩)
 | 0,i,ex,hex,h => by
   rw [loopD_eq,loopBody]
   have : ¬ (i:Int) < (s.length : Int) := by omega
   rcases hex with rfl | rfl <;> simp [l_sr05_skip_1,this,comK]
 | k + 1,i,ex,hex,h => by
   rw [loopD_eq,loopBody]
   have h1 : (i:Int) < (s.length : Int) := by omega
   obtain ⟨c,h2,hb⟩ := byt_some (s := s) (i := i) (by omega)
   have h3 := wrap_succ (i := i) (n := s.length) (by omega) hs
   have ih := com1_L hs k (i + 1) [] (.inl rfl) (by omega)
   simp only [comK,hb]
   by_cases hc : (c.toNat : Int) = 10
   · rcases hex with rfl | rfl <;> simp [l_sr05_skip_1,h1,h2,hc]
   · rcases hex with rfl | rfl <;> simp [l_sr05_skip_1,h1,h2,hc,h3] <;> exact ih
theorem skip1_L (hs:s.length ≤ 9223372036854775807) : ∀ (n i:Nat) (ex:Fr),ex = [] ∨ ex = [(34,.bool false)] → i ≤ s.length → s.length - i ≤ n →
   loopD G0 IP lo l_sr05_skip_0 ⟨(0,.str s) :: (1,.int .i64 i) :: ex,hp⟩ = some (.exit 0,⟨[(0,.str s),(1,.int .i64 (skipK s n i)),(20,.bool false)],hp⟩)
 | n, i, ex, hex,hi,hn => by
   by_cases h0 : i < s.length
   · match n, hn with
     | 0,hn => exact absurd hn (by omega)
     | n + 1, hn =>
       rw [loopD_eq,loopBody]
       have h1 : (i:Int) < (s.length : Int) := by omega
       obtain ⟨c,h2,hb⟩ := byt_some (s := s) (i := i) h0
       have h3 := wrap_succ (i := i) (n := s.length) h0 hs
       simp only [skipK,if_pos h0,hb]
       cases hc : blankC (c.toNat : Int)
       · by_cases h4 : (c.toNat : Int) = 59
         · have hcm := com1_L (hp := hp) (lo := lo) hs (s.length - i) i [(24,.bool true)] (.inr rfl) (by omega)
           have hle := comK_le s (s.length - i) i
           have hgt : i < comK s (s.length - i) i := by
             obtain ⟨k,hk⟩ : ∃ k,s.length - i = k + 1 := ⟨s.length - i - 1,by omega⟩
             rw [hk]; simp only [comK,hb,h4]
             have := comK_le s k (i + 1)
             simp; omega
           have ih := skip1_L hs n (comK s (s.length - i) i) [(34,.bool false)] (.inr rfl) (by omega) (by omega)
           rcases hex with rfl | rfl <;> simp [l_sr05_skip_0,h1,h2,h4,blank_D,hcm,show blankC 59 = false from rfl] <;> exact ih
         · rcases hex with rfl | rfl <;> simp [l_sr05_skip_0,h1,h2,hc,h4,blank_D]
       · have h4 : ¬ (c.toNat : Int) = 59 := fun e => by rw [e] at hc; simp [blankC] at hc
         have ih := skip1_L hs n (i + 1) [] (.inl rfl) (by omega) (by omega)
         rcases hex with rfl | rfl <;> simp [l_sr05_skip_0,h1,h2,hc,h4,blank_D,h3] <;> exact ih
   · rw [loopD_eq,loopBody]
     have h1 : ¬ (i:Int) < (s.length : Int) := by omega
     have e : skipK s n i = i := by cases n <;> simp [skipK,h0]
     rw [e]
     rcases hex with rfl | rfl <;> simp [l_sr05_skip_0,h1]
theorem skip1_D (hs:s.length ≤ 9223372036854775807) (i:Nat) (hi:i ≤ s.length) (q:Bool) : callD G0 IP n_sr05_skip [.str s,.int .i64 i] hp lo q = some (.ret (.int .i64 (skipN s i)) hp) := by
 rw [callD_eq]
 have h := skip1_L (hp := hp) (lo := hp.length) hs s.length i [] (.inl rfl) hi (by omega)
 simp [IP_sr05_skip,i_sr05_skip,h,skipN]
theorem atom1_L (hs:s.length ≤ 9223372036854775807) : ∀ (k i:Nat),i + k = s.length →
   loopD G0 IP lo l_sr05_atom_0 ⟨[(0,.str s),(1,.int .i64 i)],hp⟩ = some (.exit 0,⟨[(0,.str s),(1,.int .i64 (atomK s k i)),(14,.bool false)],hp⟩)
 | 0,i,h => by
   rw [loopD_eq,loopBody]
   have : ¬ (i:Int) < (s.length : Int) := by omega
   simp [l_sr05_atom_0,this,atomK]
 | k + 1,i,h => by
   rw [loopD_eq,loopBody]
   have h1 : (i:Int) < (s.length : Int) := by omega
   obtain ⟨c,h2,hb⟩ := byt_some (s := s) (i := i) (by omega)
   have h3 := wrap_succ (i := i) (n := s.length) (by omega) hs
   have ih := atom1_L hs k (i + 1) (by omega)
   simp only [atomK,hb]
   cases hc : plainC (c.toNat : Int)
   · simp [l_sr05_atom_0,h1,h2,hc,plain1_D]
   · simp [l_sr05_atom_0,h1,h2,hc,h3,plain1_D]
     exact ih
theorem atom1_D (hs:s.length ≤ 9223372036854775807) (i:Nat) (hi:i ≤ s.length) (q:Bool) : callD G0 IP n_sr05_atom [.str s,.int .i64 i] hp lo q = some (.ret (.int .i64 (atomN s i)) hp) := by
 rw [callD_eq]
 have h := atom1_L (hp := hp) (lo := hp.length) hs (s.length - i) i (by omega)
 simp [IP_sr05_atom,i_sr05_atom,h,atomN]
end
end Go.Proofs.YtkofimhnehkdoaaGreatDoor.Rf
end
