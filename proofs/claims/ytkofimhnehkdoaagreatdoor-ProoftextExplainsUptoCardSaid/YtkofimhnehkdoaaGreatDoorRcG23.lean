/- A part of the proof: see the last text. -/
import Derived.Test.YtkofimhnehkdoaaGreatDoorRows
import Derived.LaidLaws
import Derived.Test.YtkofimhnehkdoaaGreatDoorRcG22
import Derived.Test.YtkofimhnehkdoaaGreatDoorTie
import Derived.Test.YtkofimhnehkdoaaGreatDoorCards
import Derived.ProofKit
import Derived.Deep.DeepHandedRow
import Derived.Deep.DeepWitnessRowRef
import Derived.ShutString
import Derived.SizedLaws
import Derived.LaidMore
import Derived.OpenShut
import Derived.Stop.Joined
import Derived.SevenTiedAt
set_option linter.unusedVariables false
set_option linter.unusedSimpArgs false
section
namespace Go.Proofs.YtkofimhnehkdoaaGreatDoor.Rf
theorem IPT_ok : IPT.all (fun f fn => chkFun Go.Proofs.Tryz.prog f fn) = true := by kernel_rfl
theorem IP_ok : ∀ f fn,IP f = some fn → chkFun Go.Proofs.Tryz.prog f fn = true := fun _ _ h => IT.all_get IPT_ok h
theorem P_mixed : Go.Proofs.Tryz.prog.follows .mixedOrders = true := by kernel_rfl
theorem P_laid : laidOutB Go.Proofs.Tryz.prog = true := by kernel_rfl
theorem P_own : ownKnob Go.Proofs.Tryz.prog.godebug = none := by kernel_rfl
def tys : List TypeId := [3,4,9,22,24,27,28,29,31,45,51,52,54,61,63,65,67,72,73,96,122,123,125,239,241]
theorem P_tys : covS Go.Proofs.Tryz.prog tys = true := by kernel_rfl
end Go.Proofs.YtkofimhnehkdoaaGreatDoor.Rf
end
section
namespace Go.Proofs.YtkofimhnehkdoaaGreatDoor.Rf
open Go.Proofs Go.Proofs.YtkofimhnehkdoaaGreatDoor
set_option maxRecDepth 100000
theorem S2_star : "*" ++ "errors.errorString" = "*errors.errorString" := by decide
theorem S2_row (u : TypeId) (h : Tryz.prog.typeName? 3 u = some "*errors.errorString") : u = 222 :=
 typeName_ptr_named (nm := "errors.errorString") (by rw [S2_star]; kernel_rfl) (by kernel_rfl) (by decide) u (by rw [S2_star]; exact h)
theorem S2_tys : covS Tryz.prog [9,147] = true := by kernel_rfl
theorem S2_tys2 : covS Tryz.prog [28,199] = true := by kernel_rfl
theorem S2_tys3 : covS Tryz.prog [9,3,153,154,155] = true := by kernel_rfl
theorem globs_of {W : World} {laid : List (String × DataW Unit)} (h : laidMet Tryz.prog laid W) (h1 : ("saturate/opinfo.names", Rows.laid_saturate_opinfo_names) ∈ laid) (h3 : ("internal/strconv.uint64pow10", Rows.laid_internal_strconv_uint64pow10) ∈ laid)
   (h4 : ("saturate/proof.kinds", Rows.laid_saturate_proof_kinds) ∈ laid) {r : List (String × DataW Unit)}
   (h2 : ∃ pre, laid = pre ++ ("strconv.ErrRange", Rows.laid_strconv_ErrRange) :: r) : ∀ b cs, G0 b = some cs → GlobAt Tryz.prog W b cs := by
 intro b cs hb
 by_cases h0 : b = 0
 · subst h0
   cases hb
   exact glob_dat S2_tys h h1 (g := 0) (by kernel_rfl) (t := 147) (by kernel_rfl) (by decide) (by kernel_rfl) (by rw [g_0]; simp)
 · by_cases h7 : b = 7
   · subst h7
     cases hb
     exact glob_err (n := "strconv.ErrRange") (nm := "*errors.errorString") h h2 (g := 7) (by kernel_rfl) (by kernel_rfl) Tryz.underlying112 S2_row Tryz.underlying222 Tryz.underlying224 rfl rfl Tryz.underlying9 (by kernel_rfl) (by kernel_rfl)
   · by_cases h2' : b = 2
     · subst h2'
       cases hb
       exact glob_dat S2_tys2 h h3 (g := 2) (by kernel_rfl) (t := 199) (by kernel_rfl) (by decide) (by kernel_rfl) (by rw [g_2]; simp)
     · by_cases h1' : b = 1
       · subst h1'
         cases hb
         exact glob_dat S2_tys3 h h4 (g := 1) (by kernel_rfl) (t := 155) (by kernel_rfl) (by decide) (by kernel_rfl) (by rw [g_1]; simp)
       · exact absurd hb (by simp [G0,h0,h7,h2',h1'])
end Go.Proofs.YtkofimhnehkdoaaGreatDoor.Rf
end
section
namespace Go.Proofs.YtkofimhnehkdoaaGreatDoor.Rf
open Go.Proofs Go.Proofs.YtkofimhnehkdoaaGreatDoor
mutual
def AV.most (N:Nat) : AV → Prop
 | .str s => s.length ≤ N
 | .agg cs => AV.mosts N cs
 | .list xs _ => AV.mosts N xs
 | _ => True
def AV.mosts (N:Nat) : List AV → Prop
 | [] => True
 | v :: r => v.most N ∧ AV.mosts N r
end
theorem AV.mosts_iff (N:Nat) : ∀ l : List AV,AV.mosts N l ↔ ∀ v,v ∈ l → v.most N
 | [] => by simp [AV.mosts]
 | v :: r => by simp [AV.mosts,AV.mosts_iff N r]
theorem AV.mosts_flatten {N:Nat} {parts:List (List AV)} (h:∀ p,p ∈ parts → AV.mosts N p) : AV.mosts N parts.flatten := by
 rw [AV.mosts_iff]
 intro v hv
 obtain ⟨p,hp,hv⟩ := List.mem_flatten.1 hv
 exact (AV.mosts_iff N p).1 (h p hp) v hv
section
variable {H:Type} {P:Program}
theorem bulk_mem : ∀ {els:List (DataW H)} {i:Nat} {d:DataW H},els[i]? = some d → Rows.uptoBulk d ≤ Rows.uptoBulkAll els
 | [],i,d,h => by simp at h
 | x :: r,0,d,h => by simp at h; subst h; simp only [Rows.uptoBulkAll]; omega
 | x :: r,i + 1,d,h => by
   have := bulk_mem (els := r) (i := i) (d := d) (by simpa using h)
   simp only [Rows.uptoBulkAll]; omega
theorem elemAV_most {N:Nat} {e:TypeId} {ds:List AV} (h:AV.mosts N ds) : (elemAV P e ds).most N := by
 unfold elemAV
 split
 · exact h
 · cases ds with
   | nil => trivial
   | cons a r => exact h.1
theorem HasTy.most {N:Nat} : ∀ {n:Nat} {t:TypeId} {cs:List AV} {d:DataW H},HasTy P n t cs d → Rows.uptoBulk d ≤ N → AV.mosts N cs := by
 intro n
 induction n with
 | zero => intro t cs d h; exact h.elim
 | succ n ih =>
   intro t cs d h hz
   simp only [HasTy] at h
   cases hu : P.underlying t with
   | none => simp [hu] at h
   | some de =>
     rw [hu] at h
     cases de <;> simp only [] at h <;> try (exact h.elim)
     case bool => obtain ⟨b,rfl,rfl⟩ := h; simp [AV.mosts,AV.most]
     case int k => obtain ⟨m,rfl,_,rfl⟩ := h; simp [AV.mosts,AV.most]
     case string =>
       obtain ⟨s,rfl,_,rfl⟩ := h
       simp only [AV.mosts,AV.most,and_true]
       simp only [Rows.uptoBulk] at hz
       omega
     case slice e =>
       rcases h with ⟨rfl,rfl⟩ | ⟨xs,els,rest,rfl,rfl,hl,_,hx⟩
       · simp [AV.mosts,AV.most]
       · simp only [AV.mosts,AV.most,and_true]
         rw [AV.mosts_iff]
         intro v hv
         obtain ⟨i,hi⟩ := List.mem_iff_getElem?.1 hv
         have hil := (List.getElem?_eq_some_iff.1 hi).1
         have he : els[i]? = some els[i] := List.getElem?_eq_getElem (by omega)
         obtain ⟨ds,rfl,hds⟩ := hx i v _ hi he
         have hb := bulk_mem he
         simp only [Rows.uptoBulk] at hz
         exact elemAV_most (ih hds (by omega))
     case struct fs =>
       obtain ⟨parts,els,rfl,rfl,h1,h2,h3⟩ := h
       refine AV.mosts_flatten fun p hp => ?_
       obtain ⟨i,hi⟩ := List.mem_iff_getElem?.1 hp
       have hil := (List.getElem?_eq_some_iff.1 hi).1
       have he : els[i]? = some els[i] := List.getElem?_eq_getElem (by omega)
       have hf : fs[i]? = some fs[i] := Array.getElem?_eq_getElem (by omega)
       have hb := bulk_mem he
       simp only [Rows.uptoBulk] at hz
       exact ih (h3 i _ _ _ hf hi he) (by omega)
     case array m e =>
       obtain ⟨parts,els,rfl,rfl,h1,h2,h3⟩ := h
       refine AV.mosts_flatten fun p hp => ?_
       obtain ⟨i,hi⟩ := List.mem_iff_getElem?.1 hp
       have hil := (List.getElem?_eq_some_iff.1 hi).1
       have he : els[i]? = some els[i] := List.getElem?_eq_getElem (by omega)
       have hb := bulk_mem he
       simp only [Rows.uptoBulk] at hz
       exact ih (h3 i _ _ hi he) (by omega)
theorem ArgsTy.mosts {N:Nat} : ∀ {ts:List TypeId} {vs:List AV} {ds:List (DataW H)},ArgsTy P ts vs ds → Rows.uptoBulkAll ds ≤ N → AV.mosts N vs
 | _,_,_,.nil,_ => trivial
 | _,_,_,.cons h k,hz => by
   obtain ⟨n,cs,rfl,h⟩ := h
   simp only [Rows.uptoBulkAll] at hz
   exact ⟨elemAV_most (h.most (by omega)),k.mosts (by omega)⟩
theorem upto_most {ts:List TypeId} {vs:List AV} {ds:List (DataW H)} (h:ArgsTy P ts vs ds) (hk:Rows.uptoSmall H (ds ++ []) = true) : AV.mosts 1048576 vs := by
 rw [List.append_nil] at hk
 exact h.mosts (of_decide_eq_true hk)
end
end Go.Proofs.YtkofimhnehkdoaaGreatDoor.Rf
end
section
namespace Go.Proofs.YtkofimhnehkdoaaGreatDoor.Rf
theorem rules_most {N:Nat} {l:List Rl} {o:Own} {r:List AV} (h:AV.mosts N (.list (Rl.avs l) o :: r)) : ∀ x,x ∈ l → x.name.length ≤ N := by
 intro x hx
 have h1 : AV.mosts N (Rl.avs l) := h.1
 have h2 := (AV.mosts_iff N _).1 h1 x.av (List.mem_map_of_mem hx)
 rw [rl_av] at h2
 have h3 : AV.mosts N (.str x.name :: x.rest) := h2
 exact h3.1
def notLight (c:Cl) : Bool := !(decide (0 ≤ c.a.cnt 40 40) && decide (0 ≤ c.b.cnt 40 40))
set_option maxHeartbeats 4000000 in
theorem prooftextExplains_D (rules:List Rl) (p:List St7) (l:List Cl) (o0 o1 o2:Bool) (hn:∀ r,r ∈ rules → r.name.length ≤ 1048576) (hr7:∀ r,r ∈ rules → r.rest.length = 7)
   (hp:∀ s,s ∈ p → s.wf) (hpl:p.length ≤ 9223372036854775807) (hl:∀ c,c ∈ l → c.wf) (q:Bool) :
   callD G0 IP n_sl36_ProoftextExplains [.list (Rl.avs rules) (ownB o0),.list (St7.avs p) (ownB o1),.list (Cl.avs l) (ownB o2)] [] 0 q = some (.ret (.bool true) []) := by
 have e1 := fun (o:Own) => light36_D p hp hpl o 20 40 (by omega) (by omega) (by omega) [] 0 false
 rw [callD_eq]
 cases hL : lightB p 20 40 with
 | false =>
   rw [hL] at e1
   simp [IP_sl36_ProoftextExplains,i_sl36_ProoftextExplains,e1,live36_D]
 | true =>
   rw [hL] at e1
   by_cases hl20 : l.length ≤ 20
   · have hl20' : ¬ (20:Int) < (l.length : Int) := by omega
     by_cases hr20 : rules.length ≤ 20
     · have hr20' : ¬ (20:Int) < (rules.length : Int) := by omega
       have hloop := fun (o0 o1 o2:Own) => loop_find (G := G0) (IP := IP) (lo := 0) (b := l_sl36_ProoftextExplains_0)
         (fun i => ⟨[(0,.list (Rl.avs rules) o0),(1,.list (St7.avs p) o1),(2,.list (Cl.avs l) o2),(7,.int .i64 i)],[]⟩) l.length (fun i => notLight (l.getD i zCl))
         (.ret,⟨[(6,.bool true)],[]⟩) (.exit 0,⟨[(0,.list (Rl.avs rules) o0),(1,.list (St7.avs p) o1),(2,.list (Cl.avs l) o2),(7,.int .i64 l.length),(29,.bool false)],[]⟩)
         (fun i hi hc => by
           have hI : (i:Int) < (l.length : Int) := by omega
           have hw1 := wrap_succ hi (n := l.length) (by omega)
           have hw := hl l[i] (List.getElem_mem hi)
           simp only [getD_lt hi,notLight,Bool.not_eq_false',Bool.and_eq_true,decide_eq_true_eq] at hc
           obtain ⟨v1,f1⟩ := light_D l[i].a hw.1 40 40 (by omega) (by omega) (by omega) (by omega) [] 0 false
           obtain ⟨v2,f2⟩ := light_D l[i].b hw.2.1 40 40 (by omega) (by omega) (by omega) (by omega) [] 0 false
           simp only [T.av_eq] at f1 f2
           rw [← hw1]
           simp [l_sl36_ProoftextExplains_0,hi,hI,cl_av,f1,f2,hc.1,hc.2])
         (fun i hi hc => by
           have hI : (i:Int) < (l.length : Int) := by omega
           have hw := hl l[i] (List.getElem_mem hi)
           simp only [getD_lt hi,notLight] at hc
           obtain ⟨v1,f1⟩ := light_D l[i].a hw.1 40 40 (by omega) (by omega) (by omega) (by omega) [] 0 false
           obtain ⟨v2,f2⟩ := light_D l[i].b hw.2.1 40 40 (by omega) (by omega) (by omega) (by omega) [] 0 false
           simp only [T.av_eq] at f1 f2
           by_cases h1 : 0 ≤ l[i].a.cnt 40 40
           · have h2 : ¬ 0 ≤ l[i].b.cnt 40 40 := fun h2 => by simp [h1,h2] at hc
             simp [l_sl36_ProoftextExplains_0,hi,hI,cl_av,f1,f2,h1,h2,live36_D]
           · simp [l_sl36_ProoftextExplains_0,hi,hI,cl_av,f1,f2,h1,live36_D])
         (by simp) (by simp [l_sl36_ProoftextExplains_0]) (by simp)
       simp only [Int.natCast_zero] at hloop
       cases hany : (List.range l.length).any fun i => notLight (l.getD i zCl) with
       | true =>
         rw [hany] at hloop
         simp [IP_sl36_ProoftextExplains,i_sl36_ProoftextExplains,e1,hl20,hr20,hl20',hr20',hloop]
       | false =>
         rw [hany] at hloop
         simp only [lightB,Bool.and_eq_true,decide_eq_true_eq] at hL
         obtain ⟨hL1,hL2⟩ := hL
         have hli := List.all_eq_true.1 hL2
         have fit : Fits7 rules p l := {
           rl := hr20,pl := by omega,ll := hl20,names := fun r h => ⟨hn r h,hr7 r h⟩
           steps := fun s hs => ⟨hp s hs,by
             have := hli s hs
             simp only [lightS,Bool.and_eq_true,decide_eq_true_eq] at this
             omega⟩
           concls := fun c hc => by
             obtain ⟨i,hi,rfl⟩ := List.getElem_of_mem hc
             have h0 : notLight l[i] = false := by
               have h1 := List.any_eq_false.1 hany i (by simp [hi])
               simp only [getD_lt hi] at h1
               simpa using h1
             simp only [notLight,Bool.not_eq_false',Bool.and_eq_true,decide_eq_true_eq] at h0
             have hw := hl l[i] hc
             have l1 := term_lenX hw.1 h0.1 (by omega)
             have l2 := term_lenX hw.2.1 h0.2 (by omega)
             exact ⟨hw,by omega,by omega⟩ }
         have e3 := fun (o0 o1 o2:Own) => explainP_D fit o0 o1 o2 [] 0 false
         have e4 := fun (o0 o1 o2:Own) => explain36_D fit o0 o1 o2 [] 0 false
         generalize explX rules p l (min p.length l.length) = tx at *
         simp [IP_sl36_ProoftextExplains,i_sl36_ProoftextExplains,e1,hl20,hr20,hl20',hr20',hloop,e3,e4,live36_D]
     · have hr20' : (20:Int) < (rules.length : Int) := by omega
       simp [IP_sl36_ProoftextExplains,i_sl36_ProoftextExplains,e1,hl20,hr20,hl20',hr20',live36_D]
   · have hl20' : (20:Int) < (l.length : Int) := by omega
     simp [IP_sl36_ProoftextExplains,i_sl36_ProoftextExplains,e1,hl20,hl20',live36_D]
end Go.Proofs.YtkofimhnehkdoaaGreatDoor.Rf
end
section
namespace Go.Proofs.YtkofimhnehkdoaaGreatDoor.Rf.prooftextExplains
open Go.Proofs Go.Proofs.YtkofimhnehkdoaaGreatDoor
set_option maxRecDepth 100000
abbrev laid := Rows.prooftextExplainsUptoRow.laid
theorem globs {W:World} (h:laidMet Tryz.prog laid W) : ∀ b cs,G0 b = some cs → GlobAt Tryz.prog W b cs := globs_of (laid := laid) (r := laid.drop 5) h (List.mem_of_getElem? (i := 3) rfl) (List.mem_of_getElem? (i := 2) rfl) (List.mem_of_getElem? (i := 6) rfl) ⟨laid.take 4,rfl⟩
abbrev wit : Array Value := #[.slice none 0 0,.slice none 0 0,.slice none 0 0]
theorem laid_met (os:Os) : laidMet Tryz.prog laid ((World.doorLaid Tryz.prog 400 os).forCall (fun _ _ => 0) ⟨#[],wit,[]⟩).memory :=
 laidMet_of_run' 8 (by kernel_rfl) (by kernel_rfl)
theorem reads (os:Os) {H:Type} (enc:TypeId × Value → H) : ∃ places,DataW.whole enc Tryz.prog ((World.doorLaid Tryz.prog 400 os).forCall (fun _ _ => 0) ⟨#[],wit,[]⟩).memory Tryz.f13.params.toList Rows.prooftextExplainsSpec.vars false wit.toList 8 = some ([.nil,.nil,.nil],[],places) :=
 ⟨[],by kernel_rfl⟩
theorem contract (H:Type) (enc:TypeId × Value → H) (W:World) (base:Nat) (args:Array Value) (ds gs:List (DataW H)) (before:List MemPlace)
   (hval:∀ (j:Nat) t v,Tryz.f13.params[j]? = some t → args[j]? = some v → Value.okWide Tryz.prog W .any base t v)
   (hW:DataW.Whole enc Tryz.prog Tryz.f13.params.toList Rows.prooftextExplainsSpec.vars false W args.toList ds gs before) (hk:Rows.uptoSmall H (ds ++ gs) = true)
   (hz:(DataW.weightsEach Tryz.prog (Tryz.f13.params.toList ++ Rows.prooftextExplainsSpec.plain.varTypes Tryz.prog) (ds ++ gs)).all (· ≤ reachBytes) = true) (hL:laidMetH Tryz.prog laid W) :
   Calls Tryz.prog 13 args W fun e W' => ∃ v,e = .returned v ∧ Rows.prooftextExplainsSpec.post enc Tryz.prog Tryz.f13 false true false false W args v W' := by
 rw [MakeChecks.laidMetH_plain _ _ _ (by kernel_rfl)] at hL
 have hgs : gs = [] := by
   obtain ⟨p,q,hA,hV,_,_,_⟩ := hW
   have hvars : Rows.prooftextExplainsSpec.vars = [] := rfl
   rw [hvars] at hV
   cases gs with
   | nil => rfl
   | cons g gs => exact hV.elim
 subst hgs
 refine law_endG (globs hL) P_mixed IP_ok P_laid P_tys (by rw [Tryz.params13]; kernel_rfl) rfl (tb := 4) rfl Tryz.underlying4 (fun ds h => ?_) hval hW hz fun avs ha hlim => ?_
 · rw [Tryz.params13] at h
   match ds,h with
   | [d1,d2,d3],_ => rfl
 · have hmo := upto_most ha hk
   rw [Tryz.params13] at ha
   obtain ⟨v1,d1,vs1,ds1,rfl,rfl,a1,ha⟩ := ha.cons'
   obtain ⟨v2,d2,vs2,ds2,rfl,rfl,a2,ha⟩ := ha.cons'
   obtain ⟨v3,d3,vs3,ds3,rfl,rfl,a3,ha⟩ := ha.cons'
   obtain ⟨rfl,rfl⟩ := ha.nil'
   obtain ⟨o0,rs,rfl,hrl,hr7⟩ := a1.rules (hl := Tryz.underlying72) (hT := fun n ds d' h => HasTy.term (hu := Tryz.underlying31) (hf := rfl) (ha := Tryz.underlying27) (hb := Tryz.underlying3) (hc := Tryz.underlying28) (he := Tryz.underlying9) (hs := Tryz.underlying29) n ds d' h) (hu := Tryz.underlying125) (hf := rfl) (hn := Tryz.underlying9) (ha := Tryz.underlying122) (hg := Tryz.underlying123)
   obtain ⟨o1,p,rfl,hpl,hw⟩ := a2.steps (hp := Tryz.underlying45) (hT := fun n ds d' h => HasTy.term (hu := Tryz.underlying31) (hf := rfl) (ha := Tryz.underlying27) (hb := Tryz.underlying3) (hc := Tryz.underlying28) (he := Tryz.underlying9) (hs := Tryz.underlying29) n ds d' h) (hu := Tryz.underlying54) (hf := rfl) (hi := Tryz.underlying3) (hl := Tryz.underlying51) (hs := Tryz.underlying52) (hv := Tryz.underlying96) (hg := rfl) (hn := Tryz.underlying9)
   obtain ⟨o2,l,rfl,hll,hlw⟩ := a3.concls (hl := Tryz.underlying73) (hT := fun n ds d' h => HasTy.term (hu := Tryz.underlying31) (hf := rfl) (ha := Tryz.underlying27) (hb := Tryz.underlying3) (hc := Tryz.underlying28) (he := Tryz.underlying9) (hs := Tryz.underlying29) n ds d' h) (hu := Tryz.underlying67) (hf := rfl) (hb := Tryz.underlying4) (hg := Tryz.underlying65) (hgf := rfl) (hi := Tryz.underlying3) (hk := Tryz.underlying61) (hkf := rfl) (hr := Tryz.underlying63) (hrf := rfl) (hv := Tryz.underlying28)
   exact ⟨false,[],prooftextExplains_D rs p l o0 o1 o2 (rules_most hmo) hr7 hw hpl hlw false⟩
theorem lifted (os:Os) (started:os.Started) (H:Type) (enc:TypeId × Value → H) (F:Stop.Interp) :
   ReturnsInHanded {} Tryz.checked os 13 .any ((Rows.OpenSpec.upto Rows.prooftextExplainsSpec).preRow enc Tryz.prog Tryz.f13 Rows.prooftextExplainsUptoRow.domain false Rows.prooftextExplainsUptoRow.laid) (((Rows.OpenSpec.upto Rows.prooftextExplainsSpec).at F).post enc Tryz.prog Tryz.f13 false true false false) := by
 obtain ⟨places,hx⟩ := reads os enc
 refine returnsInHanded_of_row (C := Tryz.checked) (s := Rows.OpenSpec.upto Rows.prooftextExplainsSpec) P_own started (by kernel_rfl) Tryz.func13
   (witness_row_atRef (enc := enc) (C := Tryz.checked) false (World.doorLaid Tryz.prog 400 os) wit rfl (by kernel_rfl) (by kernel_rfl) (by kernel_rfl)
     (OpenSpec.preRow_of_cond 8 hx (by kernel_rfl) (fun k hk => by cases hk; kernel_rfl) (by kernel_rfl) (laid_met os))) ?_
 intro W base args ds gs before hval hW _ hcond hz hL _ _
 exact contract H enc W base args ds gs before hval hW (hcond _ rfl) hz hL
end Go.Proofs.YtkofimhnehkdoaaGreatDoor.Rf.prooftextExplains
end
section
namespace Go.Proofs.YtkofimhnehkdoaaGreatDoor.Rf.prooftextExplains
open Go.Proofs Go.Proofs.YtkofimhnehkdoaaGreatDoor
set_option maxRecDepth 100000
theorem closed : joinedFacts Tryz.pinned.checked.prog 13 Tryz.f13 (Rows.OpenSpec.upto Rows.prooftextExplainsSpec).bare Rows.prooftextExplainsUptoRow = true := by kernel_rfl
end Go.Proofs.YtkofimhnehkdoaaGreatDoor.Rf.prooftextExplains
end
