/- A part of the proof: see the last text. -/
import Derived.Test.YtkofimhnehkdoaaGreatDoorRows
import Derived.Test.YtkofimhnehkdoaaGreatDoorRrG15
import Derived.Test.YtkofimhnehkdoaaGreatDoorRrG16
import Derived.Test.YtkofimhnehkdoaaGreatDoorRrG17
import Derived.LaidLaws
import Derived.Test.YtkofimhnehkdoaaGreatDoorRrG22
import Derived.Test.YtkofimhnehkdoaaGreatDoorRrG18
import Derived.Test.YtkofimhnehkdoaaGreatDoorTie
import Derived.Test.YtkofimhnehkdoaaGreatDoorCards
import Derived.ProofKit
import Derived.Deep.DeepHandedRow
import Derived.Deep.DeepWitnessRowRef
import Derived.ShutString
import Derived.SizedLaws
import Derived.LaidMore
import Derived.OpenShut
import Derived.Stop.Joined
import Derived.SevenTiedAt
set_option linter.unusedVariables false
set_option linter.unusedSimpArgs false
section
namespace Go.Proofs.YtkofimhnehkdoaaGreatDoor.Rf
theorem IPT_ok : IPT.all (fun f fn => chkFun Go.Proofs.Tryz.prog f fn) = true := by kernel_rfl
theorem IP_ok : ∀ f fn,IP f = some fn → chkFun Go.Proofs.Tryz.prog f fn = true := fun _ _ h => IT.all_get IPT_ok h
theorem P_mixed : Go.Proofs.Tryz.prog.follows .mixedOrders = true := by kernel_rfl
theorem P_laid : laidOutB Go.Proofs.Tryz.prog = true := by kernel_rfl
theorem P_own : ownKnob Go.Proofs.Tryz.prog.godebug = none := by kernel_rfl
def tys : List TypeId := [3,4,9,22,24,27,28,29,31,45,51,52,54,61,63,65,67,72,73,96,122,123,125,239,241]
theorem P_tys : covS Go.Proofs.Tryz.prog tys = true := by kernel_rfl
end Go.Proofs.YtkofimhnehkdoaaGreatDoor.Rf
end
section
namespace Go.Proofs.YtkofimhnehkdoaaGreatDoor.Rf
open Go.Proofs Go.Proofs.YtkofimhnehkdoaaGreatDoor
set_option maxRecDepth 100000
theorem S2_star : "*" ++ "errors.errorString" = "*errors.errorString" := by decide
theorem S2_row (u : TypeId) (h : Tryz.prog.typeName? 3 u = some "*errors.errorString") : u = 222 :=
 typeName_ptr_named (nm := "errors.errorString") (by rw [S2_star]; kernel_rfl) (by kernel_rfl) (by decide) u (by rw [S2_star]; exact h)
theorem S2_tys : covS Tryz.prog [9,147] = true := by kernel_rfl
theorem S2_tys2 : covS Tryz.prog [28,199] = true := by kernel_rfl
theorem S2_tys3 : covS Tryz.prog [9,3,153,154,155] = true := by kernel_rfl
theorem globs_of {W : World} {laid : List (String × DataW Unit)} (h : laidMet Tryz.prog laid W) (h1 : ("saturate/opinfo.names", Rows.laid_saturate_opinfo_names) ∈ laid) (h3 : ("internal/strconv.uint64pow10", Rows.laid_internal_strconv_uint64pow10) ∈ laid)
   (h4 : ("saturate/proof.kinds", Rows.laid_saturate_proof_kinds) ∈ laid) {r : List (String × DataW Unit)}
   (h2 : ∃ pre, laid = pre ++ ("strconv.ErrRange", Rows.laid_strconv_ErrRange) :: r) : ∀ b cs, G0 b = some cs → GlobAt Tryz.prog W b cs := by
 intro b cs hb
 by_cases h0 : b = 0
 · subst h0
   cases hb
   exact glob_dat S2_tys h h1 (g := 0) (by kernel_rfl) (t := 147) (by kernel_rfl) (by decide) (by kernel_rfl) (by rw [g_0]; simp)
 · by_cases h7 : b = 7
   · subst h7
     cases hb
     exact glob_err (n := "strconv.ErrRange") (nm := "*errors.errorString") h h2 (g := 7) (by kernel_rfl) (by kernel_rfl) Tryz.underlying112 S2_row Tryz.underlying222 Tryz.underlying224 rfl rfl Tryz.underlying9 (by kernel_rfl) (by kernel_rfl)
   · by_cases h2' : b = 2
     · subst h2'
       cases hb
       exact glob_dat S2_tys2 h h3 (g := 2) (by kernel_rfl) (t := 199) (by kernel_rfl) (by decide) (by kernel_rfl) (by rw [g_2]; simp)
     · by_cases h1' : b = 1
       · subst h1'
         cases hb
         exact glob_dat S2_tys3 h h4 (g := 1) (by kernel_rfl) (t := 155) (by kernel_rfl) (by decide) (by kernel_rfl) (by rw [g_1]; simp)
       · exact absurd hb (by simp [G0,h0,h7,h2',h1'])
end Go.Proofs.YtkofimhnehkdoaaGreatDoor.Rf
end
section
namespace Go.Proofs.YtkofimhnehkdoaaGreatDoor.Rf
open Go.Proofs Go.Proofs.YtkofimhnehkdoaaGreatDoor
mutual
def AV.most (N:Nat) : AV → Prop
 | .str s => s.length ≤ N
 | .agg cs => AV.mosts N cs
 | .list xs _ => AV.mosts N xs
 | _ => True
def AV.mosts (N:Nat) : List AV → Prop
 | [] => True
 | v :: r => v.most N ∧ AV.mosts N r
end
theorem AV.mosts_iff (N:Nat) : ∀ l : List AV,AV.mosts N l ↔ ∀ v,v ∈ l → v.most N
 | [] => by simp [AV.mosts]
 | v :: r => by simp [AV.mosts,AV.mosts_iff N r]
theorem AV.mosts_flatten {N:Nat} {parts:List (List AV)} (h:∀ p,p ∈ parts → AV.mosts N p) : AV.mosts N parts.flatten := by
 rw [AV.mosts_iff]
 intro v hv
 obtain ⟨p,hp,hv⟩ := List.mem_flatten.1 hv
 exact (AV.mosts_iff N p).1 (h p hp) v hv
section
variable {H:Type} {P:Program}
theorem bulk_mem : ∀ {els:List (DataW H)} {i:Nat} {d:DataW H},els[i]? = some d → Rows.uptoBulk d ≤ Rows.uptoBulkAll els
 | [],i,d,h => by simp at h
 | x :: r,0,d,h => by simp at h; subst h; simp only [Rows.uptoBulkAll]; omega
 | x :: r,i + 1,d,h => by
   have := bulk_mem (els := r) (i := i) (d := d) (by simpa using h)
   simp only [Rows.uptoBulkAll]; omega
theorem elemAV_most {N:Nat} {e:TypeId} {ds:List AV} (h:AV.mosts N ds) : (elemAV P e ds).most N := by
 unfold elemAV
 split
 · exact h
 · cases ds with
   | nil => trivial
   | cons a r => exact h.1
theorem HasTy.most {N:Nat} : ∀ {n:Nat} {t:TypeId} {cs:List AV} {d:DataW H},HasTy P n t cs d → Rows.uptoBulk d ≤ N → AV.mosts N cs := by
 intro n
 induction n with
 | zero => intro t cs d h; exact h.elim
 | succ n ih =>
   intro t cs d h hz
   simp only [HasTy] at h
   cases hu : P.underlying t with
   | none => simp [hu] at h
   | some de =>
     rw [hu] at h
     cases de <;> simp only [] at h <;> try (exact h.elim)
     case bool => obtain ⟨b,rfl,rfl⟩ := h; simp [AV.mosts,AV.most]
     case int k => obtain ⟨m,rfl,_,rfl⟩ := h; simp [AV.mosts,AV.most]
     case string =>
       obtain ⟨s,rfl,_,rfl⟩ := h
       simp only [AV.mosts,AV.most,and_true]
       simp only [Rows.uptoBulk] at hz
       omega
     case slice e =>
       rcases h with ⟨rfl,rfl⟩ | ⟨xs,els,rest,rfl,rfl,hl,_,hx⟩
       · simp [AV.mosts,AV.most]
       · simp only [AV.mosts,AV.most,and_true]
         rw [AV.mosts_iff]
         intro v hv
         obtain ⟨i,hi⟩ := List.mem_iff_getElem?.1 hv
         have hil := (List.getElem?_eq_some_iff.1 hi).1
         have he : els[i]? = some els[i] := List.getElem?_eq_getElem (by omega)
         obtain ⟨ds,rfl,hds⟩ := hx i v _ hi he
         have hb := bulk_mem he
         simp only [Rows.uptoBulk] at hz
         exact elemAV_most (ih hds (by omega))
     case struct fs =>
       obtain ⟨parts,els,rfl,rfl,h1,h2,h3⟩ := h
       refine AV.mosts_flatten fun p hp => ?_
       obtain ⟨i,hi⟩ := List.mem_iff_getElem?.1 hp
       have hil := (List.getElem?_eq_some_iff.1 hi).1
       have he : els[i]? = some els[i] := List.getElem?_eq_getElem (by omega)
       have hf : fs[i]? = some fs[i] := Array.getElem?_eq_getElem (by omega)
       have hb := bulk_mem he
       simp only [Rows.uptoBulk] at hz
       exact ih (h3 i _ _ _ hf hi he) (by omega)
     case array m e =>
       obtain ⟨parts,els,rfl,rfl,h1,h2,h3⟩ := h
       refine AV.mosts_flatten fun p hp => ?_
       obtain ⟨i,hi⟩ := List.mem_iff_getElem?.1 hp
       have hil := (List.getElem?_eq_some_iff.1 hi).1
       have he : els[i]? = some els[i] := List.getElem?_eq_getElem (by omega)
       have hb := bulk_mem he
       simp only [Rows.uptoBulk] at hz
       exact ih (h3 i _ _ hi he) (by omega)
theorem ArgsTy.mosts {N:Nat} : ∀ {ts:List TypeId} {vs:List AV} {ds:List (DataW H)},ArgsTy P ts vs ds → Rows.uptoBulkAll ds ≤ N → AV.mosts N vs
 | _,_,_,.nil,_ => trivial
 | _,_,_,.cons h k,hz => by
   obtain ⟨n,cs,rfl,h⟩ := h
   simp only [Rows.uptoBulkAll] at hz
   exact ⟨elemAV_most (h.most (by omega)),k.mosts (by omega)⟩
theorem upto_most {ts:List TypeId} {vs:List AV} {ds:List (DataW H)} (h:ArgsTy P ts vs ds) (hk:Rows.uptoSmall H (ds ++ []) = true) : AV.mosts 1048576 vs := by
 rw [List.append_nil] at hk
 exact h.mosts (of_decide_eq_true hk)
end
end Go.Proofs.YtkofimhnehkdoaaGreatDoor.Rf
end
section
namespace Go.Proofs.YtkofimhnehkdoaaGreatDoor.Rf
theorem names_most {N:Nat} {p:List St7} {o:Own} (h:AV.mosts N [.list (St7.avs p) o]) : ∀ s,s ∈ p → ∀ x,x ∈ s.subs → x.name.length ≤ N := by
 intro s hs x hx
 have h1 : AV.mosts N (St7.avs p) := h.1
 have h2 := (AV.mosts_iff N _).1 h1 s.av (List.mem_map_of_mem hs)
 rw [st_av] at h2
 have h3 : AV.mosts N s.cells := h2
 have h4 := (AV.mosts_iff N _).1 h3 (.list (sbs s.subs) (ownB s.so)) (by simp [St7.cells])
 have h5 : AV.mosts N (sbs s.subs) := h4
 have h6 := (AV.mosts_iff N _).1 h5 x.av (List.mem_map_of_mem hx)
 have h7 : AV.mosts N x.cells := h6
 exact h7.1
theorem aS_len (a:List UInt8) : (aS a).text.length ≤ a.length + 2 := by
 simp only [aS,S.text]
 split
 · simp [S.texts]
 · omega
theorem list_len {c n c' : Nat} {o:Bool} {l:List S} (h:∀ x,x ∈ l → x.text.length ≤ c) (hn:l.length ≤ n) (hc:n * (c + 1) + 2 ≤ c') : (S.mk [] o l).text.length ≤ c' := by
 have := texts_bd c l true h
 rw [list_text]
 have h2 : l.length * (c + 1) ≤ n * (c + 1) := Nat.mul_le_mul_right _ hn
 omega
theorem term_len {t:T} (hw:t.wf) (h:0 ≤ t.cnt 40 40) : (writeT t).text.length ≤ 2560 := by
 have h1 := write_len t hw
 have h4 := T.cnt_ge t 40 40 h
 omega
theorem line_len {s:St7} (hw:s.wf) (hl:lightS 40 s = true) (hn:∀ x,x ∈ s.subs → x.name.length ≤ 1048576) : (lineT s).length ≤ 200000000 := by
 obtain ⟨w1,w2,w3,w4,w5,w6,w7,w8⟩ := hw
 simp only [lightS,Bool.and_eq_true,decide_eq_true_eq] at hl
 obtain ⟨l1,l2,l3,l4,l5⟩ := hl
 have hnum : ∀ n,i64B n → (aS (decZ n)).text.length ≤ 41943300 := fun n hn => by have := aS_len (decZ n); have := decZ_len hn; omega
 have hrefs : (refsW s.refs).text.length ≤ 41943300 := by
   refine list_len (c := 23) (n := 20) (fun x hx => ?_) (by simpa using l3) (by omega)
   obtain ⟨n,hn,rfl⟩ := List.mem_map.1 hx
   have := aS_len (decZ n)
   have := decZ_len (i64B_of (w2 n hn))
   omega
 have hsubs : (subsW s.subs).text.length ≤ 41943300 := by
   refine list_len (c := 2097160) (n := 20) (fun x hx => ?_) (by simpa using l4) (by omega)
   obtain ⟨y,hy,rfl⟩ := List.mem_map.1 hx
   have h2 := List.all_eq_true.1 l5 y hy
   simp only [subL,decide_eq_true_eq] at h2
   refine list_len (c := 1048578) (n := 2) (fun z hz => ?_) (by simp) (by omega)
   simp only [List.mem_cons,List.mem_nil_iff,or_false] at hz
   rcases hz with rfl | rfl
   · have := aS_len y.name; have := hn y hy; omega
   · have := term_len (w5 y hy).2 h2; omega
 have hta : (writeT s.a).text.length ≤ 41943300 := by have := term_len w7 l1; omega
 have htb : (writeT s.b).text.length ≤ 41943300 := by have := term_len w8 l2; omega
 have hrest : ∀ x,x ∈ restW s → x.text.length ≤ 41943300 := by
   intro u hu
   unfold restW at hu
   split at hu
   · simp only [List.mem_cons,List.mem_nil_iff,or_false] at hu
     rcases hu with rfl | rfl
     · exact hnum _ (i64B_of w4)
     · exact hsubs
   · split at hu
     · simp only [List.mem_cons,List.mem_nil_iff,or_false] at hu
       subst hu; exact hnum _ (i64B_of w4)
     · split at hu
       · simp only [List.mem_cons,List.mem_nil_iff,or_false] at hu
         subst hu; exact hta
       · split at hu
         · simp only [List.mem_cons,List.mem_nil_iff,or_false] at hu
           rcases hu with rfl | rfl
           · exact hta
           · exact htb
         · simp at hu
 have hrl : (restW s).length ≤ 2 := by
   unfold restW
   split
   · simp
   · split
     · simp
     · split
       · simp
       · split <;> simp
 have hline : (lineW s).text.length ≤ 200000000 := by
   refine list_len (c := 41943300) (n := 4) (fun x hx => ?_) (by simp; omega) (by omega)
   simp only [List.mem_cons] at hx
   rcases hx with rfl | rfl | hx
   · have := aS_len (kindE s.kind); have := kindE_len s.kind; omega
   · exact hrefs
   · exact hrest x hx
 unfold lineT
 split
 · simp
 · exact hline
theorem linesT_bd (c:Nat) : ∀ l : List St7,(∀ x,x ∈ l → (lineT x).length ≤ c) → (linesT l).length ≤ l.length * (c + 1)
 | [],_ => by simp [linesT]
 | x :: r,h => by
   have h1 := h x (by simp)
   have h2 := linesT_bd c r fun y hy => h y (by simp [hy])
   simp only [linesT,List.length_append,List.length_cons,Nat.add_mul]; omega
theorem linesT_bd2 (c n:Nat) (l:List St7) (h:l.length ≤ n) (hx:∀ x,x ∈ l → (lineT x).length ≤ c) : (linesT l).length ≤ n * (c + 1) := Nat.le_trans (linesT_bd c l hx) (Nat.mul_le_mul_right _ h)
set_option maxHeartbeats 2000000 in
theorem prooftextPrints_D (p:List St7) (o:Bool) (hw:∀ s,s ∈ p → s.wf) (hl:p.length ≤ 9223372036854775807) (hn:∀ s,s ∈ p → ∀ x,x ∈ s.subs → x.name.length ≤ 1048576) (q:Bool) :
   callD G0 IP n_sl36_ProoftextPrints [.list (St7.avs p) (ownB o)] [] 0 q = some (.ret (.bool true) []) := by
 have e2 := fun (o:Own) (hp:List HObj) (lo:Nat) (q:Bool) => light36_D p hw hl o 20 40 (by omega) (by omega) (by omega) hp lo q
 rw [callD_eq]
 cases hL : lightB p 20 40 with
 | false =>
   rw [hL] at e2
   simp [IP_sl36_ProoftextPrints,i_sl36_ProoftextPrints,e2,live36_D]
 | true =>
   rw [hL] at e2
   simp only [lightB,Bool.and_eq_true,decide_eq_true_eq] at hL
   obtain ⟨hL1,hL2⟩ := hL
   have hli := List.all_eq_true.1 hL2
   have hll : ∀ s,s ∈ p → (lineT s).length ≤ 200000000 := fun s hs => line_len (hw s hs) (hli s hs) (hn s hs)
   have hsz : ∀ s,s ∈ p → s.refs.length ≤ 65536 ∧ s.subs.length ≤ 65536 := fun s hs => by
     have := hli s hs
     simp only [lightS,Bool.and_eq_true,decide_eq_true_eq] at this
     omega
   have hlen : (linesT p).length ≤ 4000000020 := Nat.le_trans (linesT_bd2 200000000 20 p (by omega) hll) (by decide)
   have hloop := fun (o:Own) => loop_iter (G := G0) (IP := IP) (lo := 0) (b := l_sl36_ProoftextPrints_0)
     (fun i => ⟨[(0,.list (St7.avs p) o),(3,.int .i64 i)],[]⟩) p.length
     (r := (.exit 0,⟨[(0,.list (St7.avs p) o),(3,.int .i64 p.length),(11,.bool false)],[]⟩)) (fun i hi => by
       have hI : (i:Int) < (p.length : Int) := by omega
       have hw1 := wrap_succ hi (n := p.length) hl
       have hm := List.getElem_mem hi
       have hls := hll p[i] hm
       have e3 := fun (q:Bool) => lineP_D p[i] (hw _ hm) (hsz _ hm).1 (hsz _ hm).2 (by omega) [] 0 q
       have e4 := fun (q:Bool) => line36_D p[i] (hw _ hm) (hsz _ hm).1 (hsz _ hm).2 (by omega) [] 0 q
       simp only [st_av,St7.cells] at e3 e4
       rw [← hw1]
       generalize lineT p[i] = tx at *
       simp [l_sl36_ProoftextPrints_0,hi,hI,st_av,e3,e4])
     (by simp [l_sl36_ProoftextPrints_0]) (by simp)
   simp only [Int.natCast_zero] at hloop
   have e5 := fun (o:Own) => printA_D p (fun s hs => ⟨hw s hs,hsz s hs⟩) (by omega) (by omega) o [] 0 false
   have e6 := fun (o:Own) => print36_D p (fun s hs => ⟨hw s hs,hsz s hs⟩) (by omega) (by omega) o [] 0 false
   generalize linesT p = tx at *
   simp [IP_sl36_ProoftextPrints,i_sl36_ProoftextPrints,e2,live36_D,hloop,e5,e6]
end Go.Proofs.YtkofimhnehkdoaaGreatDoor.Rf
end
section
namespace Go.Proofs.YtkofimhnehkdoaaGreatDoor.Rf.prooftextPrints
open Go.Proofs Go.Proofs.YtkofimhnehkdoaaGreatDoor
set_option maxRecDepth 100000
abbrev laid := Rows.prooftextPrintsUptoRow.laid
theorem globs {W:World} (h:laidMet Tryz.prog laid W) : ∀ b cs,G0 b = some cs → GlobAt Tryz.prog W b cs := globs_of (laid := laid) (r := laid.drop 5) h (List.mem_of_getElem? (i := 3) rfl) (List.mem_of_getElem? (i := 2) rfl) (List.mem_of_getElem? (i := 6) rfl) ⟨laid.take 4,rfl⟩
abbrev wit : Array Value := #[.slice none 0 0]
theorem laid_met (os:Os) : laidMet Tryz.prog laid ((World.doorLaid Tryz.prog 400 os).forCall (fun _ _ => 0) ⟨#[],wit,[]⟩).memory :=
 laidMet_of_run' 8 (by kernel_rfl) (by kernel_rfl)
theorem reads (os:Os) {H:Type} (enc:TypeId × Value → H) : ∃ places,DataW.whole enc Tryz.prog ((World.doorLaid Tryz.prog 400 os).forCall (fun _ _ => 0) ⟨#[],wit,[]⟩).memory Tryz.f9.params.toList Rows.prooftextPrintsSpec.vars false wit.toList 8 = some ([.nil],[],places) :=
 ⟨[],by kernel_rfl⟩
theorem contract (H:Type) (enc:TypeId × Value → H) (W:World) (base:Nat) (args:Array Value) (ds gs:List (DataW H)) (before:List MemPlace)
   (hval:∀ (j:Nat) t v,Tryz.f9.params[j]? = some t → args[j]? = some v → Value.okWide Tryz.prog W .any base t v)
   (hW:DataW.Whole enc Tryz.prog Tryz.f9.params.toList Rows.prooftextPrintsSpec.vars false W args.toList ds gs before) (hk:Rows.uptoSmall H (ds ++ gs) = true)
   (hz:(DataW.weightsEach Tryz.prog (Tryz.f9.params.toList ++ Rows.prooftextPrintsSpec.plain.varTypes Tryz.prog) (ds ++ gs)).all (· ≤ reachBytes) = true) (hL:laidMetH Tryz.prog laid W) :
   Calls Tryz.prog 9 args W fun e W' => ∃ v,e = .returned v ∧ Rows.prooftextPrintsSpec.post enc Tryz.prog Tryz.f9 false true false false W args v W' := by
 rw [MakeChecks.laidMetH_plain _ _ _ (by kernel_rfl)] at hL
 have hgs : gs = [] := by
   obtain ⟨p,q,hA,hV,_,_,_⟩ := hW
   have hvars : Rows.prooftextPrintsSpec.vars = [] := rfl
   rw [hvars] at hV
   cases gs with
   | nil => rfl
   | cons g gs => exact hV.elim
 subst hgs
 refine law_endG (globs hL) P_mixed IP_ok P_laid P_tys (by rw [Tryz.params9]; kernel_rfl) rfl (tb := 4) rfl Tryz.underlying4 (fun ds h => ?_) hval hW hz fun avs ha hlim => ?_
 · rw [Tryz.params9] at h
   match ds,h with
   | [d1],_ => rfl
 · have hmo := upto_most ha hk
   rw [Tryz.params9] at ha
   obtain ⟨v1,d1,vs1,ds1,rfl,rfl,a1,ha⟩ := ha.cons'
   obtain ⟨rfl,rfl⟩ := ha.nil'
   obtain ⟨o,p,rfl,hl,hw⟩ := a1.steps (hp := Tryz.underlying45) (hT := fun n ds d' h => HasTy.term (hu := Tryz.underlying31) (hf := rfl) (ha := Tryz.underlying27) (hb := Tryz.underlying3) (hc := Tryz.underlying28) (he := Tryz.underlying9) (hs := Tryz.underlying29) n ds d' h) (hu := Tryz.underlying54) (hf := rfl) (hi := Tryz.underlying3) (hl := Tryz.underlying51) (hs := Tryz.underlying52) (hv := Tryz.underlying96) (hg := rfl) (hn := Tryz.underlying9)
   exact ⟨false,[],prooftextPrints_D p o hw hl (names_most hmo) false⟩
theorem lifted (os:Os) (started:os.Started) (H:Type) (enc:TypeId × Value → H) (F:Stop.Interp) :
   ReturnsInHanded {} Tryz.checked os 9 .any ((Rows.OpenSpec.upto Rows.prooftextPrintsSpec).preRow enc Tryz.prog Tryz.f9 Rows.prooftextPrintsUptoRow.domain false Rows.prooftextPrintsUptoRow.laid) (((Rows.OpenSpec.upto Rows.prooftextPrintsSpec).at F).post enc Tryz.prog Tryz.f9 false true false false) := by
 obtain ⟨places,hx⟩ := reads os enc
 refine returnsInHanded_of_row (C := Tryz.checked) (s := Rows.OpenSpec.upto Rows.prooftextPrintsSpec) P_own started (by kernel_rfl) Tryz.func9
   (witness_row_atRef (enc := enc) (C := Tryz.checked) false (World.doorLaid Tryz.prog 400 os) wit rfl (by kernel_rfl) (by kernel_rfl) (by kernel_rfl)
     (OpenSpec.preRow_of_cond 8 hx (by kernel_rfl) (fun k hk => by cases hk; kernel_rfl) (by kernel_rfl) (laid_met os))) ?_
 intro W base args ds gs before hval hW _ hcond hz hL _ _
 exact contract H enc W base args ds gs before hval hW (hcond _ rfl) hz hL
end Go.Proofs.YtkofimhnehkdoaaGreatDoor.Rf.prooftextPrints
end
