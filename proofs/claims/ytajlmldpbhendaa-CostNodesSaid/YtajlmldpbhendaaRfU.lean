/- Calls, as the caller sees them. -/
import Derived.Test.YtajlmldpbhendaaRfT
set_option linter.unusedSimpArgs false
set_option linter.unusedVariables false
namespace Go.Proofs.Ytajlmldpbhendaa.Rf

/-- What a call owes. -/
def Ret (G : Nat → Option (List AV)) (g : Gh) (w : World) (r : COut) : Ending → World → Prop
  | .returned cv, w' => ∃ g' v hp', r = .ret v hp' ∧ Rel G g' ⟨[], hp'⟩ [(v, cv)] #[] w' ∧ Stay g w g' w'
  | .panicked chain, w' => ∃ g' v hp' cv, r = .pan v hp' ∧ chain = [{ v := cv, recovered := false }] ∧ V g' w' v cv ∧ v.plain = true ∧ Rel G g' ⟨[], hp'⟩ [] #[] w' ∧ Stay g w g' w'
  | .outgrown, _ => False
def funOk (P : Program) (f : FuncId) : Bool :=
  match P.funcs[f]? with
  | some fn => fn.body.isSome && !(fn.name == "runtime.NumGoroutine")
  | none => false
def CallOK (P : Program) (G : Nat → Option (List AV)) (call : CallF) : Prop :=
  ∀ f vs hp lo q r g w (us : List Value), call f vs hp lo q = some r → us.length = vs.length → plains vs = true → Rel G g ⟨[], hp⟩ (vs.zip us) #[] w → funOk P f = true ∧ Calls P f us.toArray w (Ret G g w r)

section
variable {P : Program} {G : Nat → Option (List AV)} {g g' g1 g2 : Gh} {st : St} {a : Act} {w w' : World} {o : Oper} {tm : Array Value} {ps : List (AV × Value)}

/-- The caller's own tags sleep while it calls. -/
def Tag.slp : Tag → Tag
  | .box (.fr _) => .out
  | .tail (.fr _) _ => .out
  | t => t
def Gh.slp (g : Gh) : Gh := { g with ow := fun b o => (g.ow b o).slp }
def Tag.nofr : Tag → Prop
  | .box (.fr _) => False
  | .tail (.fr _) _ => False
  | _ => True
theorem Tag.slp_nofr {t : Tag} (h : t.nofr) : t.slp = t := by
  cases t <;> try rfl
  case box r => cases r <;> first | rfl | exact h.elim
  case tail r i => cases r <;> first | rfl | exact h.elim
theorem same_slp (g : Gh) (w : World) : Same Tag.nofr g w g.slp w :=
  ⟨fun _ _ _ h => Tag.slp_nofr h, fun _ _ _ _ => rfl, fun _ _ _ _ => rfl, fun _ _ _ => rfl, fun _ _ h => h⟩
theorem VF.to_empty {r : Root} {fr fr' : Fr} {tm tm' : Array Value} {v : AV} {cv : Value} (hp : v.plain = true) (h : VF g w fr tm r v cv) : VF g w fr' tm' r v cv := by
  have hl := AV.loose_of_plain hp
  rw [VF_loose hl, VX_plain hp] at h ⊢; exact h
theorem zip_get {α β : Type} {l : List α} {m : List β} {j : Nat} {x : α} {y : β} (h : (l.zip m)[j]? = some (x, y)) : l[j]? = some x ∧ m[j]? = some y := by
  rw [List.getElem?_zip_eq_some] at h; exact h
theorem Rel.sleep {vs : List AV} {us : List Value} (k : Rel G g st (vs.zip us) tm w) (hp : plains vs = true) : Rel G g.slp ⟨[], st.hp⟩ (vs.zip us) #[] w := by
  have sm := same_slp g w
  refine ⟨fun s => by simp [Fr.get, VF, VX, V, Owns], fun j v cv hj => ?_, k.hp.same sm trivial (fun _ => trivial) (fun _ _ => trivial) (fun _ _ _ => trivial) rfl, fun b o h => ?_, k.gl.same sm trivial trivial⟩
  · have hv : v.plain = true := by
      simp only [plains, List.all_eq_true] at hp
      exact hp v (List.mem_of_getElem? (zip_get hj).1)
    have f := VF.to_empty (fr' := []) (tm' := #[]) hv (k.ps j v cv hj)
    exact VF.same (r := .arg j) sm trivial (fun t cs h => by simp [Fr.get] at h) (fun _ => trivial) trivial rfl f
  · show (g.ow b o).slp = _; rw [k.fresh b o h]; rfl

/-- They wake when it comes back. -/
def Gh.wake (g1 g' : Gh) (n : Nat) : Gh :=
  { ow := fun b o => if b < n ∧ (g1.ow b o).slp ≠ g1.ow b o then g1.ow b o else g'.ow b o
    hb := g'.hb
    bx := fun x => match x with | .fr s => g1.bx (.fr s) | x => g'.bx x }
def Tag.front : Tag → Prop
  | .out | .imm | .box (.fr _) | .tail (.fr _) _ => True
  | _ => False
theorem wake_same (s : Stay g1.slp w g' w') : Same Tag.front g1 w (g1.wake g' w.heap.size) w' := by
  have hk : ∀ b o, (g1.ow b o).front → (g1.slp.ow b o).kept := fun b o h => by
    show ((g1.ow b o).slp).kept
    revert h; cases g1.ow b o <;> simp only [Tag.front, Tag.slp, Tag.kept] <;> try exact id
    case box r => cases r <;> simp [Tag.front, Tag.slp, Tag.kept]
    case tail r i => cases r <;> simp [Tag.front, Tag.slp, Tag.kept]
  refine ⟨fun b o hl h => ?_, fun b o hl h => s.cell b o hl (hk b o h), fun b o hl h => s.frz b o hl (hk b o h), fun b hl h => s.blk b hl fun o => hk b o (h o), s.hb⟩
  simp only [Gh.wake]
  split
  · rfl
  · rename_i hn
    have e := s.ow b o hl (hk b o h)
    have e2 : (g1.ow b o).slp = g1.ow b o := by
      by_cases e3 : (g1.ow b o).slp = g1.ow b o
      · exact e3
      · exact absurd ⟨hl, e3⟩ hn
    rw [e]; exact e2
theorem wake_same' (s : Stay g1.slp w g' w') : Same (fun t => t ≠ .out) g' w' (g1.wake g' w.heap.size) w' := by
  refine ⟨fun b o hl h => ?_, fun _ _ _ _ => rfl, fun _ _ _ _ => rfl, fun _ _ _ => rfl, fun _ _ h => h⟩
  simp only [Gh.wake]
  split
  · rename_i hc
    have hk : (g1.slp.ow b o).kept := by
      show ((g1.ow b o).slp).kept
      have h2 := hc.2
      revert h2; cases g1.ow b o <;> simp only [Tag.slp, Tag.kept] <;> try (intro h; exact absurd rfl h)
      case box r => cases r <;> simp [Tag.slp, Tag.kept]
      case tail r i => cases r <;> simp [Tag.slp, Tag.kept]
    have e := s.ow b o hc.1 hk
    have e3 : g1.slp.ow b o = .out := by
      show (g1.ow b o).slp = .out
      have h2 := hc.2
      revert h2; cases g1.ow b o <;> simp only [Tag.slp] <;> try (intro h; exact absurd rfl h)
      case box r => cases r <;> simp [Tag.slp]
      case tail r i => cases r <;> simp [Tag.slp]
    exact absurd (e.trans e3) h
  · rfl
/-- Back in the caller's frame. -/
theorem Rel.back {vs : List AV} {us : List Value} {hp' : List HObj} (k : Rel G g1 st (vs.zip us) tm w) (s : Stay g1.slp w g' w') {qs : List (AV × Value)} (k' : Rel G g' ⟨[], hp'⟩ qs #[] w') :
    Rel G (g1.wake g' w.heap.size) ⟨st.fr, hp'⟩ qs tm w' ∧ Stay g1 w (g1.wake g' w.heap.size) w' := by
  have s1 := wake_same s
  have s2 := wake_same' s
  refine ⟨⟨fun t => ?_, fun j v cv hj => ?_, ?_, fun b o hb => ?_, ?_⟩, ?_⟩
  · exact VF.same (r := .fr t) s1 trivial (fun u cs _ => rfl) (fun _ => trivial) trivial rfl (k.fr t)
  · have f := (k'.ps j v cv hj).same s2 (by simp) (fun t cs h => by simp [Fr.get] at h) (fun i => by simp) (by simp) rfl
    exact VF.like ⟨fun t cs h => by simp [Fr.get] at h, fun t xs sz h => by simp [Fr.get] at h⟩ f
  · exact k'.hp.same s2 (by simp) (fun _ => by simp) (fun _ _ => by simp) (fun _ _ _ => by simp) rfl
  · simp only [Gh.wake]; rw [if_neg (fun h => by have := s.size; omega)]; exact k'.fresh b o hb
  · exact k.gl.same s1 trivial trivial
  · exact { ow := fun b o hl h => s1.ow b o hl (by revert h; cases g1.ow b o <;> simp [Tag.kept, Tag.front])
            cell := fun b o hl h => s1.cell b o hl (by revert h; cases g1.ow b o <;> simp [Tag.kept, Tag.front])
            frz := fun b o hl h => s1.frz b o hl (by revert h; cases g1.ow b o <;> simp [Tag.kept, Tag.front])
            blk := fun b hl h => s1.blk b hl fun o => by have := h o; revert this; cases g1.ow b o <;> simp [Tag.kept, Tag.front]
            hb := s1.hb, os := s.os, tape := s.tape, output := s.output, size := s.size }

def COut.op (fr : Fr) : COut → OpR
  | .ret v hp => .val v ⟨fr, hp⟩
  | .pan v hp => .pan v ⟨fr, hp⟩
theorem fits_call {call : CallF} (hc : CallOK P G call) (k : Rel G g st [] a.tmps w) {f : Opd} {xs : List Opd} {f' : Operand} {os : List Operand} (hf : opdOk f f' = true) (hx : opdsOk xs os = true) {ts : Array TypeId} (ho : o.op = .call { callee := .value f', args := os.toArray, argTypes := ts })
    (hp : plains (opds st.fr xs).1 = true) {fid : Nat} {caps : List AV} (hv : (opd (opds st.fr xs).2 f).1 = .func fid caps) (hpc : plains caps = true) {lo : Nat} {q : Bool} {r : COut} (hr : call fid ((opds st.fr xs).1 ++ caps.map AV.cp) st.hp lo q = some r) :
    Fits P G g st (r.op (opds st.fr xs).2) o a w := by
  obtain ⟨g1, k1, s1, hb1, hl⟩ := k.takes hx
  simp only [List.nil_append] at k1
  have hrd := k1.read hf
  simp only at hrd
  rw [hv] at hrd; simp only [VX, V] at hrd
  obtain ⟨cvs, h1, h2⟩ := hrd
  have hcv : VS g1 w (caps.map AV.cp) cvs := h2.cpAll
  -- the captured ones are laid beside
  have push : ∀ (cs : List AV) (cvs : List Value) (vs : List AV) (us : List Value), vs.length = us.length → plains cs = true → VS g1 w cs cvs → (∀ c, c ∈ cs → ∃ d : AV, c = d.cp) → Rel G g1 { st with fr := (opds st.fr xs).2 } (vs.zip us) a.tmps w → Rel G g1 { st with fr := (opds st.fr xs).2 } ((vs ++ cs).zip (us ++ cvs)) a.tmps w := by
    intro cs
    induction cs with
    | nil => intro cvs vs us hl _ hv _ k; simp only [VS] at hv; subst hv; simpa using k
    | cons c cs ih =>
      intro cvs vs us hl hp hv hd k
      simp only [VS] at hv; obtain ⟨u, r, rfl, h3, h4⟩ := hv
      simp only [plains, List.all_cons, Bool.and_eq_true] at hp
      have k2 := k.push (v := c) (cv := u) (by
        obtain ⟨d, rfl⟩ := hd c (by simp)
        rw [VF_loose (AV.loose_of_plain hp.1), VX_plain hp.1]; exact ⟨h3, Owns.cp⟩)
      have e : (vs ++ [c]).zip (us ++ [u]) = vs.zip us ++ [(c, u)] := by rw [List.zip_append hl]; rfl
      rw [← e] at k2
      have := ih r (vs ++ [c]) (us ++ [u]) (by simp [hl]) hp.2 h4 (fun x hx => hd x (by simp [hx])) k2
      simpa using this
  have hplc : plains (caps.map AV.cp) = true := by
    simp only [plains, List.all_eq_true] at hpc ⊢
    intro c hc; simp only [List.mem_map] at hc; obtain ⟨d, hd, rfl⟩ := hc; exact plain_cp (hpc d hd)
  have k2 := push _ cvs _ _ (by simpa using hl) hplc hcv (fun c hc => by simp only [List.mem_map] at hc; obtain ⟨d, _, rfl⟩ := hc; exact ⟨d, rfl⟩) k1
  have hpl : plains ((opds st.fr xs).1 ++ caps.map AV.cp) = true := by
    simp only [plains, List.all_append, Bool.and_eq_true] at hp hplc ⊢; exact ⟨hp, hplc⟩
  obtain ⟨hok, hcall⟩ := hc fid _ st.hp lo q r g1.slp w (os.map (Act.opd a.tmps) ++ cvs) hr (by simp [hl, hcv.len]) hpl (k2.sleep hpl)
  intro next Q hn hq
  have hrun : (execOp a.eval o).run P w = .ok (.enter fid (os.map (Act.opd a.tmps) ++ cvs).toArray) w := by
    unfold funOk at hok
    cases hfn : P.funcs[fid]? with
    | none => simp [hfn] at hok
    | some fn =>
      simp [hfn] at hok
      obtain ⟨b1, b2⟩ := hok
      cases hbd : fn.body with
      | none => simp [hbd] at b1
      | some bd => simp [execOp, ho, resolve, Deferred.ofValue, show a.eval = Act.opd a.tmps from funext (Act.eval_eq a), h1, invoke, callFunc, hfn, b2, hbd]
  unfold Oper.wp; rw [hrun, Oper.upon_enter]
  refine Calls.mono hcall fun e w1 hR => ?_
  cases e with
  | returned cv =>
    obtain ⟨g', v, hp', rfl, k3, s3⟩ := hR
    obtain ⟨k4, s4⟩ := k2.back s3 k3
    exact hn _ w1 v _ cv rfl k4 (s1.trans s4)
  | panicked chain =>
    obtain ⟨g', v, hp', cv, rfl, rfl, hvv, hpv, k3, s3⟩ := hR
    obtain ⟨k4, s4⟩ := k2.back s3 k3
    exact hq _ w1 v _ cv rfl (V.mono ((wake_same' s3).ext (by simp)) _ _ hvv) hpv k4 (s1.trans s4)
  | outgrown => exact hR.elim
end
end Go.Proofs.Ytajlmldpbhendaa.Rf
