/- From a run on plain values to a law's statement. -/
import Derived.Test.YtajlmldpbhendaaRfBr
import Derived.ProofKit
import Derived.ChangeOld
import Derived.SizedLaws
import Derived.Carry
import Derived.ChangeShapes
import Derived.ShutString
import Derived.WalkKit
set_option linter.unusedSimpArgs false
set_option linter.unusedVariables false
namespace Go.Proofs.Ytajlmldpbhendaa.Rf

/-- At the start: all that is there is only read. -/
def gh0 (W : World) : Gh := ⟨fun b _ => if b < W.heap.size then .imm else .out, [], fun _ => 0⟩
theorem gh0_imm {W : World} {b o : Nat} (h : b < W.heap.size) : (gh0 W).ow b o = .imm := if_pos h
def noOwn : AV → Bool
  | .list _ (.own _) => false
  | .tup _ => false
  | v => v.plain
def ArgTy {H : Type} (P : Program) (t : TypeId) (v : AV) (d : DataW H) : Prop := ∃ n cs, v = elemAV P t cs ∧ HasTy P n t cs d
inductive ArgsTy {H : Type} (P : Program) : List TypeId → List AV → List (DataW H) → Prop
  | nil : ArgsTy P [] [] []
  | cons {t : TypeId} {v : AV} {d : DataW H} {ts : List TypeId} {vs : List AV} {ds : List (DataW H)} : ArgTy P t v d → ArgsTy P ts vs ds → ArgsTy P (t :: ts) (v :: vs) (d :: ds)

section
variable {H : Type} {enc : TypeId × Value → H} {P : Program} {W : World} {base : Nat}

theorem arg_V {S : List TypeId} (hS : covS P S = true) {t : TypeId} (ht : t ∈ S) {v : Value} {d : DataW H} {p : List MemPlace} (hv : Value.okWide P W .any base t v) (h : DataW.Trod enc P W 0 (fun _ => true) true t v d p) :
    ∃ av, V (gh0 W) W av v ∧ noOwn av = true ∧ ArgTy P t av d := by
  obtain ⟨fuel, hf⟩ := h
  obtain ⟨avs, v1, v2, v3, v4⟩ := trod_V (g := gh0 W) hS (fun b o h => gh0_imm h) fuel t _ _ ht hf
  refine ⟨elemAV P t avs, ?_, ?_, fuel, avs, rfl, v3⟩
  all_goals
    have hc : covT P S t = true := by simp only [covS, List.all_eq_true] at hS; exact hS t ht
    unfold covT at hc
    unfold Value.okWide at hv
    unfold elemAV aggTy
    cases fuel with
    | zero => exact v3.elim
    | succ n =>
      simp only [HasTy] at v3
      cases hu : P.underlying t with
      | none => simp [hu] at hc
      | some de =>
        rw [hu] at v3 hc hv
        cases de <;> simp at hc
        case' bool => obtain ⟨b, rfl, _⟩ := v3
        case' int k => obtain ⟨b, rfl, _⟩ := v3
        case' string => obtain ⟨b, rfl, _⟩ := v3
        case' slice e => rcases v3 with ⟨rfl, _⟩ | ⟨xs, _, _, rfl, _⟩
        all_goals simp only [Bool.false_eq_true, if_false, if_true, List.headD]
        all_goals first
          | rfl
          | (obtain ⟨cs, rfl, _⟩ := hv
             simp only [V]
             exact ⟨cs.toList, by simp, by simpa [Value.cells] using v1, by simpa [Value.cells] using v2⟩)
          | (have hna : v.cells = #[v] := by
               cases v <;> first | rfl | (simp [Cell.okWide, Cell.ok, hu] at hv)
             rw [hna] at v1
             simp only [VS] at v1
             obtain ⟨u, r, e, hv1, _⟩ := v1
             simp at e
             rw [e.1]; exact hv1)
theorem args_V {S : List TypeId} (hS : covS P S = true) : ∀ {ts : List TypeId} {vs : List Value} {ds : List (DataW H)} {ps : List MemPlace}, (∀ t, t ∈ ts → t ∈ S) → (∀ (j : Nat) t v, ts[j]? = some t → vs[j]? = some v → Value.okWide P W .any base t v) → DataW.TrodAll enc P W 0 (fun _ => true) true ts vs ds ps →
    ∃ avs, VS (gh0 W) W avs vs ∧ avs.all noOwn = true ∧ ArgsTy P ts avs ds
  | [], [], [], _, _, _, _ => ⟨[], by simp [VS], rfl, .nil⟩
  | t :: ts, v :: vs, d :: ds, ps, ht, hv, ⟨p, q, h1, h2, _⟩ => by
    obtain ⟨av, a1, a2, a3⟩ := arg_V hS (ht t (by simp)) (hv 0 t v rfl rfl) h1
    obtain ⟨avs, b1, b2, b3⟩ := args_V hS (fun x hx => ht x (by simp [hx])) (fun j t' v' a b => hv (j + 1) t' v' (by simpa using a) (by simpa using b)) h2
    exact ⟨av :: avs, by simp only [VS]; exact ⟨v, vs, rfl, a1, b1⟩, by simp [a2, b2], .cons a3 b3⟩
  | [], [], _ :: _, _, _, _, h => h.elim
  | [], _ :: _, _, _, _, _, h => h.elim
  | _ :: _, [], _, _, _, _, h => h.elim
  | _ :: _, _ :: _, [], _, _, _, h => h.elim
theorem trodAll_len : ∀ {ts : List TypeId} {vs : List Value} {ds : List (DataW H)} {ps : List MemPlace} {sp : Nat → Bool} {held : Bool}, DataW.TrodAll enc P W base sp held ts vs ds ps → ds.length = ts.length ∧ vs.length = ts.length
  | [], [], [], _, _, _, _ => ⟨rfl, rfl⟩
  | t :: ts, v :: vs, d :: ds, _, _, _, ⟨_, _, _, h, _⟩ => by
    obtain ⟨h1, h2⟩ := trodAll_len h; simp [h1, h2]
  | [], [], _ :: _, _, _, _, h => h.elim
  | [], _ :: _, _, _, _, _, h => h.elim
  | _ :: _, [], _, _, _, _, h => h.elim
  | _ :: _, _ :: _, [], _, _, _, h => h.elim
/-- the arguments read as they did -/
theorem args_back {W' : World} (hl : laidOutB P = true) (hb : RowKit.Below W.heap.size W W') : ∀ {ts : List TypeId} {vs : List Value} {ds : List (DataW H)} {ps : List MemPlace}, (∀ t, t ∈ ts → P.readableRec t = true ∧ t < P.types.size) → DataW.TrodAll enc P W 0 (fun _ => true) true ts vs ds ps → DataW.TrodAll enc P W' 0 (fun b => decide (b < W.heap.size)) true ts vs ds ps
  | [], [], [], _, _, h => h
  | t :: ts, v :: vs, d :: ds, ps, ht, ⟨p, q, h1, h2, h3⟩ => by
    obtain ⟨r1, r2⟩ := ht t (by simp)
    refine ⟨p, q, RowKit.Below.trod hl r1 r2 h1 hb ?_, args_back hl hb (fun x hx => ht x (by simp [hx])) h2, h3⟩
    obtain ⟨m, hm⟩ := h1
    exact DataW.trod_lt m _ _ _ hm
  | [], [], _ :: _, _, _, h => h.elim
  | [], _ :: _, _, _, _, h => h.elim
  | _ :: _, [], _, _, _, h => h.elim
  | _ :: _, _ :: _, [], _, _, h => h.elim

def noG : Nat → Option (List AV) := fun _ => none
theorem calls_of_run (hm : P.follows .mixedOrders = true) {IP : IProg} (hIP : ∀ f fn, IP f = some fn → chkFun P f fn = true) {f : FuncId} {avs : List AV} {us : List Value} (hv : VS (gh0 W) W avs us) (hno : avs.all noOwn = true) {k : Nat} {q : Bool} {hp : List HObj} (hr : (run noG IP k).1 f avs [] 0 q = some (.ret (.bool true) hp)) :
    Calls P f us.toArray W fun e W' => e = .returned (.bool true) ∧ RowKit.Below W.heap.size W W' := by
  obtain ⟨hc, _⟩ := run_sound (G := noG) hm hIP k
  have hpl : plains avs = true := by
    simp only [plains, List.all_eq_true] at hno ⊢
    intro x hx
    have := hno x hx
    cases x <;> simp_all [noOwn, AV.plain]
  have hrel : Rel noG (gh0 W) ⟨[], []⟩ (avs.zip us) #[] W := by
    refine ⟨fun s => by simp [Fr.get, VF, VX, V, Owns], fun j v cv hj => ?_, ⟨rfl, fun id o h => by simp at h⟩, fun b o hb => by simp only [gh0]; rw [if_neg (by omega)], fun b cs h => by simp [noG] at h⟩
    obtain ⟨h1, h2⟩ := zip_get hj
    have hvv := hv.get' h1 h2
    have hn : noOwn v = true := by simp only [List.all_eq_true] at hno; exact hno v (List.mem_of_getElem? h1)
    have hp' : v.plain = true := by simp only [plains, List.all_eq_true] at hpl; exact hpl v (List.mem_of_getElem? h1)
    rw [VF_loose (AV.loose_of_plain hp'), VX_plain hp']
    refine ⟨hvv, Owns.not_own (fun xs sz e => ?_) fun vs e => ?_⟩
    · subst e; simp [noOwn] at hn
    · subst e; simp [noOwn] at hn
  obtain ⟨_, hcall⟩ := hc f avs [] 0 q _ (gh0 W) W us hr hv.len hpl hrel
  refine Calls.mono hcall fun e W' h => ?_
  cases e with
  | returned cv =>
    obtain ⟨g', v, hp', e1, k1, s1⟩ := h
    cases e1
    have f1 := k1.ps 0 _ _ rfl
    rw [VF_loose rfl] at f1
    simp only [VX, V] at f1
    refine ⟨by rw [f1.1], s1.os, s1.tape, s1.output, s1.size, fun b hb => s1.blk b hb fun o => ?_⟩
    rw [gh0_imm hb]; trivial
  | panicked chain =>
    obtain ⟨g', v, hp', cv, e1, _⟩ := h
    cases e1
  | outgrown => exact h.elim

theorem law_end (hm : P.follows .mixedOrders = true) {IP : IProg} (hIP : ∀ f fn, IP f = some fn → chkFun P f fn = true) (hlaid : laidOutB P = true) {S : List TypeId} (hS : covS P S = true) {f : FuncId} {fn : Func}
    (hp : fn.params.toList.all (fun t => S.contains t && P.readableRec t && Nat.blt t P.types.size) = true) {s : ChangeSpec} (hvars : s.vars = []) {tb : TypeId} (hres : fn.resultTypes = #[tb]) (hb : P.underlying tb = some .bool)
    (hspec : ∀ ds : List (DataW H), ds.length = fn.params.size → s.fn H (ds ++ []) = ⟨[.lit (.bool true)], ds, []⟩) {args : Array Value} {ds gs : List (DataW H)} {before : List MemPlace}
    (hval : ∀ (j : Nat) t v, fn.params[j]? = some t → args[j]? = some v → Value.okWide P W .any base t v) (hW : DataW.Whole enc P fn.params.toList s.vars false W args.toList ds gs before)
    (hrun : ∀ avs, ArgsTy P fn.params.toList avs ds → ∃ k q hp, (run noG IP k).1 f avs [] 0 q = some (.ret (.bool true) hp)) :
    Calls P f args W fun e W' => ∃ v, e = .returned v ∧ s.post enc P fn false true false false W args v W' := by
  have hW0 := hW
  obtain ⟨p, q, hA, hV, rfl, hfz, hnd⟩ := hW
  have hgs : gs = [] ∧ q = [] := by
    rw [hvars] at hV
    cases gs with
    | nil => exact ⟨rfl, hV⟩
    | cons g gs => exact hV.elim
  obtain ⟨rfl, rfl⟩ := hgs
  simp only [List.all_eq_true, Bool.and_eq_true] at hp
  obtain ⟨avs, a1, a2, a3⟩ := args_V hS (fun t ht => by have := (hp t ht).1.1; simpa using this) (fun j t v h1 h2 => hval j t v (by simpa using h1) (by simpa using h2)) hA
  obtain ⟨k, q, hp', hr⟩ := hrun avs a3
  have hlen := trodAll_len hA
  have hsp := hspec ds (by simpa using hlen.1)
  have hcall := calls_of_run hm hIP a1 a2 hr
  rw [show args.toList.toArray = args by simp] at hcall
  refine Calls.mono hcall fun e W' ⟨he, bel⟩ => ⟨_, he, ds, [], p ++ [], [], p, [], hW0, ?_, ?_, ?_, bel.frame _, fun h => by cases h⟩
  · rw [hsp, hres]; exact ChangeShapes.trodAll_mk1 (open Go.ChangeShapes Go.WideShapes Go.ChangeAt Go.RowKit in shut_bool hb _)
  · rw [hsp]
    exact args_back hlaid bel (fun t ht => by
      have := hp t ht
      exact ⟨this.1.2, by simpa using this.2⟩) hA
  · rw [hsp, hvars]; rfl
end
end Go.Proofs.Ytajlmldpbhendaa.Rf
