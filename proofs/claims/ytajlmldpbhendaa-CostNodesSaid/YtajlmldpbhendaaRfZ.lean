/- Into a call and out of it. -/
import Derived.Test.YtajlmldpbhendaaRfY
set_option linter.unusedSimpArgs false
set_option linter.unusedVariables false
namespace Go.Proofs.Ytajlmldpbhendaa.Rf

section
variable {P : Program} {G : Nat → Option (List AV)} {g g' : Gh} {st : St} {a : Act} {w w' : World} {o : Oper} {tm : Array Value} {call : CallF} {lo : Nat}

/-! in -/
def Tag.inn : Tag → Tag
  | .box (.fr _) => .out
  | .tail (.fr _) _ => .out
  | .box (.arg j) => .box (.fr j)
  | .tail (.arg j) i => .tail (.fr j) i
  | t => t
def Gh.inn (g : Gh) : Gh := { g with ow := fun b o => (g.ow b o).inn }
def Tag.noroot : Tag → Prop
  | .box (.fr _) | .tail (.fr _) _ | .box (.arg _) | .tail (.arg _) _ => False
  | _ => True
theorem Tag.inn_noroot {t : Tag} (h : t.noroot) : t.inn = t := by
  cases t <;> try rfl
  case box r => cases r <;> first | rfl | exact h.elim
  case tail r i => cases r <;> first | rfl | exact h.elim
theorem same_inn (g : Gh) (w : World) : Same Tag.noroot g w g.inn w :=
  ⟨fun _ _ _ h => Tag.inn_noroot h, fun _ _ _ _ => rfl, fun _ _ _ _ => rfl, fun _ _ _ => rfl, fun _ _ h => h⟩
theorem stay_of_same {T : Tag → Prop} (h : Same T g w g' w) (ho : T .out) (hi : T .imm) : Stay g w g' w :=
  { ow := fun b o hl ht => h.ow b o hl (by revert ht; cases g.ow b o <;> simp [Tag.kept] <;> assumption)
    cell := fun _ _ _ _ => rfl, frz := fun _ _ _ _ => rfl, blk := fun _ _ _ => rfl, hb := h.hb, os := rfl, tape := rfl, output := rfl, size := Nat.le_refl _ }
theorem get_enter : ∀ (k : Nat) (vs : List AV) (s : Nat), (enter k vs).get s = if k ≤ s then (vs[s - k]?).getD .none else .none
  | k, [], s => by simp [enter, Fr.get]
  | k, v :: r, s => by
    simp only [enter, Fr.get]
    by_cases h : k = s
    · subst h; simp
    · rw [if_neg h, get_enter (k + 1) r s]
      by_cases h2 : k ≤ s
      · rw [if_pos h2, if_pos (by omega), show s - k = (s - (k + 1)) + 1 by omega]; simp
      · rw [if_neg h2, if_neg (by omega)]
theorem Rel.enter {vs : List AV} {us : List Value} {hp : List HObj} (k : Rel G g ⟨[], hp⟩ (vs.zip us) #[] w) (hl : us.length = vs.length) (hpl : plains vs = true) (n : Nat) :
    Rel G g.inn ⟨Rf.enter 0 vs, hp⟩ [] (us.toArray ++ Array.replicate n undef) w ∧ Stay g w g.inn w := by
  have sm := same_inn g w
  refine ⟨⟨fun s => ?_, fun j v cv hj => by simp at hj, k.hp.same sm trivial (fun _ => trivial) (fun _ _ => trivial) (fun _ _ _ => trivial) rfl, fun b o hb => by show (g.ow b o).inn = _; rw [k.fresh b o hb]; rfl, k.gl.same sm trivial trivial⟩, stay_of_same sm trivial trivial⟩
  simp only
  rw [get_enter]
  simp only [Nat.zero_le, if_true, Nat.sub_zero]
  cases hv : vs[s]? with
  | none => simp [VF, VX, V, Owns]
  | some v =>
    have hs := (List.getElem?_eq_some_iff.1 hv).1
    have hu : us[s]? = some us[s] := List.getElem?_eq_getElem (by omega)
    have hpv : v.plain = true := by
      simp only [plains, List.all_eq_true] at hpl; exact hpl v (List.mem_of_getElem? hv)
    have f := k.ps s v us[s] (by rw [List.getElem?_zip_eq_some]; exact ⟨hv, hu⟩)
    rw [VF_loose (AV.loose_of_plain hpv), VX_plain hpv] at f
    have htm : (us.toArray ++ Array.replicate n undef).getD s undef = us[s] := by
      have : s < us.length := by omega
      simp [Array.getElem?_append, this]
    simp only [Option.getD_some]
    rw [htm, VF_loose (AV.loose_of_plain hpv), VX_plain hpv]
    refine ⟨V.mono (sm.ext trivial) _ _ f.1, ?_⟩
    have tl : ∀ i xs sz cv, Tail g w (.arg s) i xs sz cv → Tail g.inn w (.fr s) i xs sz cv := fun i xs sz cv h a n c e => by
      obtain ⟨h1, h2⟩ := h a n c e
      refine ⟨VE.mono (sm.ext trivial) _ _ _ _ h1, fun o ho ho' => ?_⟩
      obtain ⟨p, q⟩ := h2 o ho ho'
      exact ⟨by show (g.ow _ _).inn = _; rw [p]; rfl, q⟩
    have fo := f.2
    unfold Owns at *
    split
    · exact tl _ _ _ _ fo
    · rename_i vs' 
      exact fun us e => fun i xs sz cv h1 h2 => tl _ _ _ _ (fo us e i xs sz cv h1 h2)
    · trivial

/-! out -/
def IRes.slot : IRes → Nat
  | .tmp s => s
  | .cell s _ _ => s
def find (s : Nat) : List Nat → Nat → Option Nat
  | [], _ => none
  | x :: r, i => if x = s then some i else find s r (i + 1)
theorem find_get {s : Nat} : ∀ {l : List Nat} {i k : Nat}, l.Nodup → l[i]? = some s → find s l k = some (k + i)
  | [], _, _, _, h => by simp at h
  | x :: r, 0, k, _, h => by simp at h; subst h; simp [find]
  | x :: r, i + 1, k, hn, h => by
    simp at h
    have hx : x ≠ s := fun e => by subst e; exact (List.nodup_cons.1 hn).1 (List.mem_of_getElem? h)
    simp only [find, if_neg hx]
    rw [find_get (List.nodup_cons.1 hn).2 h]; congr 1; omega
def Tag.outw (l : List Nat) : Tag → Tag
  | .box (.fr _) => .out
  | .tail (.fr s) i => if i = 0 then (match find s l 0 with | some j => .tail (.arg 0) j | none => .out) else .out
  | .box (.arg _) => .out
  | .tail (.arg _) _ => .out
  | t => t
def Gh.outw (g : Gh) (l : List Nat) : Gh := { g with ow := fun b o => (g.ow b o).outw l }
theorem Tag.outw_noroot {l : List Nat} {t : Tag} (h : t.noroot) : t.outw l = t := by
  cases t <;> try rfl
  case box r => cases r <;> first | rfl | exact h.elim
  case tail r i => cases r <;> first | rfl | exact h.elim
theorem same_outw (g : Gh) (w : World) (l : List Nat) : Same Tag.noroot g w (g.outw l) w :=
  ⟨fun _ _ _ h => Tag.outw_noroot h, fun _ _ _ _ => rfl, fun _ _ _ _ => rfl, fun _ _ _ => rfl, fun _ _ h => h⟩
theorem Tail.outw {l : List Nat} (hn : l.Nodup) {s i : Nat} (hi : l[i]? = some s) {xs : List AV} {sz : Nat} {cv : Value} (h : Tail g w (.fr s) 0 xs sz cv) : Tail (g.outw l) w (.arg 0) i xs sz cv := by
  intro a n c e
  obtain ⟨h1, h2⟩ := h a n c e
  refine ⟨VE.mono ((same_outw g w l).ext trivial) _ _ _ _ h1, fun o ho ho' => ?_⟩
  obtain ⟨p, q⟩ := h2 o ho ho'
  exact ⟨by show (g.ow _ _).outw l = _; rw [p]; simp [Tag.outw, find_get hn hi], q⟩

/-- the results, one by one -/
def chkRes (P : Program) : List IRes → List ResultVar → Bool
  | [], [] => true
  | .tmp s :: r, .tmp t :: q => decide (s = t) && chkRes P r q
  | .cell s n agg :: r, .cell t ty :: q => decide (s = t) && tyOk P ty n agg && chkRes P r q
  | _, _ => false
def resSem (tm : Array Value) : ResultVar → Sem Value
  | .tmp t => pure (tm.getD t undef)
  | .cell a t => do loadVar t (← asAddr (tm.getD a undef))
/-- one result -/
def ResOk (g : Gh) (w : World) (s : Nat) (v : AV) (cv : Value) : Prop :=
  V g w v cv ∧ v.plain = true ∧ ∀ xs sz, v = .list xs (.own sz) → Tail g w (.fr s) 0 xs sz cv
theorem tyOk_one {t : TypeId} {n : Nat} (h : tyOk P t n false = true) : n = 1 := by
  unfold tyOk at h
  cases hi : P.info? t <;> cases hu : P.underlying t <;> simp [hi, hu] at h
  rename_i i d; cases d <;> simp_all
theorem ofCells_plain {agg : Bool} {l : List AV} {us : List Value} (hv : VS g w l us) (h1 : Ones us) (hn : agg = false → us.length = 1) : V g w (ofCells agg l) (if agg then .agg us.toArray else us.headD undef) := by
  cases agg with
  | true => simp only [ofCells, if_true, V]; exact ⟨us, rfl, hv, h1⟩
  | false =>
    have hu := hn rfl
    match us, hu with
    | [u], _ =>
      match l, hv.len with
      | [c], _ =>
        simp only [VS] at hv; obtain ⟨u', r', e, hv, _⟩ := hv; cases e
        simpa [ofCells] using hv
theorem run_res (k : Rel G g st [] tm w) {r : IRes} {q : ResultVar} (hc : chkRes P [r] [q] = true) {v : AV} (h : evalRes1 st r = some v) : ∃ cv, (resSem tm q).run P w = .ok cv w ∧ ResOk g w r.slot v cv := by
  cases r with
  | tmp s =>
    cases q <;> simp [chkRes] at hc
    subst hc
    simp only [evalRes1] at h
    split at h
    · rename_i hp; cases h
      have f := k.fr s
      rw [VF_loose (AV.loose_of_plain hp), VX_plain hp] at f
      refine ⟨_, rfl, f.1, hp, fun xs sz e => ?_⟩
      have f2 := f.2; rw [e] at f2; exact f2
    · cases h
  | cell s n agg =>
    cases q <;> simp [chkRes] at hc
    rename_i t ty
    obtain ⟨rfl, ht⟩ := hc
    simp only [evalRes1] at h
    split at h
    · rename_i cs hs
      split at h
      · rename_i hn; cases h
        have f := k.fr s
        rw [hs] at f
        simp only [VF] at f
        obtain ⟨vs, ty', f1, f2, f3, f4, f5⟩ := f
        have hl : vs.length = n := by rw [f3.1.len]; exact hn.1
        refine ⟨_, ?_, ofCells_plain f3.1 f3.2 (fun e => by subst e; rw [hl]; exact tyOk_one ht), ?_, fun xs sz e => ?_⟩
        · simp only [resSem, f1, asAddr, Sem.run_bind, Sem.run_pure, Result.andThen_ok]
          exact run_loadVar_at ht hl (fun i u hu => by simp [World.cell?, f2, hu])
        · exact hn.2
        · cases agg with
          | true => simp [ofCells] at e
          | false =>
            have hn1 := tyOk_one ht
            subst hn1
            match cs, hn.1 with
            | [c], _ =>
              match vs, hl with
              | [u], _ =>
                simp only [ofCells, Bool.false_eq_true, if_false, List.headD] at e
                subst e
                exact f5 0 xs sz u rfl rfl
      · cases h
    · rename_i id o' hs
      split at h
      · rename_i cs ho
        split at h
        · rename_i l hl
          split at h
          case isFalse => cases h
          rename_i hpl
          cases h
          have f := k.fr s
          rw [hs, VF_loose rfl] at f
          obtain ⟨b, q, e1, us, e2, e3, e4, e5⟩ := k.cutAt (p := .ptr id o') f.1 (cs := cs) (off := o') (by simp only [Rf.behind, ho]) hl
          refine ⟨_, ?_, ofCells_plain e4.cp1 e5 (fun e => by subst e; rw [e2]; exact tyOk_one ht), ?_, fun xs sz e => ?_⟩
          · simp only [resSem, e1, asAddr, Sem.run_bind, Sem.run_pure, Result.andThen_ok]
            exact run_loadVar_at ht e2 e3
          · exact hpl
          · cases agg with
            | true => simp [ofCells] at e
            | false =>
              cases l with
              | nil => simp [ofCells] at e
              | cons c r => simp [ofCells] at e; exact absurd e (AV.cp1_not_own _ _ _)
        · cases h
      · cases h
    · cases h
end
end Go.Proofs.Ytajlmldpbhendaa.Rf
