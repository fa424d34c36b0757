/- Operations one behind the other. -/
import Derived.Test.YtajlmldpbhendaaRfW
import Derived.Orders
import Derived.LoopN
set_option linter.unusedSimpArgs false
set_option linter.unusedVariables false
namespace Go.Proofs.Ytajlmldpbhendaa.Rf

def ExQ (g : Gh) (w : World) (a : Act) (Q : Exit → Act → World → Prop) : Ex → Prop
  | .normal => Q .normal a w
  | .exit id => Q (.exit id) a w
  | .ret => Q .ret a w
  | .pan v => ∀ cv, V g w v cv → v.plain = true → Q (.panic [{ v := cv, recovered := false }]) a w
/-- What is owed behind a step. -/
def Goes (G : Nat → Option (List AV)) (nt : Nat) (df : List Deferred) (g : Gh) (w : World) (st : St) (ex : Ex) (Q : Exit → Act → World → Prop) : Prop :=
  ∀ g' a' w', a'.tmps.size = nt → a'.defers = df → Rel G g' st [] a'.tmps w' → Stay g w g' w' → ExQ g' w' a' Q ex
theorem Goes.after {G : Nat → Option (List AV)} {nt : Nat} {df : List Deferred} {g g1 : Gh} {w w1 : World} {st : St} {ex : Ex} {Q : Exit → Act → World → Prop} (s : Stay g w g1 w1) (h : Goes G nt df g w st ex Q) : Goes G nt df g1 w1 st ex Q :=
  fun g' a' w' h1 h2 h3 h4 => h g' a' w' h1 h2 h3 (s.trans h4)

section
variable {P : Program} {G : Nat → Option (List AV)} {g g' : Gh} {st : St} {a : Act} {w w' : World} {o : Oper} {tm : Array Value} {call : CallF} {lo : Nat}

theorem VF.like3 {fr fr' : Fr} {tm' : Array Value} {r : Root} {v : AV} {cv : Value} (hb : ∀ t o, v = .lref t o → ∀ cs, fr.get t = .box cs → ∃ cs', fr'.get t = .box cs')
    (hp : ∀ t, v = .lastr t → ∀ xs sz, fr.get t = .pend xs sz → fr'.get t = .pend xs sz ∧ tm'.getD t undef = tm.getD t undef) (h : VF g w fr tm r v cv) : VF g w fr' tm' r v cv := by
  cases v <;> simp only [VF, VX] at h ⊢ <;> first
    | exact h
    | (obtain ⟨⟨h1, cs, h2⟩, h3⟩ := h; exact ⟨⟨h1, hb _ _ rfl cs h2⟩, h3⟩)
    | (obtain ⟨⟨xs, sz, a, c, h1, h2, h3⟩, h4⟩ := h; obtain ⟨p, q⟩ := hp _ rfl xs sz h1; exact ⟨⟨xs, sz, a, c, p, q.trans h2, h3⟩, h4⟩)
theorem keepOk_get {fr : Fr} {live : List Nat} : ∀ {l : List Nat}, fr.keepOk l live = true → ∀ s ∈ l, (∀ t o, fr.get s = .lref t o → t ∈ live) ∧ ∀ t, fr.get s = .lastr t → t ∈ live
  | [], _, s, hs => by simp at hs
  | x :: l, h, s, hs => by
    simp only [Fr.keepOk, Bool.and_eq_true] at h
    rcases List.mem_cons.1 hs with rfl | hs
    · refine ⟨fun t o e => ?_, fun t e => ?_⟩
      · have := h.1; rw [e] at this; simpa using this
      · have := h.1; rw [e] at this; simpa using this
    · exact keepOk_get h.2 s hs
theorem Rel.keep (k : Rel G g st [] tm w) {live : List Nat} (h : st.fr.keepOk live live = true) : Rel G g { st with fr := st.fr.keep live } [] tm w := by
  refine ⟨fun s => ?_, fun j v cv hj => by simp at hj, k.hp, k.fresh, k.gl⟩
  simp only
  rw [Fr.get_keep]
  split
  · rename_i hs
    obtain ⟨h1, h2⟩ := keepOk_get h s hs
    refine VF.like3 (fun t o e cs hc => ⟨cs, ?_⟩) (fun t e xs sz hc => ⟨?_, rfl⟩) (k.fr s)
    · rw [Fr.get_keep, if_pos (h1 t o e)]; exact hc
    · rw [Fr.get_keep, if_pos (h2 t e)]; exact hc
  · simp [VF, VX, V, Owns]

/-! one of a region's operations -/
def chkGuard (nt : Nat) (ops : Array Oper) : Option (Nat × Bool) → Option (Nat × Bool) → Bool
  | none, none => true
  | some (s, b), some (j, b') => decide (b = b') && decide (s < nt) && (match ops[j]? with | some q => decide (q.dst = some s) | none => false)
  | _, _ => false
def dstOk (nt : Nat) : Option Nat → Bool
  | some d => decide (d < nt)
  | none => true
def chkOper (P : Program) (nt : Nat) (ops : Array Oper) (i : IOper) (o : Oper) : Bool := decide (i.dst = o.dst) && dstOk nt i.dst && chkGuard nt ops i.guard o.guard && chkOp P i.op o.op

theorem wanted_ok {nt : Nat} {ops : Array Oper} {ig : Option (Nat × Bool)} (hg : chkGuard nt ops ig o.guard = true) (k : Rel G g st [] a.tmps w) (hn : a.tmps.size = nt) {t : Bool} (h : wanted st.fr ig = some t) : Region.wanted o (yielded ops a.tmps) = t := by
  unfold Region.wanted
  cases ig with
  | none =>
    cases ho : o.guard with
    | none => simp [wanted] at h; simp [h]
    | some x => rw [ho] at hg; simp [chkGuard] at hg
  | some x =>
    obtain ⟨s, b⟩ := x
    cases ho : o.guard with
    | none => rw [ho] at hg; simp [chkGuard] at hg
    | some y =>
      obtain ⟨j, b'⟩ := y
      rw [ho] at hg
      simp only [chkGuard, Bool.and_eq_true, decide_eq_true_eq] at hg
      obtain ⟨⟨rfl, h2⟩, h3⟩ := hg
      cases hq : ops[j]? with
      | none => rw [hq] at h3; simp at h3
      | some q =>
        rw [hq] at h3; simp only [decide_eq_true_eq] at h3
        have f := k.fr s
        have hlt : s < a.tmps.size := by rw [hn]; exact h2
        have hget : a.tmps[s]? = some (a.tmps.getD s undef) := by simp [hlt]
        have hy : yielded ops a.tmps j = match a.tmps.getD s undef with | .bool b => some b | _ => none := by
          unfold yielded
          rw [hq]; simp only [Option.bind_some, h3, hget]
          cases a.tmps.getD s undef <;> rfl
        simp only [wanted] at h
        simp only [hy]
        cases hv : st.fr.get s <;> rw [hv] at h f <;> try (simp at h; done)
        case bool t' =>
          simp at h
          simp only [VF, VX, V] at f
          rw [f.1]; subst h; simp
        case tup vs =>
          cases vs with
          | nil =>
            simp at h; subst h
            simp only [VF, VX, V] at f
            obtain ⟨⟨us, e, h5⟩, _⟩ := f
            rw [e]; simp
          | cons x xs => simp at h
theorem St.put_ok {v : AV} {cv : Value} {d : Option Nat} {st' : St} {nt : Nat} (k : Rel G g st [(v, cv)] a.tmps w) (hn : a.tmps.size = nt) (hd : dstOk nt d = true) (h : st.put d v = some st') :
    ∃ g', Rel G g' st' [] (a.put d cv).tmps w ∧ Stay g w g' w ∧ (a.put d cv).tmps.size = nt ∧ (a.put d cv).defers = a.defers := by
  cases d with
  | none => simp [St.put] at h; subst h; exact ⟨g, k.less, Stay.refl g w, hn, rfl⟩
  | some d =>
    simp only [St.put] at h
    split at h
    · rename_i hl; cases h
      simp only [dstOk, decide_eq_true_eq] at hd
      obtain ⟨g', k', s, _⟩ := k.into hl (by rw [hn]; exact hd)
      exact ⟨g', k', s, by simp [Act.put, hn], rfl⟩
    · cases h
theorem evalOps_cons {x : IOper} {r : List IOper} : evalOps G call lo (x :: r) st = match evalOps G call lo [x] st with | some (.normal, st') => evalOps G call lo r st' | e => e := by
  simp only [evalOps]
  cases wanted st.fr x.guard with
  | none => rfl
  | some t =>
    cases t
    · simp only []
      cases st.put x.dst (.tup []) <;> rfl
    · simp only []
      cases evalOp G call lo x.op st with
      | none => rfl
      | some e =>
        cases e with
        | val v st' => simp only []; cases st'.put x.dst v <;> rfl
        | pan v st' => rfl
theorem op1 (hc : CallOK P G call) {nt : Nat} {ops : Array Oper} {i : Nat} {io : IOper} (hi : ops[i]? = some o) (hk : chkOper P nt ops io o = true) (k : Rel G g st [] a.tmps w) (hn : a.tmps.size = nt) {ex : Ex} {st' : St}
    (hr : evalOps G call lo [io] st = some (ex, st')) {K : Act → World → Prop} {Q : Exit → Act → World → Prop} (h : Goes G nt a.defers g w st' ex (fun e a w => match e with | .normal => K a w | e => Q e a w)) : wpOp P ops Q i K a w := by
  simp only [chkOper, Bool.and_eq_true, decide_eq_true_eq] at hk
  obtain ⟨⟨⟨h1, h2⟩, h3⟩, h4⟩ := hk
  unfold wpOp
  rw [hi]; simp only
  simp only [evalOps] at hr
  cases hw : wanted st.fr io.guard with
  | none => rw [hw] at hr; simp at hr
  | some t =>
    rw [wanted_ok h3 k hn hw]
    rw [hw] at hr
    cases t with
    | false =>
      simp only at hr
      cases hp : st.put io.dst (.tup []) with
      | none => rw [hp] at hr; simp at hr
      | some s2 =>
        rw [hp] at hr; simp at hr; obtain ⟨rfl, rfl⟩ := hr
        obtain ⟨g2, k2, s3, e1, e2⟩ := St.put_ok (k.push0 (v := .tup []) (cv := undef) VF_undef) hn h2 hp
        simp only [Bool.false_eq_true, if_false]
        rw [← h1]
        exact h g2 _ w e1 e2 k2 s3
    | true =>
      simp only at hr
      simp only [if_true]
      refine .inl ?_
      cases he : evalOp G call lo io.op st with
      | none => rw [he] at hr; simp at hr
      | some e =>
        rw [he] at hr
        refine op_sound hc k h4 he _ _ (fun g1 w1 v s1 cv e1 k1 t1 => ?_) (fun g1 w1 v s1 cv e1 hv hp k1 t1 => ?_)
        · subst e1
          simp only at hr
          cases hp : s1.put io.dst v with
          | none => rw [hp] at hr; simp at hr
          | some s2 =>
            rw [hp] at hr; simp at hr; obtain ⟨rfl, rfl⟩ := hr
            obtain ⟨g2, k2, s3, e1, e2⟩ := St.put_ok k1 hn h2 hp
            rw [← h1]
            exact h g2 _ w1 e1 e2 k2 (t1.trans s3)
        · subst e1
          simp at hr; obtain ⟨rfl, rfl⟩ := hr
          exact h g1 a w1 hn rfl k1 t1 cv hv hp
/-- pairwise -/
def chkOpers (P : Program) (nt : Nat) (ops : Array Oper) : List IOper → List Oper → Bool
  | [], [] => true
  | i :: is, o :: os => chkOper P nt ops i o && chkOpers P nt ops is os
  | _, _ => false
theorem chkOpers_get {nt : Nat} {ops : Array Oper} : ∀ {is : List IOper} {os : List Oper}, chkOpers P nt ops is os = true → is.length = os.length ∧ ∀ (j : Nat) i o, is[j]? = some i → os[j]? = some o → chkOper P nt ops i o = true
  | [], [], _ => ⟨rfl, fun j i o h => by simp at h⟩
  | i :: is, o :: os, h => by
    simp only [chkOpers, Bool.and_eq_true] at h
    obtain ⟨h1, h2⟩ := chkOpers_get h.2
    refine ⟨by simp [h1], fun j x y hx hy => ?_⟩
    cases j with
    | zero => simp at hx hy; subst hx; subst hy; exact h.1
    | succ j => exact h2 j x y (by simpa using hx) (by simpa using hy)
  | [], _ :: _, h => by simp [chkOpers] at h
  | _ :: _, [], h => by simp [chkOpers] at h
theorem ops_sound (hc : CallOK P G call) {nt : Nat} {ops : Array Oper} {Q : Exit → Act → World → Prop} : ∀ (l : List Nat) (is : List IOper), is.length = l.length → (∀ (j : Nat) i x, is[j]? = some i → l[j]? = some x → ∃ o, ops[x]? = some o ∧ chkOper P nt ops i o = true) →
    ∀ {g : Gh} {st : St} {a : Act} {w : World}, Rel G g st [] a.tmps w → a.tmps.size = nt → ∀ {ex : Ex} {st' : St}, evalOps G call lo is st = some (ex, st') → Goes G nt a.defers g w st' ex Q → wpOps P ops Q l a w
  | [], [], _, _, g, st, a, w, k, hn, ex, st', hr, h => by
    simp [evalOps] at hr; obtain ⟨rfl, rfl⟩ := hr
    exact h g a w hn rfl k (Stay.refl g w)
  | x :: l, i :: is, hl, hall, g, st, a, w, k, hn, ex, st', hr, h => by
    obtain ⟨o, ho, hko⟩ := hall 0 i x rfl rfl
    rw [wpOps_cons]
    rw [evalOps_cons] at hr
    cases h1 : evalOps G call lo [i] st with
    | none => rw [h1] at hr; simp at hr
    | some e =>
      obtain ⟨ex1, st1⟩ := e
      rw [h1] at hr
      refine op1 hc ho hko k hn h1 fun g1 a1 w1 e1 e2 k1 s1 => ?_
      cases ex1 with
      | normal =>
        simp only at hr
        exact ops_sound hc l is (by simpa using hl) (fun j i x a b => hall (j + 1) i x (by simpa using a) (by simpa using b)) k1 e1 hr (by rw [e2]; exact h.after s1)
      | pan v =>
        simp at hr; obtain ⟨rfl, rfl⟩ := hr
        exact h g1 a1 w1 e1 e2 k1 s1
      | exit id => simp at hr; obtain ⟨rfl, rfl⟩ := hr; exact h g1 a1 w1 e1 e2 k1 s1
      | ret => simp at hr; obtain ⟨rfl, rfl⟩ := hr; exact h g1 a1 w1 e1 e2 k1 s1
  | [], _ :: _, hl, _, _, _, _, _, _, _, _, _, _, _ => by simp at hl
  | _ :: _, [], hl, _, _, _, _, _, _, _, _, _, _, _ => by simp at hl
end
end Go.Proofs.Ytajlmldpbhendaa.Rf
