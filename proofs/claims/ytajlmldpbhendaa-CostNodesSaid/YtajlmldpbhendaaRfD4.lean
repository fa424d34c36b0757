/- Steps that may change places. -/
import Derived.Test.YtajlmldpbhendaaRfD3
set_option linter.unusedSimpArgs false
set_option linter.unusedVariables false
namespace Go.Proofs.Ytajlmldpbhendaa.Rf

def slotL : Option Nat → List Nat
  | some s => [s]
  | none => []
def footO (o : IOper) : Option Foot := (foot o.op).map fun F => ⟨slotL (o.guard.map (·.1)) ++ (F.rd ++ slotL o.dst), F.wr ++ slotL o.dst, F.hr, F.hw⟩
/-- the same to every look -/
def Eqv (st st' : St) : Prop := (∀ s, st'.fr.get s = st.fr.get s) ∧ st'.hp = st.hp
theorem Eqv.refl (st : St) : Eqv st st := ⟨fun _ => rfl, rfl⟩
theorem Eqv.trans {a b c : St} (h : Eqv a b) (k : Eqv b c) : Eqv a c := ⟨fun s => (k.1 s).trans (h.1 s), k.2.trans h.2⟩

section
variable {G : Nat → Option (List AV)} {call : CallF} {lo : Nat} {st st' : St} {F : Foot}

theorem noLast_iff {fr : Fr} {s : Nat} : fr.noLast s = true ↔ ∀ t u, fr.get t = .lastr u → u ≠ s := by
  refine ⟨fun h t u => Fr.noLast_get h, fun h => ?_⟩
  simp only [Fr.noLast, List.all_eq_true]
  intro e _
  cases hv : fr.get e.1 <;> simp only []
  rename_i u
  simpa using h _ _ hv
/-- from like states like steps: what is not tame is so too -/
theorem wild_op {i : IOp} (hf : foot i = none) (he : Eqv st st') {r : OpR} (h : evalOp G call lo i st = some r) : ∃ s1', evalOp G call lo i st' = some (r.as s1') ∧ Eqv r.stt s1' := by
  obtain ⟨e1, e2⟩ := he
  have ro : ∀ x, (opd st'.fr x).1 = (opd st.fr x).1 := fun x => (opd_on (x := x) fun s _ => e1 s).1
  cases i
  case panic x =>
    simp only [evalOp, ro] at h ⊢
    split at h
    · cases h; exact ⟨st', rfl, e1, e2⟩
    · cases h
  case load x m n agg tk =>
    cases m <;> simp only [foot] at hf <;> try (cases hf; done)
    rename_i r0
    simp only [evalOp, ro] at h ⊢
    split at h
    · cases h
    · rename_i hmm
      cases hp : (opd st.fr x).1 <;> rw [hp] at h hmm <;> simp only [memOk, behind] at h hmm <;> first | (simp at hmm; done) | (simp at h; done)
  case store x m v n =>
    have tk : ∀ s, (opd st'.fr v).2.get s = (opd st.fr v).2.get s := fun s => by
      have := (opd_on (x := v) (fr := st.fr) (fr' := st'.fr) fun s _ => e1 s).2
      by_cases hs : s ∈ opdW v
      · exact this.new s hs
      · rw [this.old' s hs, this.old s hs]; exact e1 s
    have ro2 : ∀ x, (opd (opd st'.fr v).2 x).1 = (opd (opd st.fr v).2 x).1 := fun x => (opd_on (x := x) fun s _ => tk s).1
    cases m with
    | loc r0 => simp [foot] at hf
    | heap => simp [foot] at hf
    | elem =>
      simp only [evalOp, ro, ro2] at h ⊢
      split at h
      · cases h
      · rename_i hmm
        simp only [not_or, Bool.not_eq_false] at hmm
        cases hp : (opd (opd st.fr v).2 x).1 <;> rw [hp] at h hmm <;> simp only [memOk, behind, behindPut] at h hmm <;> first | (simp at hmm; done) | (split at h <;> cases h; done)
    | last r0 =>
      simp only [evalOp, ro, ro2] at h ⊢
      split at h
      · cases h
      · rename_i hmm
        rw [if_neg hmm]
        simp only [not_or, Bool.not_eq_false] at hmm
        cases hp : (opd (opd st.fr v).2 x).1 <;> rw [hp] at h hmm <;> simp only [memOk] at h hmm <;> try (simp at hmm; done)
        rename_i s
        dsimp only
        simp only [tk]
        cases x <;> try (simp at h; done)
        rename_i p tk2
        cases hs : (opd st.fr v).2.get s <;> rw [hs] at h <;> try (simp at h; done)
        rename_i xs sz
        dsimp only at h ⊢
        split at h
        · rename_i hh; cases ret1_some h
          have hno : ((opd st'.fr v).2.set p .none).noLast s = true := by
            rw [noLast_iff]; intro t u ht
            rw [Fr.get_set, tk] at ht
            exact noLast_iff.1 hh.2.2.2 t u (by rw [Fr.get_set]; exact ht)
          refine ⟨{ st' with fr := ((opd st'.fr v).2.set p .none).set s (.list (xs ++ [(opd st.fr v).1.cp]) (.own sz)) }, by rw [if_pos ⟨hh.1, hh.2.1, hh.2.2.1, hno⟩]; rfl, fun t => ?_, e2⟩
          simp only [OpR.stt]
          rw [Fr.get_set, Fr.get_set, Fr.get_set, Fr.get_set, tk]
        · cases h
  all_goals first
    | (simp [foot] at hf; done)
    | (rename_i b _; cases b <;> simp [foot] at hf; done)
    | (rename_i b; cases b <;> simp [foot] at hf; done)
theorem like_eqv {s1 s1' : St} (he : Eqv st st') (h : Like F st s1 st' s1') : Eqv s1 s1' :=
  ⟨fun s => by
    by_cases hs : s ∈ F.wr
    · exact h.fr.new s hs
    · rw [h.fr.old' s hs, h.fr.old s hs]; exact he.1 s, h.hp' he.2⟩
theorem Eqv.clear (he : Eqv st st') : ClearF F st st' := ⟨fun s _ => he.1 s, by rw [he.2]; exact HpOn.rfl', fun _ => he.2⟩
theorem eqv_op (hq : CallQ call) {i : IOp} (he : Eqv st st') {r : OpR} (h : evalOp G call lo i st = some r) : ∃ s1', evalOp G call lo i st' = some (r.as s1') ∧ Eqv r.stt s1' := by
  cases hf : foot i with
  | none => exact wild_op hf he h
  | some F =>
    obtain ⟨s1', h1, h2⟩ := like_op hq hf he.clear h
    exact ⟨s1', h1, like_eqv he h2⟩

theorem wanted_on {fr fr' : Fr} {g : Option (Nat × Bool)} (h : FrOn (slotL (g.map (·.1))) fr fr') : wanted fr' g = wanted fr g := by
  cases g with
  | none => rfl
  | some x => obtain ⟨s, b⟩ := x; simp only [wanted]; rw [h s (by simp [slotL])]
theorem put_on {s s' s1 : St} {d : Option Nat} {v : AV} (h : FrOn (slotL d) s.fr s'.fr) (hp : s.put d v = some s1) : ∃ s1', s'.put d v = some s1' ∧ Moved (slotL d) s.fr s1.fr s'.fr s1'.fr ∧ s1.hp = s.hp ∧ s1'.hp = s'.hp := by
  cases d with
  | none => simp [St.put] at hp; subst hp; exact ⟨s', rfl, Moved.refl _ _, rfl, rfl⟩
  | some d =>
    simp only [St.put] at hp ⊢
    rw [h d (by simp [slotL])]
    split at hp
    · rename_i hl; cases hp
      exact ⟨{ s' with fr := s'.fr.set d v }, by rw [if_pos hl], Moved.set d v, rfl, rfl⟩
    · cases hp
theorem HpKeep.of {k : HpK} {a b c : List HObj} (h : HpKeep k a b) (e : c = b) : HpKeep k a c := by rw [e]; exact h
theorem opdW_R {x : Opd} {s : Nat} (h : s ∈ opdW x) : s ∈ opdR x := by
  cases x with
  | t s' tk => cases tk <;> simp [opdW, opdR] at h ⊢; exact h
  | c v => simp [opdW] at h
  | g v => simp [opdW] at h
  | f v => simp [opdW] at h
theorem opdsW_R : ∀ {xs : List Opd} {s : Nat}, s ∈ opdsW xs → s ∈ opdsR xs
  | [], s, h => by simp [opdsW] at h
  | x :: xs, s, h => by
    simp only [opdsW, opdsR, List.mem_append] at h ⊢
    rcases h with h | h
    · exact .inl (opdW_R h)
    · exact .inr (opdsW_R h)
theorem foot_wr_rd {i : IOp} {F : Foot} (h : foot i = some F) (s : Nat) (hs : s ∈ F.wr) : s ∈ F.rd := by
  cases i
  case load x m n agg tk =>
    cases m <;> simp only [foot] at h <;> cases h
    · cases tk <;> simp at hs ⊢; exact .inr hs
    · simp at hs
    · simp at hs
  case store x m v n =>
    cases m <;> simp only [foot] at h <;> cases h
    · simp only [List.mem_append] at hs ⊢
      rcases hs with hs | hs
      · exact .inl (opdW_R hs)
      · exact .inr (.inr hs)
    · simp only [List.mem_append]; exact .inl (opdW_R hs)
  case alloc heap cs => cases heap <;> simp only [foot] at h <;> cases h <;> simp at hs
  case box heap x => cases heap <;> simp only [foot] at h <;> cases h <;> exact opdW_R hs
  case len x kd => cases kd <;> simp only [foot] at h <;> cases h <;> simp at hs
  case panic => simp [foot] at h
  all_goals
    simp only [foot, Option.some.injEq] at h; subst h
    first
      | (simp at hs; done)
      | exact opdW_R hs
      | exact opdsW_R hs
      | exact List.mem_append_left _ (opdW_R hs)
      | exact List.mem_append_left _ (opdsW_R hs)
/-- one step, the like where what it reads is the like -/
theorem like_step (hq : CallQ call) {o : IOper} (hf : footO o = some F) (hc : ClearF F st st') {ex : Ex} {s1 : St} (h : evalOps G call lo [o] st = some (ex, s1)) :
    ∃ s1', evalOps G call lo [o] st' = some (ex, s1') ∧ (ex = .normal → Like F st s1 st' s1') ∧ (st'.hp = st.hp → s1'.hp = s1.hp) := by
  unfold footO at hf
  cases hf0 : foot o.op with
  | none => simp [hf0] at hf
  | some F0 =>
    simp [hf0] at hf; subst hf
    obtain ⟨c1, c2, c3⟩ := hc
    simp only at c1 c2 c3
    have c0 : ClearF F0 st st' := ⟨c1.right.left, c2, c3⟩
    have cd : FrOn (slotL o.dst) st.fr st'.fr := c1.right.right
    simp only [evalOps] at h ⊢
    rw [wanted_on c1.left]
    split at h
    · rename_i hw
      try simp only [hw]
      split at h
      · rename_i v s2 he
        obtain ⟨s2', h2, l2⟩ := like_op hq hf0 c0 he
        simp only [OpR.as] at h2
        simp only [OpR.stt] at l2
        rw [h2]
        simp only []
        split at h
        · rename_i s3 hp
          simp at h; obtain ⟨rfl, rfl⟩ := h
          have cd2 : FrOn (slotL o.dst) s2.fr s2'.fr := cd.moved l2.fr
          obtain ⟨s3', p1, p2, p3, p4⟩ := put_on cd2 hp
          rw [p1]
          refine ⟨s3', rfl, fun _ => ⟨l2.fr.trans p2, fun e => by rw [p4]; exact l2.hp e, fun e => by rw [p4, p3]; exact l2.hp' e, l2.keep.of p3⟩, fun e => by rw [p4, p3]; exact l2.hp' e⟩
        · cases h
      · rename_i v s2 he
        obtain ⟨s2', h2, l2⟩ := like_op hq hf0 c0 he
        simp only [OpR.as] at h2
        simp only [OpR.stt] at l2
        rw [h2]
        simp at h; obtain ⟨rfl, rfl⟩ := h
        exact ⟨s2', rfl, (fun e => by cases e), l2.hp'⟩
      · cases h
    · rename_i hw
      try simp only [hw]
      split at h
      · rename_i s3 hp
        simp at h; obtain ⟨rfl, rfl⟩ := h
        obtain ⟨s3', p1, p2, p3, p4⟩ := put_on cd hp
        rw [p1]
        refine ⟨s3', rfl, fun _ => ⟨?_, fun _ => p4, fun e => by rw [p4, p3]; exact e, ?_⟩, fun e => by rw [p4, p3]; exact e⟩
        · exact ⟨fun s hs => by
            by_cases hd : s ∈ slotL o.dst
            · exact p2.new s hd
            · have h1 : s ∈ F0.wr := by simpa [hd] using hs
              rw [p2.old' s hd, p2.old s hd]
              exact c1.right.left s (foot_wr_rd hf0 s h1), fun s hs => by simp at hs; exact p2.old' s hs.2, fun s hs => by simp at hs; exact p2.old s hs.2⟩
        · rw [p3]; cases F0.hw <;> simp [HpKeep, HpOn]
      · cases h
    · cases h
end
end Go.Proofs.Ytajlmldpbhendaa.Rf
