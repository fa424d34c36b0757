/- Any order comes to the same. -/
import Derived.Test.YtajlmldpbhendaaRfD4
set_option linter.unusedSimpArgs false
set_option linter.unusedVariables false
namespace Go.Proofs.Ytajlmldpbhendaa.Rf

def hpInd (a b : Foot) : Bool :=
  match a.hw with
  | .no => true
  | .cells => decide (b.hw = .no) && (match b.hr with | .no => true | .maps => true | _ => false)
  | .maps => decide (b.hw = .no) && (match b.hr with | .no => true | .cells => true | _ => false)
  | .all => decide (b.hw = .no) && (match b.hr with | .no => true | _ => false)
def disj : List Nat → List Nat → Bool
  | [], _ => true
  | x :: r, l => !l.contains x && disj r l
theorem disj_spec : ∀ {a b : List Nat}, disj a b = true → ∀ s, s ∈ a → s ∉ b
  | [], _, _, s, h => by simp at h
  | x :: r, l, h, s, hs => by
    simp only [disj, Bool.and_eq_true] at h
    rcases List.mem_cons.1 hs with rfl | hs
    · simpa using h.1
    · exact disj_spec h.2 s hs
def indep (a b : Foot) : Bool := disj a.wr b.rd && (disj a.wr b.wr && (disj b.wr a.rd && (hpInd a b && hpInd b a)))
def indO (x y : IOper) : Bool :=
  match footO x, footO y with
  | some a, some b => indep a b
  | _, _ => false

section
variable {G : Nat → Option (List AV)} {call : CallF} {lo : Nat} {st st' : St} {F : Foot}

theorem ClearF.refl (F : Foot) (st : St) : ClearF F st st := ⟨fun _ _ => rfl, HpOn.rfl', fun _ => rfl⟩
theorem like_step_self (hq : CallQ call) {o : IOper} (hf : footO o = some F) {s1 : St} (h : evalOps G call lo [o] st = some (.normal, s1)) : Like F st s1 st s1 := by
  obtain ⟨s1', h1, h2, _⟩ := like_step hq hf (ClearF.refl F st) h
  rw [h] at h1; simp at h1; subst h1
  exact h2 rfl
theorem hpOn_symm {k : HpK} {a b : List HObj} (h : HpOn k a b) : HpOn k b a := by
  cases k <;> simp only [HpOn] at h ⊢
  · exact fun i c => (h i c).symm
  · exact fun i c => (h i c).symm
  · exact h.symm
/-- b reads the same before and behind a -/
theorem hpInd_on {a b : Foot} (h : hpInd a b = true) {hp hp1 : List HObj} (k : HpKeep a.hw hp hp1) : HpOn b.hr hp1 hp ∧ (b.hw ≠ .no → hp = hp1) := by
  unfold hpInd at h
  split at h
  · rename_i e; rw [e] at k; simp only [HpKeep] at k; subst k; exact ⟨HpOn.rfl', fun _ => rfl⟩
  · rename_i e; rw [e] at k; simp only [HpKeep] at k
    simp only [Bool.and_eq_true, decide_eq_true_eq] at h
    refine ⟨?_, fun hn => absurd h.1 hn⟩
    cases hb : b.hr <;> rw [hb] at h <;> first | trivial | exact hpOn_symm k | (simp at h; done)
  · rename_i e; rw [e] at k; simp only [HpKeep] at k
    simp only [Bool.and_eq_true, decide_eq_true_eq] at h
    refine ⟨?_, fun hn => absurd h.1 hn⟩
    cases hb : b.hr <;> rw [hb] at h <;> first | trivial | exact hpOn_symm k | (simp at h; done)
  · simp only [Bool.and_eq_true, decide_eq_true_eq] at h
    refine ⟨?_, fun hn => absurd h.1 hn⟩
    cases hb : b.hr <;> rw [hb] at h <;> first | trivial | (simp at h; done)
theorem hpInd_no {a b : Foot} (h : hpInd a b = true) (hn : a.hw ≠ .no) : b.hw = .no := by
  unfold hpInd at h
  split at h
  · rename_i e; exact absurd e hn
  all_goals (simp only [Bool.and_eq_true, decide_eq_true_eq] at h; exact h.1)
/-- Two steps change places. -/
theorem swap (hq : CallQ call) {x y : IOper} (hi : indO x y = true) {s1 s2 : St} {ex : Ex} (h1 : evalOps G call lo [x] st = some (.normal, s1)) (h2 : evalOps G call lo [y] s1 = some (ex, s2)) :
    ∃ s1', evalOps G call lo [y] st = some (ex, s1') ∧ (ex = .normal → ∃ s2', evalOps G call lo [x] s1' = some (.normal, s2') ∧ Eqv s2 s2') ∧ (ex ≠ .normal → (∀ a, footO x = some a → a.hw = .no) → s1'.hp = s2.hp) := by
  unfold indO at hi
  cases hx : footO x with
  | none => simp [hx] at hi
  | some a =>
    cases hy : footO y with
    | none => simp [hx, hy] at hi
    | some b =>
      simp only [hx, hy, indep, Bool.and_eq_true] at hi
      obtain ⟨i1, i2, i3, i4, i5⟩ := hi
      have la := like_step_self hq hx h1
      obtain ⟨o1, o2⟩ := hpInd_on i4 la.keep
      have cb : ClearF b s1 st := ⟨fun s hs => (la.fr.old s (fun h => disj_spec i1 s h hs)).symm, o1, o2⟩
      obtain ⟨s1', e1, l1, l1'⟩ := like_step hq hy cb h2
      refine ⟨s1', e1, fun en => ?_, fun _ hno => l1' (by have := hno a rfl; exact (la.hp this).symm)⟩
      subst en
      have lb := l1 rfl
      have lbs := like_step_self hq hy e1
      obtain ⟨o3, o4⟩ := hpInd_on i5 lbs.keep
      have ca : ClearF a st s1' := ⟨fun s hs => lbs.fr.old s (fun h => disj_spec i3 s h hs), hpOn_symm o3, fun hn => (o4 hn).symm⟩
      obtain ⟨s2', e2, l2, l2'⟩ := like_step hq hx ca h1
      have l2 := l2 rfl
      refine ⟨s2', e2, fun s => ?_, ?_⟩
      · by_cases ha : s ∈ a.wr
        · rw [l2.fr.new s ha, lb.fr.old s (disj_spec i2 s ha)]
        · rw [l2.fr.old' s ha]
          by_cases hb : s ∈ b.wr
          · exact lb.fr.new s hb
          · rw [lb.fr.old' s hb, lb.fr.old s hb, la.fr.old s ha]
      · by_cases hn : a.hw = .no
        · rw [l2.hp hn]
          exact lb.hp' (la.hp hn).symm
        · have hb := hpInd_no i4 hn
          rw [l2' (lb.hp hb)]
          exact (like_step_self hq hy h2).hp hb |>.symm

theorem eqv_step (hq : CallQ call) {o : IOper} (he : Eqv st st') {ex : Ex} {s1 : St} (h : evalOps G call lo [o] st = some (ex, s1)) : ∃ s1', evalOps G call lo [o] st' = some (ex, s1') ∧ Eqv s1 s1' := by
  have hw : wanted st'.fr o.guard = wanted st.fr o.guard := wanted_on fun s _ => he.1 s
  have hput : ∀ {s s' s3 : St} {v : AV}, Eqv s s' → s.put o.dst v = some s3 → ∃ s3', s'.put o.dst v = some s3' ∧ Eqv s3 s3' := fun {s s' s3 v} e hp => by
    obtain ⟨s3', p1, p2, p3, p4⟩ := put_on (fun t _ => e.1 t) hp
    refine ⟨s3', p1, fun t => ?_, by rw [p4, p3]; exact e.2⟩
    by_cases ht : t ∈ slotL o.dst
    · exact p2.new t ht
    · rw [p2.old' t ht, p2.old t ht]; exact e.1 t
  simp only [evalOps, hw] at h ⊢
  split at h
  · split at h
    · rename_i v s2 ho
      obtain ⟨s2', h2, l2⟩ := eqv_op hq he ho
      simp only [OpR.as] at h2
      simp only [OpR.stt] at l2
      rw [h2]
      split at h
      · rename_i s3 hp
        simp at h; obtain ⟨rfl, rfl⟩ := h
        obtain ⟨s3', p1, p2⟩ := hput l2 hp
        exact ⟨s3', by simp [p1], p2⟩
      · cases h
    · rename_i v s2 ho
      obtain ⟨s2', h2, l2⟩ := eqv_op hq he ho
      simp only [OpR.as] at h2
      simp only [OpR.stt] at l2
      rw [h2]
      simp at h; obtain ⟨rfl, rfl⟩ := h
      exact ⟨s2', rfl, l2⟩
    · cases h
  · split at h
    · rename_i s3 hp
      simp at h; obtain ⟨rfl, rfl⟩ := h
      obtain ⟨s3', p1, p2⟩ := hput he hp
      exact ⟨s3', by simp [p1], p2⟩
    · cases h
  · cases h
variable {ops : List IOper} {pans : List Nat}
theorem evalDraw_cons {i : Nat} {r : List Nat} {ex : Ex} {s : St} (h : evalDraw G call lo ops pans (i :: r) st = some (ex, s)) :
    ∃ o, ops[i]? = some o ∧ ((∃ s1, evalOps G call lo [o] st = some (.normal, s1) ∧ evalDraw G call lo ops pans r s1 = some (ex, s)) ∨
      (∃ v s1, evalOps G call lo [o] st = some (.pan v, s1) ∧ i ∈ pans ∧ ex = .pan v ∧ s = ⟨[], s1.hp⟩)) := by
  simp only [evalDraw] at h
  split at h
  · cases h
  · rename_i o ho
    refine ⟨o, ho, ?_⟩
    split at h
    · rename_i s1 he; exact .inl ⟨s1, he, h⟩
    · rename_i v s1 he
      split at h
      · rename_i hp; simp at h; obtain ⟨rfl, rfl⟩ := h; exact .inr ⟨v, s1, he, by simpa using hp, rfl, rfl⟩
      · cases h
    · cases h
theorem evalDraw_normal {i : Nat} {r : List Nat} {o : IOper} (ho : ops[i]? = some o) {s1 : St} (h : evalOps G call lo [o] st = some (.normal, s1)) : evalDraw G call lo ops pans (i :: r) st = evalDraw G call lo ops pans r s1 := by
  simp only [evalDraw, ho, h]
theorem evalDraw_pan {i : Nat} {r : List Nat} {o : IOper} (ho : ops[i]? = some o) {s1 : St} {v : AV} (h : evalOps G call lo [o] st = some (.pan v, s1)) (hp : i ∈ pans) : evalDraw G call lo ops pans (i :: r) st = some (.pan v, ⟨[], s1.hp⟩) := by
  have : pans.contains i = true := by simpa using hp
  simp only [evalDraw, ho, h, this, if_true]
theorem eqv_draw (hq : CallQ call) : ∀ {r : List Nat} {st st' : St} {ex : Ex} {s : St}, Eqv st st' → evalDraw G call lo ops pans r st = some (ex, s) → ∃ s', evalDraw G call lo ops pans r st' = some (ex, s') ∧ Eqv s s'
  | [], st, st', ex, s, he, h => by simp [evalDraw] at h; obtain ⟨rfl, rfl⟩ := h; exact ⟨st', rfl, he⟩
  | i :: r, st, st', ex, s, he, h => by
    obtain ⟨o, ho, h⟩ := evalDraw_cons h
    rcases h with ⟨s1, h1, h2⟩ | ⟨v, s1, h1, hp, rfl, rfl⟩
    · obtain ⟨s1', e1, e2⟩ := eqv_step hq he h1
      obtain ⟨s', f1, f2⟩ := eqv_draw hq e2 h2
      exact ⟨s', by rw [evalDraw_normal ho e1]; exact f1, f2⟩
    · obtain ⟨s1', e1, e2⟩ := eqv_step hq he h1
      exact ⟨⟨[], s1'.hp⟩, evalDraw_pan ho e1 hp, fun _ => rfl, e2.2⟩
/-- One of them goes first. -/
theorem front (hq : CallQ call) {i : Nat} {r : List Nat} : ∀ {as : List Nat} {st : St} {ex : Ex} {s : St}, (∀ x, x ∈ as → x ∉ pans ∧ ∀ ox oi, ops[x]? = some ox → ops[i]? = some oi → indO ox oi = true ∧ (i ∈ pans → ∀ a, footO ox = some a → a.hw = .no)) →
    evalDraw G call lo ops pans (as ++ i :: r) st = some (ex, s) → ∃ s', evalDraw G call lo ops pans (i :: (as ++ r)) st = some (ex, s') ∧ Eqv s s'
  | [], st, ex, s, _, h => ⟨s, h, Eqv.refl s⟩
  | x :: as, st, ex, s, hall, h => by
    obtain ⟨ox, hox, h⟩ := evalDraw_cons h
    obtain ⟨hxp, hx⟩ := hall x (by simp)
    rcases h with ⟨s1, h1, h2⟩ | ⟨v, s1, h1, hp, _, _⟩
    · obtain ⟨s', f1, f2⟩ := front hq (fun y hy => hall y (by simp [hy])) h2
      obtain ⟨oi, hoi, f1⟩ := evalDraw_cons f1
      obtain ⟨hind, hno⟩ := hx ox oi hox hoi
      rcases f1 with ⟨s2, g1, g2⟩ | ⟨v, s2, g1, hp, rfl, rfl⟩
      · obtain ⟨s1', e1, e2, _⟩ := swap hq hind h1 g1
        obtain ⟨s2', e3, e4⟩ := e2 rfl
        obtain ⟨s'', k1, k2⟩ := eqv_draw hq e4 g2
        refine ⟨s'', ?_, f2.trans k2⟩
        rw [evalDraw_normal hoi e1, List.cons_append, evalDraw_normal hox e3]; exact k1
      · obtain ⟨s1', e1, _, e3⟩ := swap hq hind h1 g1
        have := e3 (by simp) (hno hp)
        refine ⟨⟨[], s1'.hp⟩, evalDraw_pan hoi e1 hp, f2.trans ⟨fun _ => rfl, this⟩⟩
    · exact absurd hp hxp
end
end Go.Proofs.Ytajlmldpbhendaa.Rf
