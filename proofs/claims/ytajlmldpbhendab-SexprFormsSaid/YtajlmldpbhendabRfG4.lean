/- What an operation reads and writes. -/
import Derived.Test.YtajlmldpbhendabRfG3
section
set_option linter.unusedSimpArgs false
set_option linter.unusedVariables false
namespace Go.Proofs.Ytajlmldpbhendab.Rf

def opdR : Opd → List Nat
  | .t s _ => [s]
  | _ => []
def opdW : Opd → List Nat
  | .t s true => [s]
  | _ => []
def opdsR : List Opd → List Nat
  | [] => []
  | x :: r => opdR x ++ opdsR r
def opdsW : List Opd → List Nat
  | [] => []
  | x :: r => opdW x ++ opdsW r
def optR : Option Opd → List Nat
  | none => []
  | some x => opdR x
def memR : Mem → List Nat
  | .loc r => [r]
  | .last r => [r]
  | _ => []
/-- Which part of the heap: none, the variables, the maps, all. -/
inductive HpK where
  | no | cells | maps | all
  deriving DecidableEq
structure Foot where
  rd : List Nat
  wr : List Nat
  hr : HpK
  hw : HpK
def foot : IOp → Option Foot
  | .mv x => some ⟨opdR x, opdW x, .no, .no⟩
  | .pick c a b => some ⟨opdR c ++ (opdR a ++ opdR b), [], .no, .no⟩
  | .alloc heap _ _ => if heap then some ⟨[], [], .all, .all⟩ else some ⟨[], [], .no, .no⟩
  | .box heap x => if heap then some ⟨opdR x, opdW x, .all, .all⟩ else some ⟨opdR x, opdW x, .no, .no⟩
  | .build _ ps => some ⟨opdsR (ps.map (·.2.2)), opdsW (ps.map (·.2.2)), .no, .no⟩
  | .bslice _ _ _ ps => some ⟨opdsR (ps.map (·.2)), opdsW (ps.map (·.2)), .no, .no⟩
  | .load x (.loc r) _ _ tk => some ⟨opdR x ++ [r], if tk then [r] else [], .no, .no⟩
  | .load x .heap _ _ tk => some ⟨opdR x, [], .cells, if tk then .cells else .no⟩
  | .load x .elem _ _ tk => some ⟨opdR x, [], .no, .no⟩
  | .load _ (.last _) _ _ _ => none
  | .store x (.loc r) v _ => some ⟨opdR v ++ (opdR x ++ [r]), opdW v ++ [r], .no, .no⟩
  | .store x .heap v _ => some ⟨opdR v ++ opdR x, opdW v, .cells, .cells⟩
  | .store _ _ _ _ => none
  | .nilchk x => some ⟨opdR x, [], .no, .no⟩
  | .bin _ x y => some ⟨opdR x ++ opdR y, [], .no, .no⟩
  | .eq _ _ x y => some ⟨opdR x ++ opdR y, [], .no, .no⟩
  | .un _ x => some ⟨opdR x, [], .no, .no⟩
  | .conv _ x => some ⟨opdR x, [], .no, .no⟩
  | .sconv x => some ⟨opdR x, [], .no, .no⟩
  | .mkiface _ x => some ⟨opdR x, opdW x, .no, .no⟩
  | .mkfunc _ xs => some ⟨opdsR xs, opdsW xs, .no, .no⟩
  | .mkmap => some ⟨[], [], .all, .all⟩
  | .faddr x _ => some ⟨opdR x, [], .no, .no⟩
  | .field x _ _ _ => some ⟨opdR x, [], .no, .no⟩
  | .iaddrL x i _ => some ⟨opdR x ++ opdR i, [], .no, .no⟩
  | .iaddrA x i _ _ => some ⟨opdR x ++ opdR i, [], .no, .no⟩
  | .idxS x i => some ⟨opdR x ++ opdR i, [], .no, .no⟩
  | .slcS x a b => some ⟨opdR x ++ (optR a ++ optR b), [], .no, .no⟩
  | .slcL x a b _ => some ⟨opdR x ++ (optR a ++ optR b), [], .no, .no⟩
  | .lookup _ m k _ _ tk => some ⟨opdR m ++ opdR k, [], .maps, if tk then .maps else .no⟩
  | .mapset _ m k v _ => some ⟨opdR v ++ (opdR m ++ opdR k), opdW v, .maps, .maps⟩
  | .len x .map => some ⟨opdR x, [], .maps, .no⟩
  | .len x _ => some ⟨opdR x, [], .no, .no⟩
  | .konst _ => some ⟨[], [], .no, .no⟩
  | .append x y _ _ _ _ => some ⟨opdR x ++ opdR y, opdW x, .no, .no⟩
  | .min x y => some ⟨opdR x ++ opdR y, [], .no, .no⟩
  | .max x y => some ⟨opdR x ++ opdR y, [], .no, .no⟩
  | .extract x _ => some ⟨opdR x, opdW x, .no, .no⟩
  | .assert x _ _ _ => some ⟨opdR x, [], .no, .no⟩
  | .panic _ => none
  | .sdata x _ => some ⟨opdR x, [], .no, .no⟩
  | .ustr p n _ => some ⟨opdR p ++ opdR n, [], .no, .no⟩
  | .uptr x _ _ => some ⟨opdR x, [], .cells, .no⟩
  | .ident _ x => some ⟨opdR x, [], .no, .no⟩
  | .mkslice _ _ n c _ => some ⟨opdR n ++ opdR c, [], .no, .no⟩
  | .call f xs q => some ⟨opdsR xs ++ opdR f, opdsW xs, .all, if q then .no else .all⟩

def FrOn (S : List Nat) (fr fr' : Fr) : Prop := ∀ s, s ∈ S → fr'.get s = fr.get s
/-- The like change in two frames. -/
structure Moved (W : List Nat) (fr fr1 fr' fr1' : Fr) : Prop where
  new : ∀ s, s ∈ W → fr1'.get s = fr1.get s
  old' : ∀ s, s ∉ W → fr1'.get s = fr'.get s
  old : ∀ s, s ∉ W → fr1.get s = fr.get s
def HpOn (k : HpK) (hp hp' : List HObj) : Prop :=
  match k with
  | .no => True
  | .cells => ∀ (id : Nat) (ty : Nat) (cs : List AV), hp[id]? = some (.cells ty cs) ↔ hp'[id]? = some (.cells ty cs)
  | .maps => ∀ (id : Nat) (es : List (AV × AV)), hp[id]? = some (.map es) ↔ hp'[id]? = some (.map es)
  | .all => hp' = hp
/-- What a heap's writer leaves as it was. -/
def HpKeep (k : HpK) (hp hp1 : List HObj) : Prop :=
  match k with
  | .no => hp1 = hp
  | .cells => HpOn .maps hp hp1
  | .maps => HpOn .cells hp hp1
  | .all => True
/-- The like change in two states. -/
structure Like (F : Foot) (st s1 st' s1' : St) : Prop where
  fr : Moved F.wr st.fr s1.fr st'.fr s1'.fr
  hp : F.hw = .no → s1'.hp = st'.hp
  hp' : st'.hp = st.hp → s1'.hp = s1.hp
  keep : HpKeep F.hw st.hp s1.hp

section
variable {G : Nat → Option (List AV)} {call : CallF} {lo : Nat}

theorem Moved.refl (fr fr' : Fr) : Moved [] fr fr fr' fr' := ⟨fun s h => by simp at h, fun _ _ => rfl, fun _ _ => rfl⟩
theorem FrOn.left {S T : List Nat} {fr fr' : Fr} (h : FrOn (S ++ T) fr fr') : FrOn S fr fr' := fun s hs => h s (List.mem_append_left _ hs)
theorem FrOn.right {S T : List Nat} {fr fr' : Fr} (h : FrOn (S ++ T) fr fr') : FrOn T fr fr' := fun s hs => h s (List.mem_append_right _ hs)
theorem FrOn.moved {S W : List Nat} {fr fr1 fr' fr1' : Fr} (h : FrOn S fr fr') (m : Moved W fr fr1 fr' fr1') : FrOn S fr1 fr1' := fun s hs => by
  by_cases hw : s ∈ W
  · exact m.new s hw
  · rw [m.old' s hw, m.old s hw]; exact h s hs
theorem Moved.trans {W1 W2 : List Nat} {a b c a' b' c' : Fr} (h : Moved W1 a b a' b') (k : Moved W2 b c b' c') : Moved (W1 ++ W2) a c a' c' :=
  ⟨fun s hs => by
      by_cases h2 : s ∈ W2
      · exact k.new s h2
      · have h1 : s ∈ W1 := by simpa [h2] using hs
        rw [k.old' s h2, k.old s h2]; exact h.new s h1,
   fun s hs => by simp at hs; rw [k.old' s hs.2, h.old' s hs.1], fun s hs => by simp at hs; rw [k.old s hs.2, h.old s hs.1]⟩
theorem Moved.set {fr fr' : Fr} (s : Nat) (v : AV) : Moved [s] fr (fr.set s v) fr' (fr'.set s v) :=
  ⟨fun t ht => by simp at ht; subst ht; rw [Fr.get_set, Fr.get_set]; simp, fun t ht => by simp at ht; rw [Fr.get_set, if_neg (fun e => ht e.symm)], fun t ht => by simp at ht; rw [Fr.get_set, if_neg (fun e => ht e.symm)]⟩
theorem Moved.more {W W' : List Nat} {a b a' b' : Fr} (h : Moved W a b a' b') (k : ∀ s, s ∈ W → s ∈ W') (hn : FrOn W' a a') : Moved W' a b a' b' :=
  ⟨fun s hs => by
      by_cases hw : s ∈ W
      · exact h.new s hw
      · rw [h.old' s hw, h.old s hw]; exact hn s hs, fun s hs => h.old' s (fun h => hs (k s h)), fun s hs => h.old s (fun h => hs (k s h))⟩
theorem opd_on {fr fr' : Fr} {x : Opd} (h : FrOn (opdR x) fr fr') : (opd fr' x).1 = (opd fr x).1 ∧ Moved (opdW x) fr (opd fr x).2 fr' (opd fr' x).2 := by
  cases x with
  | t s tk =>
    have e : fr'.get s = fr.get s := h s (by simp [opdR])
    have m0 : Moved [s] fr fr fr' fr' := (Moved.refl fr fr').more (by simp) (fun t ht => by simp at ht; subst ht; exact e)
    simp only [opd, e]
    cases tk with
    | true =>
      simp only [opdW]
      cases fr.get s <;> simp only [if_true] <;> first
        | exact ⟨trivial, Moved.set s _⟩
        | exact ⟨trivial, m0⟩
    | false =>
      simp only [opdW]
      cases fr.get s <;> simp only [Bool.false_eq_true, if_false] <;> exact ⟨trivial, Moved.refl _ _⟩
  | c v => exact ⟨rfl, Moved.refl _ _⟩
  | g a => exact ⟨rfl, Moved.refl _ _⟩
  | f a => exact ⟨rfl, Moved.refl _ _⟩
theorem opds_on : ∀ {xs : List Opd} {fr fr' : Fr}, FrOn (opdsR xs) fr fr' → (opds fr' xs).1 = (opds fr xs).1 ∧ Moved (opdsW xs) fr (opds fr xs).2 fr' (opds fr' xs).2
  | [], fr, fr', _ => ⟨rfl, Moved.refl _ _⟩
  | x :: xs, fr, fr', h => by
    obtain ⟨h1, h2⟩ := opd_on h.left
    obtain ⟨h3, h4⟩ := opds_on (h.right.moved h2)
    simp only [opds]
    exact ⟨by rw [h1, h3], h2.trans h4⟩
theorem bound_on {fr fr' : Fr} {x : Option Opd} (h : FrOn (optR x) fr fr') (d : Nat) : bound fr' d x = bound fr d x := by
  cases x with
  | none => rfl
  | some x => simp only [bound]; rw [(opd_on (x := x) h).1]
theorem HpOn.rfl' {k : HpK} {hp : List HObj} : HpOn k hp hp := by cases k <;> simp [HpOn]
theorem Like.same {F : Foot} {st st' : St} (h : F.wr = []) (hw : F.hw = .no) : Like F st st st' st' :=
  ⟨by rw [h]; exact Moved.refl _ _, fun _ => rfl, fun h => h, by rw [hw]; rfl⟩
theorem Like.take {F : Foot} {st st' : St} {fr1 fr1' : Fr} (h : Moved F.wr st.fr fr1 st'.fr fr1') (hw : F.hw = .no) : Like F st { st with fr := fr1 } st' { st' with fr := fr1' } :=
  ⟨h, fun _ => rfl, fun h => h, by rw [hw]; rfl⟩
def ClearF (F : Foot) (st st' : St) : Prop := FrOn F.rd st.fr st'.fr ∧ HpOn F.hr st.hp st'.hp ∧ (F.hw ≠ .no → st'.hp = st.hp)
/-- what a quiet call owes -/
def CallQ (call : CallF) : Prop := ∀ f vs hp lo r, call f vs hp lo true = some r → r.hp = hp
end
end Go.Proofs.Ytajlmldpbhendab.Rf
end
section
/- An operation does the like where what it reads is the like. -/
set_option linter.unusedSimpArgs false
set_option linter.unusedVariables false
namespace Go.Proofs.Ytajlmldpbhendab.Rf

/-- the same answer, from another state -/
def OpR.as (r : OpR) (s : St) : OpR :=
  match r with
  | .val v _ => .val v s
  | .pan v _ => .pan v s
section
variable {G : Nat → Option (List AV)} {call : CallF} {lo : Nat} {st st' : St} {F : Foot}

theorem cells_at {k : HpK} {hp hp' : List HObj} (h : HpOn k hp hp') (hk : k = .cells ∨ k = .all) {id : Nat} {ty : Nat} {cs : List AV} (e : hp[id]? = some (.cells ty cs)) : hp'[id]? = some (.cells ty cs) := by
  rcases hk with rfl | rfl
  · exact (h id ty cs).1 e
  · simp only [HpOn] at h; rw [h]; exact e
theorem maps_at {k : HpK} {hp hp' : List HObj} (h : HpOn k hp hp') (hk : k = .maps ∨ k = .all) {id : Nat} {cs : List (AV × AV)} (e : hp[id]? = some (.map cs)) : hp'[id]? = some (.map cs) := by
  rcases hk with rfl | rfl
  · exact (h id cs).1 e
  · simp only [HpOn] at h; rw [h]; exact e
theorem keep_set_map {hp : List HObj} {id : Nat} {es es' : List (AV × AV)} (h : hp[id]? = some (.map es)) : HpOn .cells hp (hp.set id (.map es')) := fun i ty cs => by
  rw [List.getElem?_set]
  by_cases e : id = i
  · subst e; simp only [if_true]; rw [h]; simp
  · rw [if_neg e]
theorem keep_set_cells {hp : List HObj} {id : Nat} {ty : Nat} {es es' : List AV} (h : hp[id]? = some (.cells ty es)) : HpOn .maps hp (hp.set id (.cells ty es')) := fun i cs => by
  rw [List.getElem?_set]
  by_cases e : id = i
  · subst e; simp only [if_true]; rw [h]; simp
  · rw [if_neg e]


theorem like_op_pure {i : IOp} (hf : foot i = some F) (hc : FrOn F.rd st.fr st'.fr) {r : OpR} (h : evalOp G call lo i st = some r)
    (hi : match i with | .pick .. | .nilchk _ | .bin .. | .eq .. | .un .. | .conv .. | .sconv _ | .faddr .. | .field .. | .idxS .. | .konst _ | .min .. | .max .. | .assert .. | .iaddrA .. | .slcS .. | .slcL .. | .len _ .list | .len _ .str | .sdata .. | .ustr .. | .ident .. | .mkslice .. => True | _ => False) :
    ∃ s1', evalOp G call lo i st' = some (r.as s1') ∧ Like F st r.stt st' s1' := by
  cases i <;> try exact hi.elim
  case pick c a b =>
    simp only [foot, Option.some.injEq] at hf; subst hf
    have h1 := (opd_on (x := c) hc.left).1
    have h2 := (opd_on (x := a) hc.right.left).1
    have h3 := (opd_on (x := b) hc.right.right).1
    simp only [evalOp, h1, h2, h3] at h ⊢
    repeat' split at h
    all_goals first
      | (cases h; done)
      | (exfalso; contradiction)
      | (cases ret1_some h
         refine ⟨st', ?_, Like.same rfl rfl⟩
         simp only [OpR.as, ret1, *, if_true, if_false, and_self]
         first | done | rfl)
  case nilchk x =>
    simp only [foot, Option.some.injEq] at hf; subst hf
    have h1 := (opd_on (x := x) hc).1
    simp only [evalOp, h1] at h ⊢
    repeat' split at h
    all_goals first
      | (cases h; done)
      | (exfalso; contradiction)
      | (cases ret1_some h
         refine ⟨st', ?_, Like.same rfl rfl⟩
         simp only [OpR.as, ret1, *, if_true, if_false, and_self]
         first | done | rfl)
  case bin op x y =>
    simp only [foot, Option.some.injEq] at hf; subst hf
    have h1 := (opd_on (x := x) hc.left).1
    have h2 := (opd_on (x := y) hc.right).1
    simp only [evalOp, h1, h2] at h ⊢
    repeat' split at h
    all_goals first
      | (cases h; done)
      | (exfalso; contradiction)
      | (cases ret1_some h
         refine ⟨st', ?_, Like.same rfl rfl⟩
         simp only [OpR.as, ret1, *, if_true, if_false, and_self]
         first | done | rfl)
  case eq n k x y =>
    simp only [foot, Option.some.injEq] at hf; subst hf
    have h1 := (opd_on (x := x) hc.left).1
    have h2 := (opd_on (x := y) hc.right).1
    simp only [evalOp, h1, h2] at h ⊢
    repeat' split at h
    all_goals first
      | (cases h; done)
      | (exfalso; contradiction)
      | (cases ret1_some h
         refine ⟨st', ?_, Like.same rfl rfl⟩
         simp only [OpR.as, ret1, *, if_true, if_false, and_self]
         first | done | rfl)
  case un op x =>
    simp only [foot, Option.some.injEq] at hf; subst hf
    have h1 := (opd_on (x := x) hc).1
    simp only [evalOp, h1] at h ⊢
    repeat' split at h
    all_goals first
      | (cases h; done)
      | (exfalso; contradiction)
      | (cases ret1_some h
         refine ⟨st', ?_, Like.same rfl rfl⟩
         simp only [OpR.as, ret1, *, if_true, if_false, and_self]
         first | done | rfl)
  case conv op x =>
    simp only [foot, Option.some.injEq] at hf; subst hf
    have h1 := (opd_on (x := x) hc).1
    simp only [evalOp, h1] at h ⊢
    repeat' split at h
    all_goals first
      | (cases h; done)
      | (exfalso; contradiction)
      | (cases ret1_some h
         refine ⟨st', ?_, Like.same rfl rfl⟩
         simp only [OpR.as, ret1, *, if_true, if_false, and_self]
         first | done | rfl)
  case sconv x =>
    simp only [foot, Option.some.injEq] at hf; subst hf
    have h1 := (opd_on (x := x) hc).1
    simp only [evalOp, h1] at h ⊢
    repeat' split at h
    all_goals first
      | (cases h; done)
      | (exfalso; contradiction)
      | (cases ret1_some h
         refine ⟨st', ?_, Like.same rfl rfl⟩
         simp only [OpR.as, ret1, *, if_true, if_false, and_self]
         first | done | rfl)
  case faddr x o =>
    simp only [foot, Option.some.injEq] at hf; subst hf
    have h1 := (opd_on (x := x) hc).1
    simp only [evalOp, h1] at h ⊢
    repeat' split at h
    all_goals first
      | (cases h; done)
      | (exfalso; contradiction)
      | (cases ret1_some h
         refine ⟨st', ?_, Like.same rfl rfl⟩
         simp only [OpR.as, ret1, *, if_true, if_false, and_self]
         first | done | rfl)
  case field x o n a =>
    simp only [foot, Option.some.injEq] at hf; subst hf
    have h1 := (opd_on (x := x) hc).1
    simp only [evalOp, h1] at h ⊢
    repeat' split at h
    all_goals first
      | (cases h; done)
      | (exfalso; contradiction)
      | (cases ret1_some h
         refine ⟨st', ?_, Like.same rfl rfl⟩
         simp only [OpR.as, ret1, *, if_true, if_false, and_self]
         first | done | rfl)
  case idxS x y =>
    simp only [foot, Option.some.injEq] at hf; subst hf
    have h1 := (opd_on (x := x) hc.left).1
    have h2 := (opd_on (x := y) hc.right).1
    simp only [evalOp, h1, h2] at h ⊢
    repeat' split at h
    all_goals first
      | (cases h; done)
      | (exfalso; contradiction)
      | (cases ret1_some h
         refine ⟨st', ?_, Like.same rfl rfl⟩
         simp only [OpR.as, ret1, *, if_true, if_false, and_self]
         first | done | rfl)
  case konst v =>
    simp only [foot, Option.some.injEq] at hf; subst hf
    simp only [evalOp] at h ⊢
    repeat' split at h
    all_goals first
      | (cases h; done)
      | (exfalso; contradiction)
      | (cases ret1_some h
         refine ⟨st', ?_, Like.same rfl rfl⟩
         simp only [OpR.as, ret1, *, if_true, if_false, and_self]
         first | done | rfl)
  case min x y =>
    simp only [foot, Option.some.injEq] at hf; subst hf
    have h1 := (opd_on (x := x) hc.left).1
    have h2 := (opd_on (x := y) hc.right).1
    simp only [evalOp, h1, h2] at h ⊢
    repeat' split at h
    all_goals first
      | (cases h; done)
      | (exfalso; contradiction)
      | (cases ret1_some h
         refine ⟨st', ?_, Like.same rfl rfl⟩
         simp only [OpR.as, ret1, *, if_true, if_false, and_self]
         first | done | rfl)
  case max x y =>
    simp only [foot, Option.some.injEq] at hf; subst hf
    have h1 := (opd_on (x := x) hc.left).1
    have h2 := (opd_on (x := y) hc.right).1
    simp only [evalOp, h1, h2] at h ⊢
    repeat' split at h
    all_goals first
      | (cases h; done)
      | (exfalso; contradiction)
      | (cases ret1_some h
         refine ⟨st', ?_, Like.same rfl rfl⟩
         simp only [OpR.as, ret1, *, if_true, if_false, and_self]
         first | done | rfl)
  case assert x t z ok =>
    simp only [foot, Option.some.injEq] at hf; subst hf
    have h1 := (opd_on (x := x) hc).1
    simp only [evalOp, h1] at h ⊢
    repeat' split at h
    all_goals first
      | (cases h; done)
      | (exfalso; contradiction)
      | (cases ret1_some h
         refine ⟨st', ?_, Like.same rfl rfl⟩
         simp only [OpR.as, ret1, *, if_true, if_false, and_self]
         first | done | rfl)
  case iaddrA x y len sz =>
    simp only [foot, Option.some.injEq] at hf; subst hf
    have h1 := (opd_on (x := x) hc.left).1
    have h2 := (opd_on (x := y) hc.right).1
    simp only [evalOp, h1, h2] at h ⊢
    repeat' split at h
    all_goals first
      | (cases h; done)
      | (exfalso; contradiction)
      | (cases ret1_some h
         refine ⟨st', ?_, Like.same rfl rfl⟩
         simp only [OpR.as, ret1, *, if_true, if_false, and_self]
         first | done | rfl)
  case slcS x a b =>
    simp only [foot, Option.some.injEq] at hf; subst hf
    have h1 := (opd_on (x := x) hc.left).1
    have h2 := fun d => bound_on (x := a) hc.right.left d
    have h3 := fun d => bound_on (x := b) hc.right.right d
    simp only [evalOp, h1, h2, h3] at h ⊢
    repeat' split at h
    all_goals first
      | (cases h; done)
      | (exfalso; contradiction)
      | (cases ret1_some h
         refine ⟨st', ?_, Like.same rfl rfl⟩
         simp only [OpR.as, ret1, *, if_true, if_false, and_self]
         first | done | rfl)
  case slcL x a b sz =>
    simp only [foot, Option.some.injEq] at hf; subst hf
    have h1 := (opd_on (x := x) hc.left).1
    have h2 := fun d => bound_on (x := a) hc.right.left d
    have h3 := fun d => bound_on (x := b) hc.right.right d
    simp only [evalOp, h1, h2, h3] at h ⊢
    repeat' split at h
    all_goals first
      | (cases h; done)
      | (exfalso; contradiction)
      | (cases ret1_some h
         refine ⟨st', ?_, Like.same rfl rfl⟩
         simp only [OpR.as, ret1, *, if_true, if_false, and_self]
         first | done | rfl)
  case sdata x e =>
    simp only [foot, Option.some.injEq] at hf; subst hf
    have h1 := (opd_on (x := x) hc).1
    simp only [evalOp, h1] at h ⊢
    clear hi
    generalize (opd st.fr x).1 = v at h ⊢
    cases v <;> try (cases h; done)
    rename_i xs o
    cases o <;> try (cases h; done)
    · cases ret1_some h; exact ⟨st', rfl, Like.same rfl rfl⟩
    · simp only at h ⊢
      split at h
      · rename_i hq; cases ret1_some h; exact ⟨st', by rw [if_pos hq]; rfl, Like.same rfl rfl⟩
      · cases h
  case ustr x y e =>
    simp only [foot, Option.some.injEq] at hf; subst hf
    have h1 := (opd_on (x := x) hc.left).1
    have h2 := (opd_on (x := y) hc.right).1
    simp only [evalOp, h1, h2] at h ⊢
    clear hi
    generalize (opd st.fr x).1 = v at h ⊢
    generalize (opd st.fr y).1 = u at h ⊢
    cases v <;> try (cases h; done)
    · cases u <;> try (cases h; done)
      rename_i k m
      cases k <;> try (cases h; done)
      simp only at h ⊢
      split at h
      · rename_i hq; cases ret1_some h; exact ⟨st', by rw [if_pos hq]; rfl, Like.same rfl rfl⟩
      · cases h
    · cases u <;> try (cases h; done)
      rename_i k m
      cases k <;> try (cases h; done)
      simp only at h ⊢
      split at h
      · rename_i bs hb
        try simp only [hb]
        split at h
        · rename_i hq; cases ret1_some h; exact ⟨st', by rw [if_pos hq]; rfl, Like.same rfl rfl⟩
        · cases h
      · cases h
  case ident f x =>
    simp only [foot, Option.some.injEq] at hf; subst hf
    have h1 := (opd_on (x := x) hc).1
    simp only [evalOp, h1] at h ⊢
    repeat' split at h
    all_goals first
      | (cases h; done)
      | (exfalso; contradiction)
      | (cases ret1_some h
         refine ⟨st', ?_, Like.same rfl rfl⟩
         simp only [OpR.as, ret1, *, if_true, if_false, and_self]
         first | done | rfl)
  case mkslice z e x y b =>
    simp only [foot, Option.some.injEq] at hf; subst hf
    have h1 := (opd_on (x := x) hc.left).1
    have h2 := (opd_on (x := y) hc.right).1
    simp only [evalOp, h1, h2] at h ⊢
    repeat' split at h
    all_goals first
      | (cases h; done)
      | (exfalso; contradiction)
      | (cases ret1_some h
         refine ⟨st', ?_, Like.same rfl rfl⟩
         simp only [OpR.as, ret1, *, if_true, if_false, and_self]
         first | done | rfl)
  case len x kd =>
    cases kd <;> first | exact hi.elim | (
      simp only [foot, Option.some.injEq] at hf; subst hf
      have h1 := (opd_on (x := x) hc).1
      simp only [evalOp, h1] at h ⊢
      repeat' split at h
      all_goals first
        | (cases h; done)
        | (exfalso; contradiction)
        | (cases ret1_some h
           refine ⟨st', ?_, Like.same rfl rfl⟩
           simp only [OpR.as, ret1, *, if_true, if_false, and_self]
           first | done | rfl))

theorem like_op_take {i : IOp} (hf : foot i = some F) (hc : FrOn F.rd st.fr st'.fr) {r : OpR} (h : evalOp G call lo i st = some r)
    (hi : match i with | .mv _ | .build .. | .bslice .. | .mkiface .. | .mkfunc .. | .extract .. | .append .. | .alloc false _ _ | .box false _ => True | _ => False) :
    ∃ s1', evalOp G call lo i st' = some (r.as s1') ∧ Like F st r.stt st' s1' := by
  cases i <;> try exact hi.elim
  case mv x =>
    simp only [foot, Option.some.injEq] at hf; subst hf
    obtain ⟨h1, h2⟩ := opd_on (x := x) hc
    simp only [evalOp] at h ⊢
    cases ret1_some h
    exact ⟨_, by rw [h1]; rfl, Like.take h2 rfl⟩
  case mkiface t x =>
    simp only [foot, Option.some.injEq] at hf; subst hf
    obtain ⟨h1, h2⟩ := opd_on (x := x) hc
    simp only [evalOp, h1] at h ⊢
    split at h
    · rename_i hp; cases ret1_some h
      exact ⟨_, by rw [if_pos hp]; rfl, Like.take h2 rfl⟩
    · cases h
  case extract x i =>
    simp only [foot, Option.some.injEq] at hf; subst hf
    obtain ⟨h1, h2⟩ := opd_on (x := x) hc
    simp only [evalOp, h1] at h ⊢
    split at h
    · rename_i vs hv
      split at h
      · rename_i u hu
        split at h
        · rename_i hp; cases ret1_some h
          exact ⟨_, by simp only [hv, hu, if_pos hp]; rfl, Like.take h2 rfl⟩
        · cases h
      · cases h
    · cases h
  case mkfunc f xs =>
    simp only [foot, Option.some.injEq] at hf; subst hf
    obtain ⟨h1, h2⟩ := opds_on (xs := xs) hc
    simp only [evalOp, h1] at h ⊢
    split at h
    · rename_i hp; cases ret1_some h
      exact ⟨_, by rw [if_pos hp]; rfl, Like.take h2 rfl⟩
    · cases h
  case build zs ps =>
    simp only [foot, Option.some.injEq] at hf; subst hf
    obtain ⟨h1, h2⟩ := opds_on (xs := ps.map (·.2.2)) hc
    simp only [evalOp, h1] at h ⊢
    split at h
    · cases h
    · rename_i hp
      split at h
      · rename_i cs hcs; cases ret1_some h
        exact ⟨_, by rw [if_neg hp]; rfl, Like.take h2 rfl⟩
      · cases h
  case bslice z e n ps =>
    simp only [foot, Option.some.injEq] at hf; subst hf
    obtain ⟨h1, h2⟩ := opds_on (xs := ps.map (·.2)) hc
    simp only [evalOp, h1] at h ⊢
    split at h
    · cases h
    · rename_i hp
      split at h
      · rename_i cs hcs; cases ret1_some h
        exact ⟨_, by rw [if_neg hp]; rfl, Like.take h2 rfl⟩
      · cases h
  case append x y sz e bytes pend =>
    simp only [foot, Option.some.injEq] at hf; subst hf
    obtain ⟨h1, h2⟩ := opd_on (x := x) hc.left
    have h3 := (opd_on (x := y) (hc.right.moved h2)).1
    simp only [evalOp, h1, h3] at h ⊢
    split at h
    · rename_i xs o hv
      split at h
      · rename_i hown
        split at h
        · rename_i ys o2 hy
          split at h
          · rename_i hb
            split at h
            · rename_i hpd
              split at h
              · rename_i h1'; cases ret1_some h
                exact ⟨_, by rw [if_pos hown, if_pos hb, if_pos hpd, if_pos h1']; rfl, Like.take h2 rfl⟩
              · cases h
            · rename_i hpd; cases ret1_some h
              exact ⟨_, by rw [if_pos hown, if_pos hb, if_neg hpd]; rfl, Like.take h2 rfl⟩
          · cases h
        · rename_i sx hy
          split at h
          · rename_i hb; cases ret1_some h
            exact ⟨_, by rw [if_pos hown, if_pos hb]; rfl, Like.take h2 rfl⟩
          · cases h
        · cases h
      · cases h
    · cases h
  case alloc heap ty cs =>
    cases heap
    · simp only [foot, Bool.false_eq_true, if_false, Option.some.injEq] at hf; subst hf
      simp only [evalOp, Bool.false_eq_true, if_false] at h ⊢
      cases ret1_some h
      exact ⟨st', rfl, Like.same rfl rfl⟩
    · exact hi.elim
  case box heap x =>
    cases heap
    · simp only [foot, Bool.false_eq_true, if_false, Option.some.injEq] at hf; subst hf
      obtain ⟨h1, h2⟩ := opd_on (x := x) hc
      simp only [evalOp, h1, Bool.false_eq_true, if_false] at h ⊢
      split at h
      · cases h
      · rename_i hp
        cases ret1_some h
        exact ⟨_, by rw [if_neg hp]; rfl, Like.take h2 rfl⟩
    · exact hi.elim

theorem like_op_iaddrL {x i : Opd} {sz : Nat} (hf : foot (.iaddrL x i sz) = some F) (hc : FrOn F.rd st.fr st'.fr) {r : OpR} (h : evalOp G call lo (.iaddrL x i sz) st = some r) : ∃ s1', evalOp G call lo (.iaddrL x i sz) st' = some (r.as s1') ∧ Like F st r.stt st' s1' := by
  simp only [foot, Option.some.injEq] at hf; subst hf
  have h1 := (opd_on (x := x) hc.left).1
  have h2 := (opd_on (x := i) hc.right).1
  cases x with
  | t s tk =>
    have h3 : st'.fr.get s = st.fr.get s := hc s (by simp [opdR])
    simp only [evalOp, h1, h2, h3] at h ⊢
    repeat' split at h
    all_goals first
      | (cases h; done)
      | (cases ret1_some h
         try injections
         subst_vars
         refine ⟨st', ?_, Like.same rfl rfl⟩
         simp only [OpR.as, ret1, *, if_true, if_false, and_self]
         first | done | rfl)
  | c v =>
    simp only [evalOp, h1, h2] at h ⊢
    repeat' split at h
    all_goals first
      | (cases h; done)
      | (exfalso; contradiction)
      | (cases ret1_some h
         refine ⟨st', ?_, Like.same rfl rfl⟩
         simp only [OpR.as, ret1, *, if_true, if_false, and_self]
         first | done | rfl)
  | g v =>
    simp only [evalOp, h1, h2] at h ⊢
    repeat' split at h
    all_goals first
      | (cases h; done)
      | (exfalso; contradiction)
      | (cases ret1_some h
         refine ⟨st', ?_, Like.same rfl rfl⟩
         simp only [OpR.as, ret1, *, if_true, if_false, and_self]
         first | done | rfl)
  | f v =>
    simp only [evalOp, h1, h2] at h ⊢
    repeat' split at h
    all_goals first
      | (cases h; done)
      | (exfalso; contradiction)
      | (cases ret1_some h
         refine ⟨st', ?_, Like.same rfl rfl⟩
         simp only [OpR.as, ret1, *, if_true, if_false, and_self]
         first | done | rfl)
end
end Go.Proofs.Ytajlmldpbhendab.Rf
end
section
/- The like, for the operations on memory. -/
set_option linter.unusedSimpArgs false
set_option linter.unusedVariables false
namespace Go.Proofs.Ytajlmldpbhendab.Rf

section
variable {G : Nat → Option (List AV)} {call : CallF} {lo : Nat} {st st' : St} {F : Foot}

theorem Like.hpset {F : Foot} {fr1 fr1' : Fr} {hp1 hp1' : List HObj} (h : Moved F.wr st.fr fr1 st'.fr fr1') (hw : F.hw ≠ .no) (e : st'.hp = st.hp → hp1' = hp1) (k : HpKeep F.hw st.hp hp1) : Like F st ⟨fr1, hp1⟩ st' ⟨fr1', hp1'⟩ :=
  ⟨h, fun e => absurd e hw, e, k⟩

theorem like_op_load {x : Opd} {m : Mem} {n : Nat} {agg tk : Bool} (hf : foot (.load x m n agg tk) = some F) (hc : ClearF F st st') {r : OpR} (h : evalOp G call lo (.load x m n agg tk) st = some r) :
    ∃ s1', evalOp G call lo (.load x m n agg tk) st' = some (r.as s1') ∧ Like F st r.stt st' s1' := by
  obtain ⟨hc1, hc2, hc3⟩ := hc
  cases m with
  | last r0 => simp [foot] at hf
  | loc r0 =>
    simp only [foot, Option.some.injEq] at hf; subst hf
    have h1 := (opd_on (x := x) hc1.left).1
    have h2 : st'.fr.get r0 = st.fr.get r0 := hc1 r0 (by simp)
    simp only [evalOp, h1] at h ⊢
    split at h
    · cases h
    · rename_i hmm
      rw [if_neg hmm]
      cases hp : (opd st.fr x).1 <;> rw [hp] at h hmm <;> simp only [memOk, behind] at h hmm <;> try (simp at hmm; done)
      rename_i s off
      have hs : s = r0 := by simpa using hmm
      subst hs
      simp only [behind, h2, behindPut] at h ⊢
      split at h
      · rename_i cs off' hb
        split at h
        · rename_i l hl
          cases tk with
          | true =>
            simp only [if_true] at h ⊢
            split at h
            · rename_i hn; cases ret1_some h
              refine ⟨_, by rw [if_pos hn]; rfl, ?_⟩
              exact Like.take (Moved.set _ _) rfl
            · cases h
          | false =>
            simp only [Bool.false_eq_true, if_false] at h ⊢
            cases ret1_some h
            exact ⟨st', rfl, Like.same rfl rfl⟩
        · cases h
      · cases h
  | elem =>
    simp only [foot, Option.some.injEq] at hf; subst hf
    have h1 := (opd_on (x := x) hc1).1
    simp only [evalOp, h1] at h ⊢
    split at h
    · cases h
    · rename_i hmm
      rw [if_neg hmm]
      cases hp : (opd st.fr x).1 <;> rw [hp] at h hmm <;> simp only [memOk, behind] at h hmm <;> try (simp at hmm; done)
      rename_i s off
      simp only [behind, behindPut] at h ⊢
      split at h
      · rename_i l hl
        cases tk with
        | true =>
          simp only [if_true] at h ⊢
          split at h <;> cases h
        | false =>
          simp only [Bool.false_eq_true, if_false] at h ⊢
          cases ret1_some h
          exact ⟨st', rfl, Like.same rfl rfl⟩
      · cases h
  | heap =>
    simp only [foot, Option.some.injEq] at hf; subst hf
    have h1 := (opd_on (x := x) hc1).1
    simp only [evalOp, h1] at h ⊢
    split at h
    · cases h
    · rename_i hmm
      rw [if_neg hmm]
      cases hp : (opd st.fr x).1 <;> rw [hp] at h hmm <;> simp only [memOk, behind] at h hmm <;> try (simp at hmm; done)
      case ptr id off =>
        cases ho : st.hp[id]? with
        | none => simp [ho] at h
        | some ob =>
          cases ob with
          | map es => simp [ho] at h
          | cells t0 ds =>
            have ho' := cells_at hc2 (.inl rfl) ho
            simp only [behind, behindPut, ho, ho'] at h ⊢
            split at h
            · rename_i l hl
              cases tk with
              | true =>
                have hh := hc3 (by simp)
                simp only [if_true] at h ⊢
                split at h
                · rename_i hn
                  split at h
                  · rename_i s1 hs1
                    split at hs1
                    · rename_i hlo; cases hs1; cases ret1_some h
                      refine ⟨{ st' with hp := st.hp.set id (.cells t0 (put ds off (l.map AV.cp1))) }, by rw [if_pos hn, if_pos hlo, hh]; rfl, ?_⟩
                      exact Like.hpset (Moved.refl _ _) (by simp) (fun _ => rfl) (keep_set_cells ho)
                    · cases hs1
                  · cases h
                · cases h
              | false =>
                simp only [Bool.false_eq_true, if_false] at h ⊢
                cases ret1_some h
                exact ⟨st', rfl, Like.same rfl (by simp)⟩
            · cases h
      case glob b off =>
        simp only [behind, behindPut] at h ⊢
        cases hG : G b with
        | none => simp [hG] at h
        | some cs =>
          simp only [hG, Option.map_some] at h ⊢
          split at h
          · rename_i l hl
            cases tk with
            | true =>
              simp only [if_true] at h ⊢
              split at h <;> cases h
            | false =>
              simp only [Bool.false_eq_true, if_false] at h ⊢
              cases ret1_some h
              exact ⟨st', rfl, Like.same rfl (by simp)⟩
          · cases h

theorem like_op_store {x v : Opd} {m : Mem} {n : Nat} (hf : foot (.store x m v n) = some F) (hc : ClearF F st st') {r : OpR} (h : evalOp G call lo (.store x m v n) st = some r) :
    ∃ s1', evalOp G call lo (.store x m v n) st' = some (r.as s1') ∧ Like F st r.stt st' s1' := by
  obtain ⟨hc1, hc2, hc3⟩ := hc
  cases m with
  | last r0 => simp [foot] at hf
  | elem => simp [foot] at hf
  | loc r0 =>
    simp only [foot, Option.some.injEq] at hf; subst hf
    obtain ⟨h1, h2⟩ := opd_on (x := v) hc1.left
    have h3 := (opd_on (x := x) (hc1.right.left.moved h2)).1
    have h4 : (opd st'.fr v).2.get r0 = (opd st.fr v).2.get r0 := (hc1.right.right.moved h2) r0 (by simp)
    simp only [evalOp, h1, h3] at h ⊢
    split at h
    · cases h
    · rename_i hmm
      rw [if_neg hmm]
      simp only [not_or, Bool.not_eq_false] at hmm
      cases hp : (opd (opd st.fr v).2 x).1 <;> rw [hp] at h hmm <;> simp only [memOk, behind] at h hmm <;> try (simp at hmm; done)
      rename_i s off
      have hs : s = r0 := by simpa using hmm.2
      subst hs
      simp only [behind, h4, behindPut] at h ⊢
      split at h
      · rename_i cs off' hb
        split at h
        · rename_i hl; cases ret1_some h
          refine ⟨_, by rw [if_pos hl]; rfl, ?_⟩
          exact Like.take (F := ⟨_, opdW v ++ [s], _, _⟩) (h2.trans (Moved.set _ _)) rfl
        · cases h
      · cases h
  | heap =>
    simp only [foot, Option.some.injEq] at hf; subst hf
    obtain ⟨h1, h2⟩ := opd_on (x := v) hc1.left
    have h3 := (opd_on (x := x) (hc1.right.moved h2)).1
    have hh := hc3 (by simp)
    simp only [evalOp, h1, h3] at h ⊢
    split at h
    · cases h
    · rename_i hmm
      rw [if_neg hmm]
      simp only [not_or, Bool.not_eq_false] at hmm
      cases hp : (opd (opd st.fr v).2 x).1 <;> rw [hp] at h hmm <;> simp only [memOk, behind] at h hmm <;> try (simp at hmm; done)
      case ptr id off =>
        cases ho : st.hp[id]? with
        | none => simp [ho] at h
        | some ob =>
          cases ob with
          | map es => simp [ho] at h
          | cells t0 ds =>
            simp only [behind, behindPut, hh, ho] at h ⊢
            split at h
            · rename_i hl
              split at h
              · rename_i s1 hs1
                split at hs1
                · rename_i hlo; cases hs1; cases ret1_some h
                  refine ⟨{ fr := (opd st'.fr v).2, hp := st.hp.set id (.cells t0 (put ds off (opd st.fr v).1.spread)) }, by rw [if_pos hl, if_pos hlo]; rfl, ?_⟩
                  exact Like.hpset h2 (by simp) (fun _ => rfl) (keep_set_cells ho)
                · cases hs1
              · cases h
            · cases h
      case glob b off =>
        simp only [behind, behindPut] at h
        repeat' split at h
        all_goals first | (cases h; done) | (rename_i h9; cases h9; done)

theorem like_op_maps {i : IOp} (hf : foot i = some F) (hc : ClearF F st st') {r : OpR} (h : evalOp G call lo i st = some r)
    (hi : match i with | .lookup .. | .mapset .. | .len _ .map => True | _ => False) :
    ∃ s1', evalOp G call lo i st' = some (r.as s1') ∧ Like F st r.stt st' s1' := by
  obtain ⟨hc1, hc2, hc3⟩ := hc
  cases i <;> try exact hi.elim
  case len x kd =>
    cases kd <;> try exact hi.elim
    simp only [foot, Option.some.injEq] at hf; subst hf
    have h1 := (opd_on (x := x) hc1).1
    simp only [evalOp, h1] at h ⊢
    split at h
    · contradiction
    · contradiction
    · cases ret1_some h; exact ⟨st', rfl, Like.same rfl rfl⟩
    · rename_i id _ hv
      cases ho : st.hp[id]? with
      | none => simp [ho] at h
      | some ob =>
        cases ob with
        | cells t0 es => simp [ho] at h
        | map es =>
          have ho' := maps_at hc2 (.inl rfl) ho
          simp only [ho, ho'] at h ⊢
          cases ret1_some h; exact ⟨st', rfl, Like.same rfl rfl⟩
    · cases h
  case lookup kd m k z ok tk =>
    simp only [foot, Option.some.injEq] at hf; subst hf
    have h1 := (opd_on (x := m) hc1.left).1
    have h2 := (opd_on (x := k) hc1.right).1
    simp only [evalOp, h1, h2] at h ⊢
    split at h
    · rename_i id hv
      cases ho : st.hp[id]? with
      | none => simp [ho] at h
      | some ob =>
        cases ob with
        | cells t0 es => simp [ho] at h
        | map es =>
          have ho' := maps_at hc2 (.inl rfl) ho
          simp only [ho, ho'] at h ⊢
          split at h
          · cases h
          · rename_i hp
            rw [if_neg hp]
            split at h
            · rename_i j v hfk
              cases tk with
              | true =>
                have hh := hc3 (by simp)
                simp only [if_true] at h ⊢
                split at h
                · rename_i hlv; cases ret1_some h
                  refine ⟨{ st' with hp := st.hp.set id (.map (es.set j ((es.getD j default).1, v.cp))) }, by rw [if_pos hlv, hh]; rfl, ?_⟩
                  exact Like.hpset (Moved.refl _ _) (by simp) (fun _ => rfl) (keep_set_map ho)
                · cases h
              | false =>
                simp only [Bool.false_eq_true, if_false] at h ⊢
                cases ret1_some h
                exact ⟨st', rfl, Like.same rfl (by simp)⟩
            · cases ret1_some h
              refine ⟨st', rfl, ?_⟩
              exact ⟨Moved.refl _ _, fun _ => rfl, fun e => e, by cases tk <;> simp [HpKeep, OpR.stt, HpOn]⟩
            · cases h
    · rename_i hv
      split at h
      · cases h
      · rename_i hp
        rw [if_neg hp]
        simp only [findKey] at h ⊢
        cases ret1_some h
        refine ⟨st', rfl, ?_⟩
        exact ⟨Moved.refl _ _, fun _ => rfl, fun e => e, by cases tk <;> simp [HpKeep, OpR.stt, HpOn]⟩
    · cases h
  case mapset kd m k v z =>
    simp only [foot, Option.some.injEq] at hf; subst hf
    obtain ⟨h1, h2⟩ := opd_on (x := v) hc1.left
    have h3 := (opd_on (x := m) (hc1.right.left.moved h2)).1
    have h4 := (opd_on (x := k) (hc1.right.right.moved h2)).1
    have hh := hc3 (by simp)
    simp only [evalOp, h1, h3, h4, hh] at h ⊢
    split at h
    · cases h
    · rename_i hp
      rw [if_neg hp]
      split at h
      · rename_i id hv
        cases ho : st.hp[id]? with
        | none => simp [ho] at h
        | some ob =>
          cases ob with
          | cells t0 es => simp [ho] at h
          | map es =>
            simp only [ho] at h ⊢
            split at h
            · rename_i hlo
              rw [if_pos hlo]
              split at h
              · cases ret1_some h
                exact ⟨{ fr := (opd st'.fr v).2, hp := _ }, rfl, Like.hpset h2 (by simp) (fun _ => rfl) (keep_set_map ho)⟩
              · cases ret1_some h
                exact ⟨{ fr := (opd st'.fr v).2, hp := _ }, rfl, Like.hpset h2 (by simp) (fun _ => rfl) (keep_set_map ho)⟩
              · cases h
            · cases h
      · cases h

theorem like_op_all {i : IOp} (hq : CallQ call) (hf : foot i = some F) (hc : ClearF F st st') {r : OpR} (h : evalOp G call lo i st = some r)
    (hi : match i with | .alloc true _ _ | .box true _ | .mkmap | .call .. => True | _ => False) :
    ∃ s1', evalOp G call lo i st' = some (r.as s1') ∧ Like F st r.stt st' s1' := by
  obtain ⟨hc1, hc2, hc3⟩ := hc
  cases i <;> try exact hi.elim
  case mkmap =>
    simp only [foot, Option.some.injEq] at hf; subst hf
    simp only [HpOn] at hc2
    simp only [evalOp, hc2] at h ⊢
    cases ret1_some h
    exact ⟨{ st' with hp := _ }, rfl, Like.hpset (Moved.refl _ _) (by simp) (fun _ => rfl) trivial⟩
  case alloc heap ty cs =>
    cases heap
    · exact hi.elim
    · simp only [foot, if_true, Option.some.injEq] at hf; subst hf
      simp only [HpOn] at hc2
      simp only [evalOp, if_true, hc2] at h ⊢
      cases ret1_some h
      exact ⟨{ st' with hp := _ }, rfl, Like.hpset (Moved.refl _ _) (by simp) (fun _ => rfl) trivial⟩
  case box heap x =>
    cases heap
    · exact hi.elim
    · simp only [foot, if_true, Option.some.injEq] at hf; subst hf
      simp only [HpOn] at hc2
      obtain ⟨h1, h2⟩ := opd_on (x := x) hc1
      simp only [evalOp, if_true, hc2, h1] at h ⊢
      split at h
      · cases h
      · rename_i hp
        cases ret1_some h
        exact ⟨{ fr := (opd st'.fr x).2, hp := _ }, by rw [if_neg hp]; rfl, Like.hpset h2 (by simp) (fun _ => rfl) trivial⟩
  case call f xs q =>
    simp only [foot, Option.some.injEq] at hf; subst hf
    simp only [HpOn] at hc2
    obtain ⟨h1, h2⟩ := opds_on (xs := xs) hc1.left
    have h3 := (opd_on (x := f) (hc1.right.moved h2)).1
    simp only [evalOp, hc2, h1, h3] at h ⊢
    split at h
    · cases h
    · rename_i hp
      rw [if_neg hp]
      split at h
      · rename_i fid caps hv
        split at h
        · cases h
        · rename_i hpc
          rw [if_neg hpc]
          have fin : ∀ (hp1 : List HObj), (q = true → hp1 = st.hp) → Like ⟨opdsR xs ++ opdR f, opdsW xs, .all, if q then .no else .all⟩ st ⟨(opds st.fr xs).2, hp1⟩ st' ⟨(opds st'.fr xs).2, hp1⟩ := fun hp1 e => by
            cases q with
            | true => 
              have := e rfl; subst this
              exact ⟨h2, fun _ => hc2.symm, fun _ => rfl, rfl⟩
            | false => exact ⟨h2, (fun e => by simp at e), fun _ => rfl, trivial⟩
          split at h
          · rename_i v hp1 hcall; cases ret1_some h
            exact ⟨⟨(opds st'.fr xs).2, hp1⟩, rfl, fin hp1 fun e => by subst e; exact hq _ _ _ _ _ hcall⟩
          · rename_i v hp1 hcall; cases h
            exact ⟨⟨(opds st'.fr xs).2, hp1⟩, rfl, fin hp1 fun e => by subst e; exact hq _ _ _ _ _ hcall⟩
          · cases h
      · cases h

theorem like_op {i : IOp} (hq : CallQ call) (hf : foot i = some F) (hc : ClearF F st st') {r : OpR} (h : evalOp G call lo i st = some r) :
    ∃ s1', evalOp G call lo i st' = some (r.as s1') ∧ Like F st r.stt st' s1' := by
  cases i
  case load => exact like_op_load hf hc h
  case store => exact like_op_store hf hc h
  case iaddrL => exact like_op_iaddrL hf hc.1 h
  case lookup => exact like_op_maps hf hc h trivial
  case mapset => exact like_op_maps hf hc h trivial
  case uptr x u n =>
    obtain ⟨hc1, hc2, hc3⟩ := hc
    simp only [foot, Option.some.injEq] at hf; subst hf
    have h1 := (opd_on (x := x) hc1).1
    simp only [evalOp, h1] at h ⊢
    split at h
    · rename_i i j hv
      cases ho : st.hp[i]? with
      | none => simp [ho] at h
      | some ob =>
        cases ob with
        | map es => simp [ho] at h
        | cells t0 ds =>
          have ho' := cells_at hc2 (.inl rfl) ho
          simp only [ho, ho'] at h ⊢
          split at h
          · rename_i hq; cases ret1_some h
            exact ⟨st', by rw [if_pos hq]; rfl, Like.same rfl (by simp)⟩
          · cases h
    · cases h
  case mkmap => exact like_op_all hq hf hc h trivial
  case call => exact like_op_all hq hf hc h trivial
  case panic => simp [foot] at hf
  case alloc heap ty cs => cases heap <;> first | exact like_op_all hq hf hc h trivial | exact like_op_take hf hc.1 h trivial
  case box heap x => cases heap <;> first | exact like_op_all hq hf hc h trivial | exact like_op_take hf hc.1 h trivial
  case len x kd => cases kd <;> first | exact like_op_maps hf hc h trivial | exact like_op_pure hf hc.1 h trivial
  all_goals first
    | exact like_op_pure hf hc.1 h trivial
    | exact like_op_take hf hc.1 h trivial
end
end Go.Proofs.Ytajlmldpbhendab.Rf
end
section
/- Steps that may change places. -/
set_option linter.unusedSimpArgs false
set_option linter.unusedVariables false
namespace Go.Proofs.Ytajlmldpbhendab.Rf

def slotL : Option Nat → List Nat
  | some s => [s]
  | none => []
def footO (o : IOper) : Option Foot := (foot o.op).map fun F => ⟨slotL (o.guard.map (·.1)) ++ (F.rd ++ slotL o.dst), F.wr ++ slotL o.dst, F.hr, F.hw⟩
/-- the same to every look -/
def Eqv (st st' : St) : Prop := (∀ s, st'.fr.get s = st.fr.get s) ∧ st'.hp = st.hp
theorem Eqv.refl (st : St) : Eqv st st := ⟨fun _ => rfl, rfl⟩
theorem Eqv.trans {a b c : St} (h : Eqv a b) (k : Eqv b c) : Eqv a c := ⟨fun s => (k.1 s).trans (h.1 s), k.2.trans h.2⟩

section
variable {G : Nat → Option (List AV)} {call : CallF} {lo : Nat} {st st' : St} {F : Foot}

theorem noLast_iff {fr : Fr} {s : Nat} : fr.noLast s = true ↔ ∀ t u, fr.get t = .lastr u → u ≠ s := by
  refine ⟨fun h t u => Fr.noLast_get h, fun h => ?_⟩
  simp only [Fr.noLast, List.all_eq_true]
  intro e _
  cases hv : fr.get e.1 <;> simp only []
  rename_i u
  simpa using h _ _ hv
/-- from like states like steps: what is not tame is so too -/
theorem wild_op {i : IOp} (hf : foot i = none) (he : Eqv st st') {r : OpR} (h : evalOp G call lo i st = some r) : ∃ s1', evalOp G call lo i st' = some (r.as s1') ∧ Eqv r.stt s1' := by
  obtain ⟨e1, e2⟩ := he
  have ro : ∀ x, (opd st'.fr x).1 = (opd st.fr x).1 := fun x => (opd_on (x := x) fun s _ => e1 s).1
  cases i
  case panic x =>
    simp only [evalOp, ro] at h ⊢
    split at h
    · cases h; exact ⟨st', rfl, e1, e2⟩
    · cases h
  case load x m n agg tk =>
    cases m <;> simp only [foot] at hf <;> try (cases hf; done)
    rename_i r0
    simp only [evalOp, ro] at h ⊢
    split at h
    · cases h
    · rename_i hmm
      cases hp : (opd st.fr x).1 <;> rw [hp] at h hmm <;> simp only [memOk, behind] at h hmm <;> first | (simp at hmm; done) | (simp at h; done)
  case store x m v n =>
    have tk : ∀ s, (opd st'.fr v).2.get s = (opd st.fr v).2.get s := fun s => by
      have := (opd_on (x := v) (fr := st.fr) (fr' := st'.fr) fun s _ => e1 s).2
      by_cases hs : s ∈ opdW v
      · exact this.new s hs
      · rw [this.old' s hs, this.old s hs]; exact e1 s
    have ro2 : ∀ x, (opd (opd st'.fr v).2 x).1 = (opd (opd st.fr v).2 x).1 := fun x => (opd_on (x := x) fun s _ => tk s).1
    cases m with
    | loc r0 => simp [foot] at hf
    | heap => simp [foot] at hf
    | elem =>
      simp only [evalOp, ro, ro2] at h ⊢
      split at h
      · cases h
      · rename_i hmm
        simp only [not_or, Bool.not_eq_false] at hmm
        cases hp : (opd (opd st.fr v).2 x).1 <;> rw [hp] at h hmm <;> simp only [memOk, behind, behindPut] at h hmm <;> first | (simp at hmm; done) | (split at h <;> cases h; done)
    | last r0 =>
      simp only [evalOp, ro, ro2] at h ⊢
      split at h
      · cases h
      · rename_i hmm
        rw [if_neg hmm]
        simp only [not_or, Bool.not_eq_false] at hmm
        cases hp : (opd (opd st.fr v).2 x).1 <;> rw [hp] at h hmm <;> simp only [memOk] at h hmm <;> try (simp at hmm; done)
        rename_i s
        dsimp only
        simp only [tk]
        cases x <;> try (simp at h; done)
        rename_i p tk2
        cases hs : (opd st.fr v).2.get s <;> rw [hs] at h <;> try (simp at h; done)
        rename_i xs sz
        dsimp only at h ⊢
        split at h
        · rename_i hh; cases ret1_some h
          have hno : ((opd st'.fr v).2.set p .none).noLast s = true := by
            rw [noLast_iff]; intro t u ht
            rw [Fr.get_set, tk] at ht
            exact noLast_iff.1 hh.2.2.2 t u (by rw [Fr.get_set]; exact ht)
          refine ⟨{ st' with fr := ((opd st'.fr v).2.set p .none).set s (.list (xs ++ [(opd st.fr v).1.cp]) (.own sz 0)) }, by rw [if_pos ⟨hh.1, hh.2.1, hh.2.2.1, hno⟩]; rfl, fun t => ?_, e2⟩
          simp only [OpR.stt]
          rw [Fr.get_set, Fr.get_set, Fr.get_set, Fr.get_set, tk]
        · cases h
  all_goals first
    | (simp [foot] at hf; done)
    | (rename_i b _; cases b <;> simp [foot] at hf; done)
    | (rename_i b; cases b <;> simp [foot] at hf; done)
    | (rename_i b _ _; cases b <;> simp [foot] at hf; done)
theorem like_eqv {s1 s1' : St} (he : Eqv st st') (h : Like F st s1 st' s1') : Eqv s1 s1' :=
  ⟨fun s => by
    by_cases hs : s ∈ F.wr
    · exact h.fr.new s hs
    · rw [h.fr.old' s hs, h.fr.old s hs]; exact he.1 s, h.hp' he.2⟩
theorem Eqv.clear (he : Eqv st st') : ClearF F st st' := ⟨fun s _ => he.1 s, by rw [he.2]; exact HpOn.rfl', fun _ => he.2⟩
theorem eqv_op (hq : CallQ call) {i : IOp} (he : Eqv st st') {r : OpR} (h : evalOp G call lo i st = some r) : ∃ s1', evalOp G call lo i st' = some (r.as s1') ∧ Eqv r.stt s1' := by
  cases hf : foot i with
  | none => exact wild_op hf he h
  | some F =>
    obtain ⟨s1', h1, h2⟩ := like_op hq hf he.clear h
    exact ⟨s1', h1, like_eqv he h2⟩

theorem wanted_on {fr fr' : Fr} {g : Option (Nat × Bool)} (h : FrOn (slotL (g.map (·.1))) fr fr') : wanted fr' g = wanted fr g := by
  cases g with
  | none => rfl
  | some x => obtain ⟨s, b⟩ := x; simp only [wanted]; rw [h s (by simp [slotL])]
theorem put_on {s s' s1 : St} {d : Option Nat} {v : AV} (h : FrOn (slotL d) s.fr s'.fr) (hp : s.put d v = some s1) : ∃ s1', s'.put d v = some s1' ∧ Moved (slotL d) s.fr s1.fr s'.fr s1'.fr ∧ s1.hp = s.hp ∧ s1'.hp = s'.hp := by
  cases d with
  | none => simp [St.put] at hp; subst hp; exact ⟨s', rfl, Moved.refl _ _, rfl, rfl⟩
  | some d =>
    simp only [St.put] at hp ⊢
    rw [h d (by simp [slotL])]
    split at hp
    · rename_i hl; cases hp
      exact ⟨{ s' with fr := s'.fr.set d v }, by rw [if_pos hl], Moved.set d v, rfl, rfl⟩
    · cases hp
theorem HpKeep.of {k : HpK} {a b c : List HObj} (h : HpKeep k a b) (e : c = b) : HpKeep k a c := by rw [e]; exact h
theorem opdW_R {x : Opd} {s : Nat} (h : s ∈ opdW x) : s ∈ opdR x := by
  cases x with
  | t s' tk => cases tk <;> simp [opdW, opdR] at h ⊢; exact h
  | c v => simp [opdW] at h
  | g v => simp [opdW] at h
  | f v => simp [opdW] at h
theorem opdsW_R : ∀ {xs : List Opd} {s : Nat}, s ∈ opdsW xs → s ∈ opdsR xs
  | [], s, h => by simp [opdsW] at h
  | x :: xs, s, h => by
    simp only [opdsW, opdsR, List.mem_append] at h ⊢
    rcases h with h | h
    · exact .inl (opdW_R h)
    · exact .inr (opdsW_R h)
theorem foot_wr_rd {i : IOp} {F : Foot} (h : foot i = some F) (s : Nat) (hs : s ∈ F.wr) : s ∈ F.rd := by
  cases i
  case load x m n agg tk =>
    cases m <;> simp only [foot] at h <;> cases h
    · cases tk <;> simp at hs ⊢; exact .inr hs
    · simp at hs
    · simp at hs
  case store x m v n =>
    cases m <;> simp only [foot] at h <;> cases h
    · simp only [List.mem_append] at hs ⊢
      rcases hs with hs | hs
      · exact .inl (opdW_R hs)
      · exact .inr (.inr hs)
    · simp only [List.mem_append]; exact .inl (opdW_R hs)
  case alloc heap ty cs => cases heap <;> simp only [foot] at h <;> cases h <;> simp at hs
  case box heap x => cases heap <;> simp only [foot] at h <;> cases h <;> exact opdW_R hs
  case len x kd => cases kd <;> simp only [foot] at h <;> cases h <;> simp at hs
  case panic => simp [foot] at h
  all_goals
    simp only [foot, Option.some.injEq] at h; subst h
    first
      | (simp at hs; done)
      | exact opdW_R hs
      | exact opdsW_R hs
      | exact List.mem_append_left _ (opdW_R hs)
      | exact List.mem_append_left _ (opdsW_R hs)
/-- one step, the like where what it reads is the like -/
theorem like_step (hq : CallQ call) {o : IOper} (hf : footO o = some F) (hc : ClearF F st st') {ex : Ex} {s1 : St} (h : evalOps G call lo [o] st = some (ex, s1)) :
    ∃ s1', evalOps G call lo [o] st' = some (ex, s1') ∧ (ex = .normal → Like F st s1 st' s1') ∧ (st'.hp = st.hp → s1'.hp = s1.hp) := by
  unfold footO at hf
  cases hf0 : foot o.op with
  | none => simp [hf0] at hf
  | some F0 =>
    simp [hf0] at hf; subst hf
    obtain ⟨c1, c2, c3⟩ := hc
    simp only at c1 c2 c3
    have c0 : ClearF F0 st st' := ⟨c1.right.left, c2, c3⟩
    have cd : FrOn (slotL o.dst) st.fr st'.fr := c1.right.right
    simp only [evalOps] at h ⊢
    rw [wanted_on c1.left]
    split at h
    · rename_i hw
      try simp only [hw]
      split at h
      · rename_i v s2 he
        obtain ⟨s2', h2, l2⟩ := like_op hq hf0 c0 he
        simp only [OpR.as] at h2
        simp only [OpR.stt] at l2
        rw [h2]
        simp only []
        split at h
        · rename_i s3 hp
          simp at h; obtain ⟨rfl, rfl⟩ := h
          have cd2 : FrOn (slotL o.dst) s2.fr s2'.fr := cd.moved l2.fr
          obtain ⟨s3', p1, p2, p3, p4⟩ := put_on cd2 hp
          rw [p1]
          refine ⟨s3', rfl, fun _ => ⟨l2.fr.trans p2, fun e => by rw [p4]; exact l2.hp e, fun e => by rw [p4, p3]; exact l2.hp' e, l2.keep.of p3⟩, fun e => by rw [p4, p3]; exact l2.hp' e⟩
        · cases h
      · rename_i v s2 he
        obtain ⟨s2', h2, l2⟩ := like_op hq hf0 c0 he
        simp only [OpR.as] at h2
        simp only [OpR.stt] at l2
        rw [h2]
        simp at h; obtain ⟨rfl, rfl⟩ := h
        exact ⟨s2', rfl, (fun e => by cases e), l2.hp'⟩
      · cases h
    · rename_i hw
      try simp only [hw]
      split at h
      · rename_i s3 hp
        simp at h; obtain ⟨rfl, rfl⟩ := h
        obtain ⟨s3', p1, p2, p3, p4⟩ := put_on cd hp
        rw [p1]
        refine ⟨s3', rfl, fun _ => ⟨?_, fun _ => p4, fun e => by rw [p4, p3]; exact e, ?_⟩, fun e => by rw [p4, p3]; exact e⟩
        · exact ⟨fun s hs => by
            by_cases hd : s ∈ slotL o.dst
            · exact p2.new s hd
            · have h1 : s ∈ F0.wr := by simpa [hd] using hs
              rw [p2.old' s hd, p2.old s hd]
              exact c1.right.left s (foot_wr_rd hf0 s h1), fun s hs => by simp at hs; exact p2.old' s hs.2, fun s hs => by simp at hs; exact p2.old s hs.2⟩
        · rw [p3]; cases F0.hw <;> simp [HpKeep, HpOn]
      · cases h
    · cases h
end
end Go.Proofs.Ytajlmldpbhendab.Rf
end
section
/- Any order comes to the same. -/
set_option linter.unusedSimpArgs false
set_option linter.unusedVariables false
namespace Go.Proofs.Ytajlmldpbhendab.Rf

def hpInd (a b : Foot) : Bool :=
  match a.hw with
  | .no => true
  | .cells => decide (b.hw = .no) && (match b.hr with | .no => true | .maps => true | _ => false)
  | .maps => decide (b.hw = .no) && (match b.hr with | .no => true | .cells => true | _ => false)
  | .all => decide (b.hw = .no) && (match b.hr with | .no => true | _ => false)
def disj : List Nat → List Nat → Bool
  | [], _ => true
  | x :: r, l => !l.contains x && disj r l
theorem disj_spec : ∀ {a b : List Nat}, disj a b = true → ∀ s, s ∈ a → s ∉ b
  | [], _, _, s, h => by simp at h
  | x :: r, l, h, s, hs => by
    simp only [disj, Bool.and_eq_true] at h
    rcases List.mem_cons.1 hs with rfl | hs
    · simpa using h.1
    · exact disj_spec h.2 s hs
def indep (a b : Foot) : Bool := disj a.wr b.rd && (disj a.wr b.wr && (disj b.wr a.rd && (hpInd a b && hpInd b a)))
def indO (x y : IOper) : Bool :=
  match footO x, footO y with
  | some a, some b => indep a b
  | _, _ => false

section
variable {G : Nat → Option (List AV)} {call : CallF} {lo : Nat} {st st' : St} {F : Foot}

theorem ClearF.refl (F : Foot) (st : St) : ClearF F st st := ⟨fun _ _ => rfl, HpOn.rfl', fun _ => rfl⟩
theorem like_step_self (hq : CallQ call) {o : IOper} (hf : footO o = some F) {s1 : St} (h : evalOps G call lo [o] st = some (.normal, s1)) : Like F st s1 st s1 := by
  obtain ⟨s1', h1, h2, _⟩ := like_step hq hf (ClearF.refl F st) h
  rw [h] at h1; simp at h1; subst h1
  exact h2 rfl
theorem hpOn_symm {k : HpK} {a b : List HObj} (h : HpOn k a b) : HpOn k b a := by
  cases k <;> simp only [HpOn] at h ⊢
  · exact fun i ty c => (h i ty c).symm
  · exact fun i c => (h i c).symm
  · exact h.symm
/-- b reads the same before and behind a -/
theorem hpInd_on {a b : Foot} (h : hpInd a b = true) {hp hp1 : List HObj} (k : HpKeep a.hw hp hp1) : HpOn b.hr hp1 hp ∧ (b.hw ≠ .no → hp = hp1) := by
  unfold hpInd at h
  split at h
  · rename_i e; rw [e] at k; simp only [HpKeep] at k; subst k; exact ⟨HpOn.rfl', fun _ => rfl⟩
  · rename_i e; rw [e] at k; simp only [HpKeep] at k
    simp only [Bool.and_eq_true, decide_eq_true_eq] at h
    refine ⟨?_, fun hn => absurd h.1 hn⟩
    cases hb : b.hr <;> rw [hb] at h <;> first | trivial | exact hpOn_symm k | (simp at h; done)
  · rename_i e; rw [e] at k; simp only [HpKeep] at k
    simp only [Bool.and_eq_true, decide_eq_true_eq] at h
    refine ⟨?_, fun hn => absurd h.1 hn⟩
    cases hb : b.hr <;> rw [hb] at h <;> first | trivial | exact hpOn_symm k | (simp at h; done)
  · simp only [Bool.and_eq_true, decide_eq_true_eq] at h
    refine ⟨?_, fun hn => absurd h.1 hn⟩
    cases hb : b.hr <;> rw [hb] at h <;> first | trivial | (simp at h; done)
theorem hpInd_no {a b : Foot} (h : hpInd a b = true) (hn : a.hw ≠ .no) : b.hw = .no := by
  unfold hpInd at h
  split at h
  · rename_i e; exact absurd e hn
  all_goals (simp only [Bool.and_eq_true, decide_eq_true_eq] at h; exact h.1)
/-- Two steps change places. -/
theorem swap (hq : CallQ call) {x y : IOper} (hi : indO x y = true) {s1 s2 : St} {ex : Ex} (h1 : evalOps G call lo [x] st = some (.normal, s1)) (h2 : evalOps G call lo [y] s1 = some (ex, s2)) :
    ∃ s1', evalOps G call lo [y] st = some (ex, s1') ∧ (ex = .normal → ∃ s2', evalOps G call lo [x] s1' = some (.normal, s2') ∧ Eqv s2 s2') ∧ (ex ≠ .normal → (∀ a, footO x = some a → a.hw = .no) → s1'.hp = s2.hp) := by
  unfold indO at hi
  cases hx : footO x with
  | none => simp [hx] at hi
  | some a =>
    cases hy : footO y with
    | none => simp [hx, hy] at hi
    | some b =>
      simp only [hx, hy, indep, Bool.and_eq_true] at hi
      obtain ⟨i1, i2, i3, i4, i5⟩ := hi
      have la := like_step_self hq hx h1
      obtain ⟨o1, o2⟩ := hpInd_on i4 la.keep
      have cb : ClearF b s1 st := ⟨fun s hs => (la.fr.old s (fun h => disj_spec i1 s h hs)).symm, o1, o2⟩
      obtain ⟨s1', e1, l1, l1'⟩ := like_step hq hy cb h2
      refine ⟨s1', e1, fun en => ?_, fun _ hno => l1' (by have := hno a rfl; exact (la.hp this).symm)⟩
      subst en
      have lb := l1 rfl
      have lbs := like_step_self hq hy e1
      obtain ⟨o3, o4⟩ := hpInd_on i5 lbs.keep
      have ca : ClearF a st s1' := ⟨fun s hs => lbs.fr.old s (fun h => disj_spec i3 s h hs), hpOn_symm o3, fun hn => (o4 hn).symm⟩
      obtain ⟨s2', e2, l2, l2'⟩ := like_step hq hx ca h1
      have l2 := l2 rfl
      refine ⟨s2', e2, fun s => ?_, ?_⟩
      · by_cases ha : s ∈ a.wr
        · rw [l2.fr.new s ha, lb.fr.old s (disj_spec i2 s ha)]
        · rw [l2.fr.old' s ha]
          by_cases hb : s ∈ b.wr
          · exact lb.fr.new s hb
          · rw [lb.fr.old' s hb, lb.fr.old s hb, la.fr.old s ha]
      · by_cases hn : a.hw = .no
        · rw [l2.hp hn]
          exact lb.hp' (la.hp hn).symm
        · have hb := hpInd_no i4 hn
          rw [l2' (lb.hp hb)]
          exact (like_step_self hq hy h2).hp hb |>.symm

theorem eqv_step (hq : CallQ call) {o : IOper} (he : Eqv st st') {ex : Ex} {s1 : St} (h : evalOps G call lo [o] st = some (ex, s1)) : ∃ s1', evalOps G call lo [o] st' = some (ex, s1') ∧ Eqv s1 s1' := by
  have hw : wanted st'.fr o.guard = wanted st.fr o.guard := wanted_on fun s _ => he.1 s
  have hput : ∀ {s s' s3 : St} {v : AV}, Eqv s s' → s.put o.dst v = some s3 → ∃ s3', s'.put o.dst v = some s3' ∧ Eqv s3 s3' := fun {s s' s3 v} e hp => by
    obtain ⟨s3', p1, p2, p3, p4⟩ := put_on (fun t _ => e.1 t) hp
    refine ⟨s3', p1, fun t => ?_, by rw [p4, p3]; exact e.2⟩
    by_cases ht : t ∈ slotL o.dst
    · exact p2.new t ht
    · rw [p2.old' t ht, p2.old t ht]; exact e.1 t
  simp only [evalOps, hw] at h ⊢
  split at h
  · split at h
    · rename_i v s2 ho
      obtain ⟨s2', h2, l2⟩ := eqv_op hq he ho
      simp only [OpR.as] at h2
      simp only [OpR.stt] at l2
      rw [h2]
      split at h
      · rename_i s3 hp
        simp at h; obtain ⟨rfl, rfl⟩ := h
        obtain ⟨s3', p1, p2⟩ := hput l2 hp
        exact ⟨s3', by simp [p1], p2⟩
      · cases h
    · rename_i v s2 ho
      obtain ⟨s2', h2, l2⟩ := eqv_op hq he ho
      simp only [OpR.as] at h2
      simp only [OpR.stt] at l2
      rw [h2]
      simp at h; obtain ⟨rfl, rfl⟩ := h
      exact ⟨s2', rfl, l2⟩
    · cases h
  · split at h
    · rename_i s3 hp
      simp at h; obtain ⟨rfl, rfl⟩ := h
      obtain ⟨s3', p1, p2⟩ := hput he hp
      exact ⟨s3', by simp [p1], p2⟩
    · cases h
  · cases h
variable {ops : List IOper} {pans : List Nat}
theorem evalDraw_cons {i : Nat} {r : List Nat} {ex : Ex} {s : St} (h : evalDraw G call lo ops pans (i :: r) st = some (ex, s)) :
    ∃ o, ops[i]? = some o ∧ ((∃ s1, evalOps G call lo [o] st = some (.normal, s1) ∧ evalDraw G call lo ops pans r s1 = some (ex, s)) ∨
      (∃ v s1, evalOps G call lo [o] st = some (.pan v, s1) ∧ i ∈ pans ∧ ex = .pan v ∧ s = ⟨[], s1.hp⟩)) := by
  simp only [evalDraw] at h
  split at h
  · cases h
  · rename_i o ho
    refine ⟨o, ho, ?_⟩
    split at h
    · rename_i s1 he; exact .inl ⟨s1, he, h⟩
    · rename_i v s1 he
      split at h
      · rename_i hp; simp at h; obtain ⟨rfl, rfl⟩ := h; exact .inr ⟨v, s1, he, by simpa using hp, rfl, rfl⟩
      · cases h
    · cases h
theorem evalDraw_normal {i : Nat} {r : List Nat} {o : IOper} (ho : ops[i]? = some o) {s1 : St} (h : evalOps G call lo [o] st = some (.normal, s1)) : evalDraw G call lo ops pans (i :: r) st = evalDraw G call lo ops pans r s1 := by
  simp only [evalDraw, ho, h]
theorem evalDraw_pan {i : Nat} {r : List Nat} {o : IOper} (ho : ops[i]? = some o) {s1 : St} {v : AV} (h : evalOps G call lo [o] st = some (.pan v, s1)) (hp : i ∈ pans) : evalDraw G call lo ops pans (i :: r) st = some (.pan v, ⟨[], s1.hp⟩) := by
  have : pans.contains i = true := by simpa using hp
  simp only [evalDraw, ho, h, this, if_true]
theorem eqv_draw (hq : CallQ call) : ∀ {r : List Nat} {st st' : St} {ex : Ex} {s : St}, Eqv st st' → evalDraw G call lo ops pans r st = some (ex, s) → ∃ s', evalDraw G call lo ops pans r st' = some (ex, s') ∧ Eqv s s'
  | [], st, st', ex, s, he, h => by simp [evalDraw] at h; obtain ⟨rfl, rfl⟩ := h; exact ⟨st', rfl, he⟩
  | i :: r, st, st', ex, s, he, h => by
    obtain ⟨o, ho, h⟩ := evalDraw_cons h
    rcases h with ⟨s1, h1, h2⟩ | ⟨v, s1, h1, hp, rfl, rfl⟩
    · obtain ⟨s1', e1, e2⟩ := eqv_step hq he h1
      obtain ⟨s', f1, f2⟩ := eqv_draw hq e2 h2
      exact ⟨s', by rw [evalDraw_normal ho e1]; exact f1, f2⟩
    · obtain ⟨s1', e1, e2⟩ := eqv_step hq he h1
      exact ⟨⟨[], s1'.hp⟩, evalDraw_pan ho e1 hp, fun _ => rfl, e2.2⟩
/-- One of them goes first. -/
theorem front (hq : CallQ call) {i : Nat} {r : List Nat} : ∀ {as : List Nat} {st : St} {ex : Ex} {s : St}, (∀ x, x ∈ as → x ∉ pans ∧ ∀ ox oi, ops[x]? = some ox → ops[i]? = some oi → indO ox oi = true ∧ (i ∈ pans → ∀ a, footO ox = some a → a.hw = .no)) →
    evalDraw G call lo ops pans (as ++ i :: r) st = some (ex, s) → ∃ s', evalDraw G call lo ops pans (i :: (as ++ r)) st = some (ex, s') ∧ Eqv s s'
  | [], st, ex, s, _, h => ⟨s, h, Eqv.refl s⟩
  | x :: as, st, ex, s, hall, h => by
    obtain ⟨ox, hox, h⟩ := evalDraw_cons h
    obtain ⟨hxp, hx⟩ := hall x (by simp)
    rcases h with ⟨s1, h1, h2⟩ | ⟨v, s1, h1, hp, _, _⟩
    · obtain ⟨s', f1, f2⟩ := front hq (fun y hy => hall y (by simp [hy])) h2
      obtain ⟨oi, hoi, f1⟩ := evalDraw_cons f1
      obtain ⟨hind, hno⟩ := hx ox oi hox hoi
      rcases f1 with ⟨s2, g1, g2⟩ | ⟨v, s2, g1, hp, rfl, rfl⟩
      · obtain ⟨s1', e1, e2, _⟩ := swap hq hind h1 g1
        obtain ⟨s2', e3, e4⟩ := e2 rfl
        obtain ⟨s'', k1, k2⟩ := eqv_draw hq e4 g2
        refine ⟨s'', ?_, f2.trans k2⟩
        rw [evalDraw_normal hoi e1, List.cons_append, evalDraw_normal hox e3]; exact k1
      · obtain ⟨s1', e1, _, e3⟩ := swap hq hind h1 g1
        have := e3 (by simp) (hno hp)
        refine ⟨⟨[], s1'.hp⟩, evalDraw_pan hoi e1 hp, f2.trans ⟨fun _ => rfl, this⟩⟩
    · exact absurd hp hxp
end
end Go.Proofs.Ytajlmldpbhendab.Rf
end
section
/- A step leaves the frame's boxes where they are. -/
set_option linter.unusedSimpArgs false
set_option linter.unusedVariables false
namespace Go.Proofs.Ytajlmldpbhendab.Rf

def Held (a b : Fr) : Prop := ∀ s cs, a.get s = .box cs → ∃ cs', b.get s = .box cs' ∧ cs'.length = cs.length
theorem Held.refl (a : Fr) : Held a a := fun s cs h => ⟨cs, h, rfl⟩
theorem Held.trans {a b c : Fr} (h : Held a b) (k : Held b c) : Held a c := fun s cs e => by
  obtain ⟨x, h1, h2⟩ := h s cs e
  obtain ⟨y, k1, k2⟩ := k s x h1
  exact ⟨y, k1, k2.trans h2⟩
theorem Fr.get_husk : ∀ (fr : Fr) (s : Nat), fr.husk.get s = (fr.get s).husk
  | [], s => rfl
  | (t, v) :: r, s => by
    simp only [Fr.husk, Fr.get]
    split
    · rfl
    · exact Fr.get_husk r s
theorem Held.set {a : Fr} {t : Nat} {v : AV} (h : (a.get t).loose = true) : Held a (a.set t v) := fun s cs e => by
  rw [Fr.get_set]
  by_cases ht : t = s
  · subst ht; rw [e] at h; simp [AV.loose] at h
  · rw [if_neg ht]; exact ⟨cs, e, rfl⟩
theorem Held.setBox {a : Fr} {t : Nat} {cs ds : List AV} (h : a.get t = .box cs) (hl : ds.length = cs.length) : Held a (a.set t (.box ds)) := fun s cs' e => by
  rw [Fr.get_set]
  by_cases ht : t = s
  · subst ht; rw [if_pos rfl]; rw [h] at e; cases e; exact ⟨ds, rfl, hl⟩
  · rw [if_neg ht]; exact ⟨cs', e, rfl⟩
theorem opd_held (fr : Fr) (x : Opd) : Held fr (opd fr x).2 := by
  cases x with
  | t s tk =>
    simp only [opd]
    cases hv : fr.get s <;> simp only [] <;> first
      | exact Held.refl _
      | (cases tk
         · exact Held.refl _
         · exact Held.set (by rw [hv]; rfl))
  | c v => exact Held.refl _
  | g v => exact Held.refl _
  | f v => exact Held.refl _
theorem opds_held : ∀ (xs : List Opd) (fr : Fr), Held fr (opds fr xs).2
  | [], fr => Held.refl _
  | x :: xs, fr => (opd_held fr x).trans (opds_held xs _)
theorem put_len {cs vs : List AV} {off : Nat} (h : off + vs.length ≤ cs.length) : (put cs off vs).length = cs.length := by
  simp [put]; omega
section
variable {G : Nat → Option (List AV)} {call : CallF} {lo : Nat} {st : St}
theorem behindPut_held {p : AV} {cs ds : List AV} {off : Nat} {st' : St} (hb : behind G st p = some (cs, off)) (hl : ds.length = cs.length) (h : behindPut lo st ds p = some st') : Held st.fr st'.fr := by
  cases p <;> simp only [behindPut] at h <;> try (cases h; done)
  · split at h
    · split at h
      · cases h; exact Held.refl _
      · cases h
    · cases h
  · rename_i s o
    cases h
    simp only [behind] at hb
    split at hb
    · rename_i cs' hg; cases hb; exact Held.setBox hg hl
    · cases hb
theorem evalOp_held {i : IOp} {r : OpR} (h : evalOp G call lo i st = some r) : Held st.fr r.stt.fr := by
  cases i
  case load x m n agg tk =>
    simp only [evalOp] at h
    split at h
    · cases h
    · split at h
      · rename_i cs off hb
        split at h
        · rename_i l hl
          split at h
          · split at h
            · split at h
              · rename_i st' hp
                cases ret1_some h
                refine behindPut_held hb (put_len ?_) hp
                simp only [cut] at hl
                split at hl
                · cases hl; simp; omega
                · cases hl
              · cases h
            · cases h
          · cases ret1_some h; exact Held.refl _
        · cases h
      · cases h
  case store x m v n =>
    simp only [evalOp] at h
    split at h
    · cases h
    · split at h
      · rename_i s hx
        split at h
        · rename_i p tk xs sz hs hne
          split at h
          · rename_i hh
            cases ret1_some h
            refine (opd_held st.fr v).trans ?_
            have h1 : Held (opd st.fr v).2 ((opd st.fr v).2.set p .none) := by
              by_cases hl : ((opd st.fr v).2.get p).loose = true
              · exact Held.set hl
              · exact absurd (opd_lastr_loose hx (by simpa using hl)) (by simp)
            refine h1.trans (fun t cs e => ?_)
            show ∃ cs', ((((opd st.fr v).2.set p .none).set s _).get t) = _ ∧ _
            rw [Fr.get_set]
            by_cases ht : s = t
            · subst ht
              rw [Fr.get_set, if_neg hh.2.2.1] at e
              rw [hs] at e; cases e
            · rw [if_neg ht]; exact ⟨cs, e, rfl⟩
          · cases h
        · cases h
      · split at h
        · rename_i cs off hb
          split at h
          · rename_i hn
            split at h
            · rename_i st' hp
              cases ret1_some h
              exact (opd_held st.fr v).trans (behindPut_held hb (put_len (by omega)) hp)
            · cases h
          · cases h
        · cases h
  all_goals
    simp only [evalOp] at h
    repeat' split at h
    all_goals first
      | (cases h; done)
      | (cases ret1_some h; exact Held.refl _)
      | (cases ret1_some h; exact opd_held _ _)
      | (cases ret1_some h; exact opds_held _ _)
      | (cases h; exact Held.refl _)
      | (cases h; exact opd_held _ _)
      | (cases h; exact opds_held _ _)
theorem put_held {d : Option Nat} {v : AV} {s1 : St} (h : st.put d v = some s1) : Held st.fr s1.fr := by
  cases d with
  | none => simp [St.put] at h; subst h; exact Held.refl _
  | some d =>
    simp only [St.put] at h
    split at h
    · rename_i hl; cases h; exact Held.set hl
    · cases h
theorem evalOps_held : ∀ {os : List IOper} {st : St} {ex : Ex} {s1 : St}, evalOps G call lo os st = some (ex, s1) → Held st.fr s1.fr
  | [], st, ex, s1, h => by simp [evalOps] at h; obtain ⟨_, rfl⟩ := h; exact Held.refl _
  | o :: r, st, ex, s1, h => by
    simp only [evalOps] at h
    split at h
    · split at h
      · rename_i v st' he
        split at h
        · rename_i st'' hp
          exact (evalOp_held he).trans ((put_held hp).trans (evalOps_held h))
        · cases h
      · rename_i v st' he
        cases h; exact evalOp_held he
      · cases h
    · split at h
      · rename_i st'' hp; exact (put_held hp).trans (evalOps_held h)
      · cases h
    · cases h
end
/-- what is left of a frame -/
theorem Rel.husk {G : Nat → Option (List AV)} {g : Gh} {st : St} {tm : Array Value} {w : World} (k : Rel G g st [] tm w) {fr0 : Fr} (h : Held fr0 st.fr) : Rel G g ⟨fr0.husk, st.hp⟩ [] tm w := by
  refine ⟨fun s => ?_, fun j v cv hj => by simp at hj, k.hp, k.fresh, k.gl⟩
  simp only
  rw [Fr.get_husk]
  cases hv : fr0.get s <;> try (simp [AV.husk, VF, VX, V, Owns]; done)
  rename_i cs
  obtain ⟨cs', h1, h2⟩ := h s cs hv
  have f := k.fr s
  rw [h1] at f
  simp only [AV.husk, VF] at f ⊢
  obtain ⟨vs, ty, f1, f2, ⟨f3, f4⟩, f5, f6⟩ := f
  refine ⟨vs, ty, f1, f2, ⟨VS.mk (by rw [f3.len]; simpa using h2) (fun i v u hv hu => ?_), f4⟩, f5, fun i xs sz e cv hc _ => ?_⟩
  · rw [List.getElem?_map] at hv
    cases hc : cs[i]? <;> rw [hc] at hv <;> simp at hv
    subst hv; simp [V]
  · rw [List.getElem?_map] at hc
    cases hcc : cs[i]? <;> rw [hcc] at hc <;> simp at hc
end Go.Proofs.Ytajlmldpbhendab.Rf
end
section
/- A slice that is grown, its last element stored, and stored itself: the two stores in either order. -/
set_option linter.unusedSimpArgs false
set_option linter.unusedVariables false
namespace Go.Proofs.Ytajlmldpbhendab.Rf

def setCells : World → Nat → Nat → List Value → World
  | w, _, _, [] => w
  | w, b, q, v :: vs => setCells (w.setCell ⟨b, q, none⟩ v) b (q + 1) vs
theorem setCell_comm (w : World) {a c : Addr} (h : a.block ≠ c.block) (u v : Value) : (w.setCell a u).setCell c v = (w.setCell c v).setCell a u := by
  simp only [World.setCell, World.mk.injEq, and_true, true_and]
  refine Array.ext_getElem? fun i => ?_
  simp only [Array.getElem?_modify]
  by_cases h1 : a.block = i
  · by_cases h2 : c.block = i
    · exact absurd (h1.trans h2.symm) h
    · simp [h1, h2]
  · by_cases h2 : c.block = i
    · simp [h1, h2]
    · simp [h1, h2]
theorem setCells_comm {b : Nat} {c : Addr} (h : b ≠ c.block) (u : Value) : ∀ (vs : List Value) (q : Nat) (w : World), setCells (w.setCell c u) b q vs = (setCells w b q vs).setCell c u
  | [], _, _ => rfl
  | v :: vs, q, w => by
    simp only [setCells]
    rw [setCell_comm w (a := c) (c := ⟨b, q, none⟩) (fun e => h e.symm)]
    exact setCells_comm h u vs (q + 1) _
theorem cell_setCells {b : Nat} {c : Addr} (h : b ≠ c.block) : ∀ (vs : List Value) (q : Nat) (w : World), (setCells w b q vs).cell? c = w.cell? c
  | [], _, _ => rfl
  | v :: vs, q, w => by
    simp only [setCells]
    rw [cell_setCells h vs, World.cell?_setCell_other]
    intro e; exact h (by rw [← e])
theorem frozen_setCells {b : Nat} {c : Addr} : ∀ (vs : List Value) (q : Nat) (w : World), (setCells w b q vs).frozen? c = w.frozen? c
  | [], _, _ => rfl
  | v :: vs, q, w => by
    simp only [setCells]
    rw [frozen_setCells vs, World.frozen?_setCell]
section
variable {P : Program} {G : Nat → Option (List AV)} {g g' : Gh} {st : St} {a : Act} {w w' : World} {o : Oper} {tm : Array Value} {call : CallF} {lo : Nat}
theorem run_storeCells_put (b q : Nat) : ∀ (vs : List Value) (i : Nat) (w : World), (∀ j, j < vs.length → (∃ u, w.cell? ⟨b, q + i + j, none⟩ = some u) ∧ w.frozen? ⟨b, q + i + j, none⟩ = false) → Ones vs →
    (storeCells ⟨b, q, none⟩ vs i).run P w = .ok () (setCells w b (q + i) vs)
  | [], i, w, _, _ => rfl
  | v :: vs, i, w, h, h1 => by
    obtain ⟨⟨u, hu⟩, hf⟩ := h 0 (by simp)
    simp only [Nat.add_zero] at hu hf
    have hv := h1 v (by simp)
    have ne : ∀ j, (⟨b, q + i, none⟩ : Addr) ≠ ⟨b, q + i + (j + 1), none⟩ := fun j e => by injection e with _ e2; omega
    have r1 := run_storeCells_put b q vs (i + 1) (w.setCell ⟨b, q + i, none⟩ v) (fun j hj => by
      have := h (j + 1) (by simpa using hj)
      rw [show q + (i + 1) + j = q + i + (j + 1) by omega, World.cell?_setCell_other _ _ _ _ (ne j), World.frozen?_setCell]; exact this) (fun x hx => h1 x (by simp [hx]))
    simp only [storeCells, Sem.run_bind, Addr.add_lit, run_store P w _ v _ hv, hu, hf, Bool.false_eq_true, if_false, Result.andThen_ok]
    rw [r1]; rfl
theorem run_storeVar_put {t : TypeId} {n : Nat} {agg : Bool} (h : tyOk P t n agg = true) {b q : Nat} {cu : Value} (hn : cu.cells.toList.length = n) (h1 : Ones cu.cells.toList)
    (hc : ∀ j, j < n → (∃ u, w.cell? ⟨b, q + j, none⟩ = some u) ∧ w.frozen? ⟨b, q + j, none⟩ = false) : (storeVar t ⟨b, q, none⟩ cu).run P w = .ok () (setCells w b q cu.cells.toList) := by
  have hsz : (sizeOf t).run P w = .ok n w := by
    unfold tyOk at h
    cases hi : P.info? t with
    | none => simp [hi] at h
    | some i =>
      cases hu : P.underlying t with
      | none => simp [hi, hu] at h
      | some d =>
        simp only [hi, hu, Bool.and_eq_true, decide_eq_true_eq] at h
        simp [sizeOf, typeInfo, hi, h.1.1]
  have r1 := run_storeCells_put (P := P) b q cu.cells.toList 0 w (fun j hj => by rw [Nat.add_zero]; exact hc j (by rw [← hn]; exact hj)) h1
  rw [Nat.add_zero] at r1
  simp only [storeVar, Sem.run_bind, hsz, Result.andThen_ok]
  rw [if_neg (by simp at hn; simpa using hn)]
  simpa using r1
theorem step_run (hc : CallOK P G call) {nt : NT} {ops : Array Oper} {io : IOper} (hk : chkOper P nt.toNK ops io o = true) (k : Rel G g st [] a.tmps w) (hn : nt.ok a.tmps) (hg : io.guard = none) {st' : St}
    (hr : evalOps G call lo [io] st = some (.normal, st')) {n : Next} {x : Value} (hrun : (execOp a.eval o).run P w = .ok n w') (hx : (n = .skip ∧ x = undef) ∨ n = .value x) :
    ∃ g', Rel G g' st' [] (a.put o.dst x).tmps w' ∧ Stay g w g' w' ∧ nt.ok (a.put o.dst x).tmps ∧ (a.put o.dst x).defers = a.defers := by
  simp only [chkOper, Bool.and_eq_true, decide_eq_true_eq] at hk
  obtain ⟨⟨⟨h1, h2⟩, h3⟩, h4⟩ := hk
  simp only [evalOps, hg, wanted] at hr
  cases he : evalOp G call lo io.op st with
  | none => rw [he] at hr; simp at hr
  | some e =>
    rw [he] at hr
    have := op_sound hc k h4 he (fun a' w'' => ∃ g', Rel G g' st' [] a'.tmps w'' ∧ Stay g w g' w'' ∧ nt.ok a'.tmps ∧ a'.defers = a.defers) (fun _ _ _ => True) (fun g1 w1 v s1 cv e1 k1 t1 => by
      subst e1
      simp only at hr
      cases hp : s1.put io.dst v with
      | none => rw [hp] at hr; simp at hr
      | some s2 =>
        rw [hp] at hr; simp at hr; subst hr
        obtain ⟨g2, k2, s3, e1, e2⟩ := St.put_ok k1 hn h2 hp
        rw [← h1]
        exact ⟨g2, k2, t1.trans s3, e1, e2⟩) (fun _ _ _ _ _ _ _ _ _ _ => trivial)
    unfold Oper.wp at this
    rw [hrun] at this
    rcases hx with ⟨rfl, rfl⟩ | rfl
    · exact this
    · exact this

/-- what stands where the two are still to be stored -/
structure Late (P : Program) (w : World) (a : Act) (o7 o8 : Oper) where
  bA : Nat
  qA : Nat
  vs : List Value
  c0 : Addr
  u : Value
  ne : bA ≠ c0.block
  run7 : ∀ w', (∀ x : Addr, x.block = bA → w'.cell? x = w.cell? x ∧ w'.frozen? x = w.frozen? x) → (execOp a.eval o7).run P w' = .ok .skip (setCells w' bA qA vs)
  run8 : ∀ w', w'.cell? c0 = w.cell? c0 → w'.frozen? c0 = w.frozen? c0 → (execOp a.eval o8).run P w' = .ok .skip (w'.setCell c0 u)
theorem late_facts (k : Rel G g st [] a.tmps w) {p q b n : Nat} {v : Opd} {o7 o8 : Oper} (hk7 : chkOp P (.store (.t p false) (.last q) v n) o7.op = true) (hk8 : chkOp P (.store (.t b false) (.loc b) (.t q true) 1) o8.op = true)
    {r7 : OpR} (h7 : evalOp G call lo (.store (.t p false) (.last q) v n) st = some r7) {c : AV} {cs : List AV} (hb : st.fr.get b = .box (c :: cs)) : Nonempty (Late P w a o7 o8) := by
  simp only [chkOp] at hk7 hk8
  split at hk7
  rotate_left
  · cases hk7
  rename_i t7 y7 u7 ho7
  split at hk8
  rotate_left
  · cases hk8
  rename_i t8 y8 u8 ho8
  simp only [Bool.and_eq_true] at hk7 hk8
  obtain ⟨⟨x7, v7⟩, ty7⟩ := hk7
  obtain ⟨⟨x8, v8⟩, ty8⟩ := hk8
  have hty7 : ∃ agg, tyOk P t7 n agg = true := by
    simp only [Bool.or_eq_true] at ty7; rcases ty7 with h | h <;> exact ⟨_, h⟩
  obtain ⟨agg7, hty7⟩ := hty7
  have hty8 : ∃ agg, tyOk P t8 1 agg = true := by
    simp only [Bool.or_eq_true] at ty8; rcases ty8 with h | h <;> exact ⟨_, h⟩
  obtain ⟨agg8, hty8⟩ := hty8
  have hpos : 0 < n := by
    unfold tyOk at hty7
    cases hi : P.info? t7 <;> cases hu : P.underlying t7 <;> simp [hi, hu] at hty7
    exact hty7.1.2
  simp only [evalOp] at h7
  split at h7
  · cases h7
  rename_i hpm
  simp only [not_or, Bool.not_eq_false] at hpm
  obtain ⟨hp, hm⟩ := hpm
  have hls : (opd (opd st.fr v).2 (.t p false)).1 = .lastr q := by
    cases hx : (opd (opd st.fr v).2 (.t p false)).1 <;> rw [hx] at hm <;> simp only [memOk] at hm <;> first | (simp at hm; done) | (rw [Nat.eq_of_beq_eq_true hm])
  rw [hls] at h7
  simp only at h7
  cases hs : (opd st.fr v).2.get q <;> rw [hs] at h7 <;> try (simp at h7; done)
  rename_i xs sz
  simp only at h7
  split at h7
  rotate_left
  · cases h7
  rename_i hh
  obtain ⟨hl, hns, hpq, hno⟩ := hh
  subst hns
  obtain ⟨g1, k1, s1, _⟩ := k.take v7
  simp only [List.nil_append] at k1
  have hr := k1.read x7
  simp only at hr
  rw [hls] at hr
  simp only [VX] at hr
  obtain ⟨xs', sz', ad, cc, r1, r2, r3⟩ := hr
  rw [hs] at r1; cases r1
  have hu := k1.ps 0 _ _ rfl
  rw [VF_loose (AV.loose_of_plain hp), VX_plain hp] at hu
  have hc := V.cells hp hu.1
  have hcn : (Act.opd a.tmps u7).cells.toList.length = n := by rw [hc.1.len]; exact hl
  have hf := k1.fr q
  simp only at hf
  rw [hs, r2] at hf
  simp only [VF] at hf
  obtain ⟨ad', c', f1, f2, f3, f4, f5⟩ := hf
  cases f1
  obtain ⟨bA, qA, sp⟩ := ad
  simp only at f4; subst f4
  obtain ⟨hE, htail⟩ := f5.get
  simp only at hE htail r3
  have hle : (xs.length + 1) * n ≤ cc * n := Nat.mul_le_mul_right n f2
  rw [Nat.add_mul, Nat.one_mul] at hle
  have hbx := k1.fr b
  simp only at hbx
  obtain ⟨cs', hb1, hb2⟩ := opd_held st.fr v b _ hb
  rw [hb1] at hbx
  simp only [VF] at hbx
  obtain ⟨vs8, ty, z1, z2, ⟨z3, z4⟩, z5, z6⟩ := hbx
  have hvl : vs8.length = cs.length + 1 := by rw [z3.len]; simpa using hb2
  obtain ⟨u8v, vr, hu8⟩ : ∃ x r, vs8 = x :: r := by
    match vs8, hvl with
    | x :: r, _ => exact ⟨x, r, rfl⟩
  subst hu8
  have hcell : w.cell? ⟨g1.bx (.fr b), 0, none⟩ = some u8v := by simp [World.cell?, z2]
  have hfrz : w.frozen? ⟨g1.bx (.fr b), 0, none⟩ = false := by simp [World.frozen?, z2]
  have hne : bA ≠ g1.bx (.fr b) := fun e => by
    have h1 := (htail (qA + xs.length * n) (by omega) (by omega)).1
    rw [e, z5] at h1; cases h1
  cases y8 <;> simp [opdOk] at x8
  subst x8
  cases u8 <;> simp [opdOk] at v8
  subst v8
  refine ⟨{ bA := bA, qA := qA + xs.length * n, vs := (Act.opd a.tmps u7).cells.toList, c0 := ⟨g1.bx (.fr b), 0, none⟩, u := a.tmps.getD q undef, ne := hne, run7 := fun w' hw => ?_, run8 := fun w' hw1 hw2 => ?_ }⟩
  · have hrun := run_storeVar_put (P := P) (w := w') hty7 (b := bA) (q := qA + xs.length * n) hcn hc.2 (fun j hj => by
      obtain ⟨e1, e2⟩ := hw ⟨bA, qA + xs.length * n + j, none⟩ rfl
      rw [e1, e2]; exact (htail _ (by omega) (by omega)).2)
    simp [execOp, ho7, Act.eval_eq, r3, Instr.storeAt, Instr.sureAddr, hrun]
  · have hcu : (a.tmps.getD q undef).cells.toList = [a.tmps.getD q undef] := by rw [r2]; rfl
    have hrun := run_storeVar_put (P := P) (w := w') hty8 (b := g1.bx (.fr b)) (q := 0) (cu := a.tmps.getD q undef) (by rw [hcu]; rfl) (by rw [hcu, r2]; intro x hx; simp at hx; subst hx; rfl) (fun j hj => by
      have : j = 0 := by omega
      subst this
      exact ⟨⟨u8v, by rw [Nat.zero_add, hw1, hcell]⟩, by rw [Nat.zero_add, hw2, hfrz]⟩)
    rw [hcu] at hrun
    simp only [setCells] at hrun
    have e1 : Act.opd a.tmps (.tmp b) = .pointer (some ⟨g1.bx (.fr b), 0, none⟩) := z1
    have e2 : (storeVar t8 ⟨g1.bx (.fr b), 0, none⟩ (Act.opd a.tmps (.tmp q))).run P w' = .ok () (w'.setCell ⟨g1.bx (.fr b), 0, none⟩ (a.tmps.getD q undef)) := hrun
    simp [execOp, ho8, Act.eval_eq, Instr.storeAt, Instr.sureAddr, e1, e2]
theorem opd_box_back {fr : Fr} {x : Opd} {b : Nat} {cs : List AV} (h : (opd fr x).2.get b = .box cs) : fr.get b = .box cs := by
  cases x with
  | t s tk =>
    simp only [opd] at h
    cases hv : fr.get s <;> rw [hv] at h <;> simp only [] at h <;> first
      | exact h
      | (cases tk
         · exact h
         · simp only [if_true] at h
           rw [Fr.get_set] at h
           split at h
           · rename_i e; subst e
             simp [AV.cp, AV.cpA, AV.cp1] at h
           · exact h)
  | c v => exact h
  | g v => exact h
  | f v => exact h
theorem opd_pend_back {fr : Fr} {x : Opd} {b : Nat} {xs : List AV} {sz : Nat} (h : (opd fr x).2.get b = .pend xs sz) : fr.get b = .pend xs sz := by
  cases x with
  | t s tk =>
    simp only [opd] at h
    cases hv : fr.get s <;> rw [hv] at h <;> simp only [] at h <;> first
      | exact h
      | (cases tk
         · exact h
         · simp only [if_true] at h
           rw [Fr.get_set] at h
           split at h
           · rename_i e; subst e
             simp [AV.cp, AV.cpA, AV.cp1] at h
           · exact h)
  | c v => exact h
  | g v => exact h
  | f v => exact h
theorem late_run6 (k : Rel G g st [] a.tmps w) {q sz : Nat} {tk : Bool} {i : Opd} {o6 : Oper} (hk6 : chkOp P (.iaddrL (.t q tk) i sz) o6.op = true) {r6 : OpR} (h6 : evalOp G call lo (.iaddrL (.t q tk) i sz) st = some r6) {xs : List AV} {sz' : Nat} (hv : st.fr.get q = .pend xs sz') :
    ∃ cv, ∀ w', (execOp a.eval o6).run P w' = .ok (.value cv) w' := by
  simp only [chkOp] at hk6
  split at hk6
  rotate_left
  · cases hk6
  rename_i t y u ho
  simp only [Bool.and_eq_true] at hk6
  obtain ⟨⟨hx, hi⟩, hf⟩ := hk6
  have f := k.fr q; rw [hv] at f; simp only [VF] at f
  obtain ⟨ad, c, e1, e2, e3, e4, e5⟩ := f
  cases y <;> simp [opdOk] at hx
  subst hx
  have ho1 : (opd st.fr (.t q tk)).1 = .none := by simp only [opd, hv]
  simp only [evalOp, ho1] at h6
  cases hj : (opd st.fr i).1 <;> rw [hj] at h6 <;> try (simp at h6; done)
  rename_i kk j
  simp only [hv] at h6
  split at h6
  rotate_left
  · cases h6
  rename_i hh
  obtain ⟨h1, rfl⟩ := hh
  have hri := k.read hi; rw [hj] at hri; simp only [VX, V] at hri
  obtain ⟨ab, ao, asp⟩ := ad
  simp only at e4; subst e4
  refine ⟨.pointer (some ⟨ab, ao + xs.length * sz', none⟩), fun w' => ?_⟩
  have h2 : j.toNat = xs.length := by omega
  have := run_indexAt_slice (w := w') hf (b := ab) (q := ao) (n := xs.length + 1) (c := c) (kk := kk) (j := j) (by omega) (by omega)
  rw [h2] at this
  simp [execOp, ho, Act.eval_eq, hri, this]
  rw [show Act.opd a.tmps (Operand.tmp q) = _ from e1, this]; rfl
end
end Go.Proofs.Ytajlmldpbhendab.Rf
end
section
/- Drawn regions. -/
set_option linter.unusedSimpArgs false
set_option linter.unusedVariables false
namespace Go.Proofs.Ytajlmldpbhendab.Rf

/-! what must come before what -/
def maskOf (ms : List Nat) (o : Oper) : Nat := o.after.toList.foldl (fun s e => if Region.binds .any e then s ||| (2 ^ e.on ||| ms.getD e.on 0) else s) 0
def mkMasks : List Oper → List Nat → List Nat
  | [], acc => acc
  | o :: r, acc => mkMasks r (acc ++ [maskOf acc o])
def chkMasks (ms : List Nat) : Nat → List Oper → Bool
  | _, [] => true
  | j, o :: r => Nat.beq (ms.getD j 0) (maskOf ms o) && o.after.toList.all (fun e => !Region.binds .any e || Nat.blt e.on j) && chkMasks ms (j + 1) r
def bef (ms : List Nat) (y x : Nat) : Bool := (ms.getD y 0).testBit x
def quietO (o : IOper) : Bool := match footO o with | some F => (match F.hw with | .no => true | _ => false) | none => false
def pairOk (ms : List Nat) (ios : List IOper) (pans : List Nat) (x y : Nat) : Bool :=
  bef ms y x || (match ios[x]?, ios[y]? with | some ox, some oy => indO ox oy && !pans.contains x && (!pans.contains y || quietO ox) | _, _ => false)
def pairsOk (ms : List Nat) (ios : List IOper) (pans : List Nat) : List Nat → Bool
  | [] => true
  | x :: r => r.all (pairOk ms ios pans x) && pairsOk ms ios pans r
def nodupN : List Nat → Bool
  | [] => true
  | x :: r => !r.contains x && nodupN r
/-- A slice that is grown, its last element stored, and stored itself. -/
def late3 (i6 i7 i8 : IOper) : Bool :=
  match i6.op, i7.op, i8.op with
  | .iaddrL (.t q _) _ _, .store (.t p t1) (.last q1) _ _, .store (.t b t2) (.loc b1) (.t q2 t3) n8 =>
    decide (i6.dst = some p) && i6.guard.isNone && i7.dst.isNone && i7.guard.isNone && i8.dst.isNone && i8.guard.isNone && (Nat.beq q q1 && Nat.beq q q2 && Nat.beq b b1) && (!Nat.beq b p && !Nat.beq q p && !Nat.beq b q) && (!t1 && !t2 && t3 && Nat.beq n8 1)
  | _, _, _ => false
def lateOk (ms : List Nat) (ios : List IOper) : List Nat → Bool
  | [] => true
  | [x6, x7, x8] => (match ios[x6]?, ios[x7]?, ios[x8]? with | some i6, some i7, some i8 => late3 i6 i7 i8 | _, _, _ => false) && bef ms x7 x6
  | _ => false
def drawPart (ms : List Nat) (ios : List IOper) (pans : List Nat) (R L : List Nat) : Bool :=
  pairsOk ms ios pans R && lateOk ms ios L && L.all fun i => !pans.contains i && R.all (bef ms i)
def drawOk (ios : List IOper) (os : List Oper) (ord pans : List Nat) : Bool :=
  (fun ms => chkMasks ms 0 os && (drawPart ms ios pans ord [] || drawPart ms ios pans (ord.take (ord.length - 3)) (ord.drop (ord.length - 3)))) (mkMasks os []) && nodupN ord && Nat.beq ord.length os.length && ord.all (fun i => Nat.blt i os.length)

section
variable {P : Program} {G : Nat → Option (List AV)} {call : CallF} {lo : Nat}

theorem nodupN_spec : ∀ {l : List Nat}, nodupN l = true → l.Nodup
  | [], _ => List.nodup_nil
  | x :: r, h => by
    simp only [nodupN, Bool.and_eq_true] at h
    exact List.nodup_cons.2 ⟨by simpa using h.1, nodupN_spec h.2⟩
theorem nodup_le : ∀ (n : Nat) (l : List Nat), l.Nodup → (∀ x, x ∈ l → x < n) → l.length ≤ n
  | 0, l, _, h => by
    cases l with
    | nil => simp
    | cons x r => exact absurd (h x (by simp)) (by omega)
  | n + 1, l, hn, h => by
    by_cases hm : n ∈ l
    · have := nodup_le n (l.erase n) (hn.erase n) (fun x hx => by
        have h1 := (hn.mem_erase_iff).1 hx
        have := h x h1.2
        omega)
      rw [List.length_erase_of_mem hm] at this
      omega
    · have := nodup_le n l hn (fun x hx => by
        have h1 := h x hx
        have : x ≠ n := fun e => hm (e ▸ hx)
        omega)
      omega
theorem mask_fold {ms : List Nat} : ∀ {l : List Edge} {s x : Nat}, (l.foldl (fun s e => if Region.binds .any e then s ||| (2 ^ e.on ||| ms.getD e.on 0) else s) s).testBit x = true →
    s.testBit x = true ∨ ∃ e, e ∈ l ∧ Region.binds .any e = true ∧ (e.on = x ∨ bef ms e.on x = true)
  | [], s, x, h => .inl h
  | e :: l, s, x, h => by
    simp only [List.foldl_cons] at h
    rcases mask_fold h with h | ⟨e', h1, h2, h3⟩
    · split at h
      · rename_i hb
        rw [Nat.testBit_or, Nat.testBit_or] at h
        simp only [Bool.or_eq_true] at h
        rcases h with h | h | h
        · exact .inl h
        · rw [Nat.testBit_two_pow] at h; exact .inr ⟨e, by simp, hb, .inl (by simpa using h)⟩
        · exact .inr ⟨e, by simp, hb, .inr h⟩
      · exact .inl h
    · exact .inr ⟨e', List.mem_cons_of_mem _ h1, h2, h3⟩
theorem chkMasks_get {ms : List Nat} : ∀ {os : List Oper} {k : Nat}, chkMasks ms k os = true → ∀ {j : Nat} {o : Oper}, os[j]? = some o → ms.getD (k + j) 0 = maskOf ms o ∧ ∀ e, e ∈ o.after → Region.binds .any e = true → e.on < k + j
  | [], _, _, j, o, h => by simp at h
  | x :: r, k, hc, j, o, h => by
    simp only [chkMasks, Bool.and_eq_true] at hc
    obtain ⟨⟨h1, h2⟩, h3⟩ := hc
    cases j with
    | zero =>
      simp at h; subst h
      refine ⟨Nat.eq_of_beq_eq_true h1, fun e he hb => ?_⟩
      simp only [List.all_eq_true, Bool.or_eq_true, Bool.not_eq_true'] at h2
      rcases h2 e (Array.mem_toList_iff.2 he) with h | h
      · rw [hb] at h; cases h
      · simpa using h
    | succ j =>
      have := chkMasks_get h3 (j := j) (by simpa using h)
      rwa [show k + 1 + j = k + (j + 1) by omega] at this
def Closed (ops : Array Oper) (listed : Array Bool) : Prop := ∀ (j : Nat) o, ops[j]? = some o → listed.getD j false = true → ∀ e, e ∈ o.after → Region.binds .any e = true → listed.getD e.on false = true
theorem bef_listed {ms : List Nat} {ops : Array Oper} (hm : chkMasks ms 0 ops.toList = true) {listed : Array Bool} (hc : Closed ops listed) : ∀ (y : Nat) {o : Oper} {x : Nat}, ops[y]? = some o → (∀ e, e ∈ o.after → Region.binds .any e = true → listed.getD e.on false = true) → bef ms y x = true → listed.getD x false = true := by
  intro y
  induction y using Nat.strongRecOn with
  | _ y ih =>
    intro o x ho hall hb
    obtain ⟨h1, h2⟩ := chkMasks_get hm (j := y) (o := o) (by rw [Array.getElem?_toList]; exact ho)
    rw [Nat.zero_add] at h1 h2
    unfold bef at hb
    rw [h1] at hb
    rcases mask_fold hb with h | ⟨e, e1, e2, e3⟩
    · simp at h
    · have he := Array.mem_toList_iff.1 e1
      have hl := hall e he e2
      rcases e3 with rfl | e3
      · exact hl
      · have hlt := h2 e he e2
        have hy := (Array.getElem?_eq_some_iff.1 ho).1
        have ho2 : ops[e.on]? = some ops[e.on] := Array.getElem?_eq_getElem (by omega)
        exact ih e.on hlt ho2 (hc _ _ ho2 hl) e3
theorem pairsOk_split {ms : List Nat} {ios : List IOper} {pans : List Nat} : ∀ {as : List Nat} {i : Nat} {r : List Nat}, pairsOk ms ios pans (as ++ i :: r) = true → (∀ x, x ∈ as → pairOk ms ios pans x i = true) ∧ pairsOk ms ios pans (as ++ r) = true
  | [], i, r, h => by simp only [List.nil_append, pairsOk, Bool.and_eq_true] at h; exact ⟨fun x hx => by simp at hx, by simpa using h.2⟩
  | x :: as, i, r, h => by
    simp only [List.cons_append, pairsOk, Bool.and_eq_true, List.all_eq_true] at h
    obtain ⟨h1, h2⟩ := pairsOk_split h.2
    refine ⟨fun y hy => ?_, ?_⟩
    · rcases List.mem_cons.1 hy with rfl | hy
      · exact h.1 i (by simp)
      · exact h1 y hy
    · simp only [List.cons_append, pairsOk, Bool.and_eq_true, List.all_eq_true]
      exact ⟨fun z hz => h.1 z (by simp at hz ⊢; rcases hz with h | h <;> simp [h]), h2⟩
theorem Rel.eqv {g : Gh} {s s' : St} {tm : Array Value} {w : World} (k : Rel G g s [] tm w) (e : Eqv s s') : Rel G g s' [] tm w :=
  ⟨fun t => by
    rw [e.1 t]
    exact VF.like3 (fun u o hv cs hc => ⟨cs, by rw [e.1 u]; exact hc⟩) (fun u hv xs sz hc => ⟨by rw [e.1 u]; exact hc, rfl⟩) (k.fr t), fun j v cv hj => by simp at hj, by rw [e.2]; exact k.hp, k.fresh, k.gl⟩
theorem Eqv.symm {a b : St} (h : Eqv a b) : Eqv b a := ⟨fun s => (h.1 s).symm, h.2.symm⟩
/-- where a draw ends -/
def outS (B : Fr) (s : St) : Ex → St
  | .normal => s
  | _ => ⟨B.husk, s.hp⟩
def Rem (ops : Array Oper) (listed : Array Bool) (R : List Nat) : Prop := ∀ j, j ∈ R ↔ j < ops.size ∧ listed.getD j true = false
theorem ready_mem {ops : Array Oper} {listed : Array Bool} {R : List Nat} (hR : Rem ops listed R) {i : Nat} (hi : i ∈ Region.ready .any ops listed) : i ∈ R ∧ ∃ o, ops[i]? = some o ∧ ∀ e, e ∈ o.after → Region.binds .any e = true → listed.getD e.on false = true := by
  rw [mem_ready] at hi
  obtain ⟨i1, o, ho, i2⟩ := hi
  exact ⟨(hR i).2 ⟨(Array.getElem?_eq_some_iff.1 ho).1, i1⟩, o, ho, i2⟩
theorem no_ready {ops : Array Oper} {ms : List Nat} (hm : chkMasks ms 0 ops.toList = true) {listed : Array Bool} {R : List Nat} (hR : Rem ops listed R) (hsz : listed.size = ops.size) (hr : Region.ready .any ops listed = []) : R = [] := by
  refine Classical.byContradiction fun hn => ?_
  have hall : ∀ j, ¬ j ∈ R := by
    intro j
    induction j using Nat.strongRecOn with
    | _ j ih =>
      intro hj
      obtain ⟨h1, h2⟩ := (hR j).1 hj
      have ho : ops[j]? = some ops[j] := Array.getElem?_eq_getElem h1
      have hmem : j ∈ Region.ready .any ops listed := by
        rw [mem_ready]
        refine ⟨h2, ops[j], ho, fun e he hb => ?_⟩
        have hlt := (chkMasks_get hm (j := j) (o := ops[j]) (by rw [Array.getElem?_toList]; exact ho)).2 e he hb
        rw [Nat.zero_add] at hlt
        have hne := ih e.on hlt
        have hls : e.on < listed.size := by omega
        have hx : listed.getD e.on true = true := by
          by_cases hx : listed.getD e.on true = true
          · exact hx
          · exact absurd ((hR e.on).2 ⟨by omega, by simpa using hx⟩) hne
        simpa [hls] using hx
      rw [hr] at hmem; simp at hmem
  cases R with
  | nil => exact hn rfl
  | cons x r => exact hall x (by simp)
theorem ready_none {ops : Array Oper} {listed : Array Bool} (hR : Rem ops listed []) : Region.ready .any ops listed = [] := by
  cases hrd : Region.ready .any ops listed with
  | nil => rfl
  | cons x r => exact absurd (ready_mem hR (i := x) (by rw [hrd]; simp)).1 (by simp)
theorem any_done {ops : Array Oper} {Q : Exit → Act → World → Prop} {listed : Array Bool} (hR : Rem ops listed []) {a : Act} {w : World} (h : Q .normal a w) : ∀ fuel, wpAny P .any ops Q fuel listed a w
  | 0 => ⟨ready_none hR, h⟩
  | fuel + 1 => ⟨fun _ => h, fun i hi => by rw [ready_none hR] at hi; simp at hi⟩
theorem any_step {ops : Array Oper} {ms : List Nat} (hm : chkMasks ms 0 ops.toList = true) {Q : Exit → Act → World → Prop} {listed : Array Bool} {R : List Nat} (hR : Rem ops listed R) (hsz : listed.size = ops.size) (hne : R ≠ []) {fuel : Nat} {a : Act} {w : World}
    (h : ∀ i, i ∈ R → ∀ o, ops[i]? = some o → (∀ e, e ∈ o.after → Region.binds .any e = true → listed.getD e.on false = true) → wpOp P ops Q i (wpAny P .any ops Q fuel (listed.setIfInBounds i true)) a w) : wpAny P .any ops Q (fuel + 1) listed a w :=
  ⟨fun hr => absurd (no_ready hm hR hsz hr) hne, fun i hi => by
    obtain ⟨h1, o, h2, h3⟩ := ready_mem hR hi
    exact h i h1 o h2 h3⟩
theorem rem_set {ops : Array Oper} {listed : Array Bool} {R R' : List Nat} (hR : Rem ops listed R) (hsz : listed.size = ops.size) {i : Nat} (hi : i ∈ R) (hR' : ∀ j, j ∈ R' ↔ j ∈ R ∧ j ≠ i) : Rem ops (listed.setIfInBounds i true) R' := by
  intro j
  rw [hR' j]
  by_cases hji : i = j
  · subst hji
    have h1 := ((hR i).1 hi).1
    have : i < listed.size := by omega
    simp [this]
  · rw [getD_set_ne true hji, hR j]
    have hne : j ≠ i := fun h => hji h.symm
    simp [hne]
theorem closed_set {ops : Array Oper} {listed : Array Bool} (hcl : Closed ops listed) {i : Nat} {o : Oper} (ho : ops[i]? = some o) (i2 : ∀ e, e ∈ o.after → Region.binds .any e = true → listed.getD e.on false = true) : Closed ops (listed.setIfInBounds i true) := by
  intro j oj hoj hlj e he hb
  by_cases hji : i = j
  · subst hji
    rw [ho] at hoj; cases hoj
    exact getD_set_true (i2 e he hb)
  · rw [getD_set_ne false hji] at hlj
    exact getD_set_true (hcl j oj hoj hlj e he hb)
theorem not_bef {ops : Array Oper} {ms : List Nat} (hm : chkMasks ms 0 ops.toList = true) {listed : Array Bool} {R : List Nat} (hR : Rem ops listed R) (hsz : listed.size = ops.size) (hcl : Closed ops listed) {i x : Nat} {o : Oper} (ho : ops[i]? = some o) (i2 : ∀ e, e ∈ o.after → Region.binds .any e = true → listed.getD e.on false = true) (hx : x ∈ R) : bef ms i x = false := by
  cases hb : bef ms i x with
  | false => rfl
  | true =>
    exfalso
    have hl := bef_listed hm hcl i ho i2 hb
    obtain ⟨h1, h2⟩ := (hR x).1 hx
    have hls : x < listed.size := by omega
    simp [hls] at hl h2
    rw [hl] at h2; cases h2
/-- how the rest of a draw is told -/
def Ends (P : Program) (G : Nat → Option (List AV)) (call : CallF) (lo : Nat) (nt : NT) (ops : Array Oper) (ios : List IOper) (pans : List Nat) (Q : Exit → Act → World → Prop) (B : Fr) (L : List Nat) : Prop :=
  ∀ (fuel : Nat) (listed : Array Bool) (g : Gh) (st : St) (a : Act) (w : World) (ex : Ex) (s s0 : St), listed.size = ops.size → Rem ops listed L → Closed ops listed → L.length ≤ fuel → Rel G g st [] a.tmps w → nt.ok a.tmps →
    evalDraw G call lo ios pans L st = some (ex, s) → Eqv s0 s → Held B st.fr → Goes G nt a.defers g w (outS B s0 ex) ex Q → wpAny P .any ops Q fuel listed a w
theorem ends_nil {nt : NT} {ops : Array Oper} {ios : List IOper} {pans : List Nat} {Q : Exit → Act → World → Prop} {B : Fr} : Ends P G call lo nt ops ios pans Q B [] := by
  intro fuel listed g st a w ex s s0 hsz hR hcl hf k hn he hs hB h
  simp [evalDraw] at he; obtain ⟨rfl, rfl⟩ := he
  exact any_done hR (h g a w hn rfl (k.eqv hs.symm) (Stay.refl g w)) fuel
theorem evalOps_one {i : IOper} {st st' : St} (hg : i.guard = none) (h : evalOps G call lo [i] st = some (.normal, st')) : ∃ v s1, evalOp G call lo i.op st = some (.val v s1) ∧ s1.put i.dst v = some st' := by
  simp only [evalOps, hg, wanted] at h
  split at h
  · rename_i v s1 he
    split at h
    · rename_i s2 hp; cases h; exact ⟨v, s1, he, hp⟩
    · cases h
  · cases h
  · cases h
theorem ends_late (hc : CallOK P G call) {nt : NT} {ops : Array Oper} {ios : List IOper} (hk : chkOpers P nt.toNK ops ios ops.toList = true) {ms pans : List Nat} (hm : chkMasks ms 0 ops.toList = true) {Q : Exit → Act → World → Prop} {B : Fr} {x6 x7 x8 : Nat} (hnd : [x6, x7, x8].Nodup) (hl : lateOk ms ios [x6, x7, x8] = true) (hpn : ∀ i, i ∈ [x6, x7, x8] → i ∉ pans) :
    Ends P G call lo nt ops ios pans Q B [x6, x7, x8] := by
  intro fuel listed g st a w ex s s0 hsz hR hcl hf k hn he hs hB h
  obtain ⟨hlen, hget⟩ := chkOpers_get hk
  simp only [lateOk, Bool.and_eq_true] at hl
  obtain ⟨hl3, hb76⟩ := hl
  -- the canonical run
  obtain ⟨i6, e6, he⟩ := evalDraw_cons he
  rcases he with ⟨st6, r6, he⟩ | ⟨_, _, _, hp, _⟩
  rotate_left
  · exact absurd hp (hpn x6 (by simp))
  obtain ⟨i7, e7, he⟩ := evalDraw_cons he
  rcases he with ⟨st7, r7, he⟩ | ⟨_, _, _, hp, _⟩
  rotate_left
  · exact absurd hp (hpn x7 (by simp))
  obtain ⟨i8, e8, he⟩ := evalDraw_cons he
  rcases he with ⟨st8, r8, he⟩ | ⟨_, _, _, hp, _⟩
  rotate_left
  · exact absurd hp (hpn x8 (by simp))
  simp [evalDraw] at he
  obtain ⟨rfl, rfl⟩ := he
  rw [e6, e7, e8] at hl3
  simp only at hl3
  have hop : ∀ {x : Nat} {io : IOper}, ios[x]? = some io → ∃ o, ops[x]? = some o ∧ chkOper P nt.toNK ops io o = true := fun {x io} hx => by
    have h1 := (List.getElem?_eq_some_iff.1 hx).1
    have h2 : x < ops.size := by rw [hlen] at h1; simpa using h1
    exact ⟨ops[x], Array.getElem?_eq_getElem h2, hget x io _ hx (by rw [Array.getElem?_toList]; exact Array.getElem?_eq_getElem h2)⟩
  obtain ⟨o6, ho6, hk6⟩ := hop e6
  obtain ⟨o7, ho7, hk7⟩ := hop e7
  obtain ⟨o8, ho8, hk8⟩ := hop e8
  obtain ⟨d6, p6, gd6⟩ := i6
  obtain ⟨d7, p7, gd7⟩ := i7
  obtain ⟨d8, p8, gd8⟩ := i8
  unfold late3 at hl3
  split at hl3
  rotate_left
  · cases hl3
  rename_i q tq i sz p t1 q1 v n b t2 b1 q2 t3 n8 m6 m7 m8
  simp only at m6 m7 m8
  subst m6 m7 m8
  simp only [Bool.and_eq_true, decide_eq_true_eq, Option.isNone_iff_eq_none, Bool.not_eq_true'] at hl3
  obtain ⟨⟨⟨⟨⟨⟨⟨⟨f1, f2⟩, f3⟩, f4⟩, f5⟩, f6⟩, ⟨f7, f8⟩, f9⟩, ⟨f10, f11⟩, f12⟩, ⟨⟨f13, f14⟩, f15⟩, f16⟩ := hl3
  have f7 := Nat.eq_of_beq_eq_true f7
  have f8 := Nat.eq_of_beq_eq_true f8
  have f9 := Nat.eq_of_beq_eq_true f9
  have f16 := Nat.eq_of_beq_eq_true f16
  have f10 : b ≠ p := fun e => by subst e; simp at f10
  have f11 : q ≠ p := fun e => by subst e; simp at f11
  have f12 : b ≠ q := fun e => by subst e; simp at f12
  subst f1 f2 f3 f4 f5 f6 f7 f8 f9 f13 f14 f15 f16
  obtain ⟨v6, s6, v6e, v6p⟩ := evalOps_one rfl r6
  obtain ⟨v7, s7, v7e, v7p⟩ := evalOps_one rfl r7
  obtain ⟨v8, s8, v8e, v8p⟩ := evalOps_one rfl r8
  -- the box and the pending row, as they stood
  have hs67 : s7 = st7 := by simp only [St.put, Option.some.injEq] at v7p; exact v7p
  subst hs67
  have q7 : st6.fr.get q = .pend (match st6.fr.get q with | .pend xs _ => xs | _ => []) (match st6.fr.get q with | .pend _ sz => sz | _ => 0) ∧ (∀ bx cs, bx ≠ p → bx ≠ q → s7.fr.get bx = .box cs → st6.fr.get bx = .box cs) := by
    have h7 := v7e
    simp only [evalOp] at h7
    split at h7
    · cases h7
    rename_i hpm
    simp only [not_or, Bool.not_eq_false] at hpm
    obtain ⟨hp, hm⟩ := hpm
    have hls : (opd (opd st6.fr v).2 (.t p false)).1 = .lastr q := by
      cases hx : (opd (opd st6.fr v).2 (.t p false)).1 <;> rw [hx] at hm <;> simp only [memOk] at hm <;> first | (simp at hm; done) | (rw [Nat.eq_of_beq_eq_true hm])
    rw [hls] at h7
    simp only at h7
    cases hs : (opd st6.fr v).2.get q <;> rw [hs] at h7 <;> try (simp at h7; done)
    rename_i xs sz
    simp only at h7
    split at h7
    rotate_left
    · cases h7
    simp [ret1] at h7
    obtain ⟨_, rfl⟩ := h7
    have := opd_pend_back hs
    refine ⟨by rw [this], fun bx cs n1 n2 hbx => ?_⟩
    simp only at hbx
    rw [Fr.get_set, if_neg (fun e => n2 e.symm), Fr.get_set, if_neg (fun e => n1 e.symm)] at hbx
    exact opd_box_back hbx
  obtain ⟨q6, back7⟩ := q7
  generalize (match st6.fr.get q with | .pend xs _ => xs | _ => []) = xs at q6
  generalize (match st6.fr.get q with | .pend _ sz => sz | _ => 0) = szq at q6
  have fr6 : ∀ t, t ≠ p → st6.fr.get t = st.fr.get t := by
    have hs6 : s6 = st := by
      have h6 := v6e
      simp only [evalOp] at h6
      repeat' split at h6
      all_goals first
        | (cases h6; done)
        | (simp [ret1] at h6; exact h6.2.symm)
    subst hs6
    intro t ht
    simp only [St.put] at v6p
    split at v6p
    · cases v6p; simp only; rw [Fr.get_set, if_neg (fun e => ht e.symm)]
    · cases v6p
  have box7 : ∃ c cs, s7.fr.get b = .box (c :: cs) := by
    have h8 := v8e
    simp only [evalOp] at h8
    split at h8
    · cases h8
    rename_i hpm
    simp only [not_or, Bool.not_eq_false] at hpm
    obtain ⟨hp, hm⟩ := hpm
    cases hx : (opd (opd s7.fr (.t q true)).2 (.t b false)).1 <;> rw [hx] at hm <;> simp only [memOk] at hm <;> try (simp at hm; done)
    rename_i sb off
    have := Nat.eq_of_beq_eq_true hm
    subst this
    rw [hx] at h8
    simp only [behind] at h8
    split at h8
    · rename_i cs off2 hbb
      split at hbb
      · rename_i cs3 hg
        cases hbb
        split at h8
        · rename_i hh
          have hbk := opd_box_back hg
          cases cs with
          | nil => have := hh.2; simp at this
          | cons c cs => exact ⟨c, cs, hbk⟩
        · cases h8
      · cases hbb
    · cases h8
  obtain ⟨c, cs, hb7⟩ := box7
  have hb6 : st6.fr.get b = .box (c :: cs) := back7 b _ f10 f12 hb7
  -- what is owed
  have h0 : ∀ g' (a' : Act) w', nt.ok a'.tmps → a'.defers = a.defers → Rel G g' st8 [] a'.tmps w' → Stay g w g' w' → Q .normal a' w' := fun g' a' w' q1 q2 q3 q4 => h g' a' w' q1 q2 (q3.eqv hs.symm) q4
  have w6 : Region.wanted o6 (yielded ops a.tmps) = true := by
    unfold Region.wanted
    simp only [chkOper, Bool.and_eq_true] at hk6
    have := hk6.1.2
    cases hg : o6.guard with
    | none => rfl
    | some x => rw [hg] at this; simp [chkGuard] at this
  have w7 : ∀ tm, Region.wanted o7 (yielded ops tm) = true := fun tm => by
    unfold Region.wanted
    simp only [chkOper, Bool.and_eq_true] at hk7
    have := hk7.1.2
    cases hg : o7.guard with
    | none => rfl
    | some x => rw [hg] at this; simp [chkGuard] at this
  have w8 : ∀ tm, Region.wanted o8 (yielded ops tm) = true := fun tm => by
    unfold Region.wanted
    simp only [chkOper, Bool.and_eq_true] at hk8
    have := hk8.1.2
    cases hg : o8.guard with
    | none => rfl
    | some x => rw [hg] at this; simp [chkGuard] at this
  have dst6 : o6.dst = some p := by simp only [chkOper, Bool.and_eq_true, decide_eq_true_eq] at hk6; exact hk6.1.1.1.symm
  have dst7 : o7.dst = none := by simp only [chkOper, Bool.and_eq_true, decide_eq_true_eq] at hk7; exact hk7.1.1.1.symm
  have dst8 : o8.dst = none := by simp only [chkOper, Bool.and_eq_true, decide_eq_true_eq] at hk8; exact hk8.1.1.1.symm
  have ck6 : chkOp P (.iaddrL (.t q tq) i sz) o6.op = true := by simp only [chkOper, Bool.and_eq_true] at hk6; exact hk6.2
  have ck7 : chkOp P (.store (.t p false) (.last q) v n) o7.op = true := by simp only [chkOper, Bool.and_eq_true] at hk7; exact hk7.2
  have ck8 : chkOp P (.store (.t b false) (.loc b) (.t q true) 1) o8.op = true := by simp only [chkOper, Bool.and_eq_true] at hk8; exact hk8.2
  have nd6 : x6 ≠ x7 ∧ x6 ≠ x8 ∧ x7 ≠ x8 := by
    simp only [List.nodup_cons, List.mem_cons, List.mem_singleton, not_or] at hnd
    exact ⟨hnd.1.1, hnd.1.2.1, by simpa using hnd.2.1⟩
  obtain ⟨n67, n68, n78⟩ := nd6
  -- 8 is done, 7 is not
  have tail7 : ∀ (fuel : Nat) (l7 : Array Bool) (g1 : Gh) (a1 : Act) (w1 : World) (L : Late P w1 a1 o7 o8), l7.size = ops.size → Rem ops l7 [x7] → Rel G g1 st6 [] a1.tmps w1 → Stay g w g1 w1 → nt.ok a1.tmps → a1.defers = a.defers → wpAny P .any ops Q (fuel + 1) l7 a1 (w1.setCell L.c0 L.u) := by
    intro fuel l7 g1 a1 w1 L z1 z2 k1 t1 n1 dd
    refine any_step hm z2 z1 (by simp) fun i hi o hoi i2 => ?_
    simp at hi; subst hi
    rw [ho7] at hoi; cases hoi
    unfold wpOp; rw [ho7]; simp only
    rw [if_pos (w7 _)]
    refine .inl ?_
    have run7 := L.run7 (w1.setCell L.c0 L.u) (fun x hx => ⟨World.cell?_setCell_other _ _ _ _ (fun e => L.ne (by rw [← hx, e])), World.frozen?_setCell _ _ _ _⟩)
    unfold Oper.wp
    rw [run7, Oper.upon_skip, dst7]
    refine any_done (rem_set z2 z1 (by simp) (fun j => by simp)) ?_ fuel
    simp only [Act.put]
    -- the canonical way there
    obtain ⟨g2, k2, t2, n2, _⟩ := step_run hc hk7 k1 n1 rfl r7 (L.run7 w1 (fun _ _ => ⟨rfl, rfl⟩)) (.inl ⟨rfl, rfl⟩)
    rw [dst7] at k2 n2
    simp only [Act.put] at k2 n2
    have run8 := L.run8 (setCells w1 L.bA L.qA L.vs) (cell_setCells L.ne _ _ _) (frozen_setCells _ _ _)
    obtain ⟨g3, k3, t3, n3, _⟩ := step_run hc hk8 k2 n2 rfl r8 run8 (.inl ⟨rfl, rfl⟩)
    rw [dst8] at k3 n3
    simp only [Act.put] at k3 n3
    rw [setCells_comm L.ne]
    exact h0 g3 a1 _ n3 dd k3 ((t1.trans t2).trans t3)
  -- 6 is done
  have part6 : ∀ (fuel : Nat) (l6 : Array Bool) (g1 : Gh) (a1 : Act) (w1 : World), l6.size = ops.size → Rem ops l6 [x7, x8] → Rel G g1 st6 [] a1.tmps w1 → Stay g w g1 w1 → nt.ok a1.tmps → a1.defers = a.defers → wpAny P .any ops Q (fuel + 2) l6 a1 w1 := by
    intro fuel l6 g1 a1 w1 z1 z2 k1 t1 n1 dd
    refine any_step hm z2 z1 (by simp) fun i hi o hoi i2 => ?_
    simp only [List.mem_cons, List.not_mem_nil, or_false] at hi
    rcases hi with rfl | rfl
    · refine op1 hc ho7 hk7 k1 n1 r7 fun g2 a2 w2 e1 e2 k2 t2 => ?_
      refine any_step hm (rem_set z2 z1 (by simp) (R' := [x8]) (fun j => by simp; constructor; exact fun e => ⟨.inr e, fun e2 => n78 (e2.symm.trans e)⟩; exact fun e => e.1.resolve_left e.2)) (by simp [z1]) (by simp) fun i hi o hoi i2 => ?_
      simp at hi; subst hi
      refine op1 hc ho8 hk8 k2 e1 r8 fun g3 a3 w3 e3 e4 k3 t3 => ?_
      refine any_done (rem_set (R := [i]) (R' := []) (rem_set z2 z1 (by simp) (fun j => by simp; constructor; exact fun e => ⟨.inr e, fun e2 => n78 (e2.symm.trans e)⟩; exact fun e => e.1.resolve_left e.2)) (by simp [z1]) (by simp) (fun j => by simp)) ?_ fuel
      exact h0 g3 a3 w3 e3 (by rw [e4, e2, dd]) k3 ((t1.trans t2).trans t3)
    · obtain ⟨L⟩ := late_facts k1 ck7 ck8 v7e hb6
      unfold wpOp; rw [ho8]; simp only
      rw [if_pos (w8 _)]
      refine .inl ?_
      unfold Oper.wp
      rw [L.run8 w1 rfl rfl, Oper.upon_skip, dst8]
      simp only [Act.put]
      exact tail7 fuel _ g1 a1 w1 L (by simp [z1]) (rem_set z2 z1 (by simp) (fun j => by simp; constructor; exact fun e => ⟨.inl e, fun e2 => n78 (e.symm.trans e2)⟩; exact fun e => e.1.resolve_right e.2)) k1 t1 n1 dd
  match fuel, hf with
  | fuel + 3, _ =>
    refine any_step hm hR hsz (by simp) fun i hi o hoi i2 => ?_
    simp only [List.mem_cons, List.not_mem_nil, or_false] at hi
    rcases hi with rfl | rfl | rfl
    · refine op1 hc ho6 hk6 k hn r6 fun g1 a1 w1 e1 e2 k1 t1 => ?_
      exact part6 fuel _ g1 a1 w1 (by simp [hsz]) (rem_set hR hsz (by simp) (fun j => by
        simp only [List.mem_cons, List.not_mem_nil, or_false]
        constructor
        · rintro (rfl | rfl)
          · exact ⟨.inr (.inl rfl), fun e => n67 e.symm⟩
          · exact ⟨.inr (.inr rfl), fun e => n68 e.symm⟩
        · rintro ⟨h1, h2⟩; exact h1.resolve_left h2)) k1 t1 e1 e2
    · have := not_bef hm hR hsz hcl hoi i2 (x := x6) (by simp)
      rw [hb76] at this; cases this
    · -- 8 goes first
      obtain ⟨cv, run6⟩ := late_run6 k ck6 v6e (by rw [← fr6 q f11]; exact q6)
      obtain ⟨g1, k1, t1, n1, d1⟩ := step_run hc hk6 k hn rfl r6 (run6 w) (.inr rfl)
      obtain ⟨L⟩ := late_facts k1 ck7 ck8 v7e hb6
      have same8 : ∀ w', (execOp a.eval o8).run P w' = (execOp (Act.eval (a.put o6.dst cv)) o8).run P w' := by
        intro w'
        have ck := ck8
        simp only [chkOp] at ck
        split at ck
        rotate_left
        · cases ck
        rename_i t8 y8 u8 ho8e
        simp only [Bool.and_eq_true] at ck
        obtain ⟨⟨c1, c2⟩, _⟩ := ck
        cases y8 <;> simp [opdOk] at c1
        subst c1
        cases u8 <;> simp [opdOk] at c2
        subst c2
        have ge : ∀ t, t ≠ p → Act.opd (a.put o6.dst cv).tmps (.tmp t) = Act.opd a.tmps (.tmp t) := fun t ht => by
          rw [dst6]
          simp only [Act.put, Act.opd, Array.getD_eq_getD_getElem?, Array.getElem?_setIfInBounds, if_neg (fun e => ht (Eq.symm e))]
        simp only [execOp, ho8e, Act.eval_eq, ge _ f10, ge _ f11]
      unfold wpOp; rw [ho8]; simp only
      rw [if_pos (w8 _)]
      refine .inl ?_
      unfold Oper.wp
      rw [same8, L.run8 w rfl rfl, Oper.upon_skip, dst8]
      simp only [Act.put]
      have hR2 : Rem ops (listed.setIfInBounds i true) [x6, x7] := rem_set hR hsz (by simp) (fun j => by
        simp only [List.mem_cons, List.not_mem_nil, or_false]
        constructor
        · rintro (rfl | rfl)
          · exact ⟨.inl rfl, n68⟩
          · exact ⟨.inr (.inl rfl), n78⟩
        · rintro ⟨h1, h2⟩; exact h1.elim .inl fun h => .inr (h.resolve_right h2))
      refine any_step hm hR2 (by simp [hsz]) (by simp) fun j hj o hoj j2 => ?_
      simp only [List.mem_cons, List.not_mem_nil, or_false] at hj
      rcases hj with rfl | rfl
      · unfold wpOp; rw [ho6]; simp only
        rw [if_pos w6]
        refine .inl ?_
        unfold Oper.wp
        rw [run6, Oper.upon_value]
        refine tail7 fuel _ g1 (a.put o6.dst cv) w L (by simp [hsz]) (rem_set hR2 (by simp [hsz]) (by simp) (fun j => by simp; constructor; exact fun e => ⟨.inr e, fun e2 => n67 (e2.symm.trans e)⟩; exact fun e => e.1.resolve_left e.2)) k1 t1 n1 d1
      · have := not_bef hm hR2 (by simp [hsz]) (closed_set hcl hoi i2) hoj j2 (x := x6) (by simp)
        rw [hb76] at this; cases this
theorem any_sound (hc : CallOK P G call) (hq : CallQ call) {nt : NT} {ops : Array Oper} {ios : List IOper} (hk : chkOpers P nt.toNK ops ios ops.toList = true) {ms pans : List Nat} (hm : chkMasks ms 0 ops.toList = true) {Q : Exit → Act → World → Prop} {B : Fr} {L : List Nat} (hend : Ends P G call lo nt ops ios pans Q B L) : ∀ (fuel : Nat) (listed : Array Bool) (R : List Nat) (g : Gh) (st : St) (a : Act) (w : World) (ex : Ex) (s s0 : St),
    listed.size = ops.size → (R ++ L).Nodup → Rem ops listed (R ++ L) → Closed ops listed → pairsOk ms ios pans R = true → (∀ i, i ∈ L → ∀ x, x ∈ R → bef ms i x = true) → (R ++ L).length ≤ fuel →
    Rel G g st [] a.tmps w → nt.ok a.tmps → evalDraw G call lo ios pans (R ++ L) st = some (ex, s) → Eqv s0 s → Held B st.fr → Goes G nt a.defers g w (outS B s0 ex) ex Q → wpAny P .any ops Q fuel listed a w := by
  obtain ⟨hlen, hget⟩ := chkOpers_get hk
  intro fuel
  induction fuel with
  | zero =>
    intro listed R g st a w ex s s0 hsz hnd hR hcl hp hLb hf k hn he hs hB h
    have : R ++ L = [] := List.length_eq_zero_iff.1 (by omega)
    obtain ⟨rfl, rfl⟩ := List.append_eq_nil_iff.1 this
    exact hend 0 listed g st a w ex s s0 hsz hR hcl (by simp) k hn he hs hB h
  | succ fuel ih =>
    intro listed R g st a w ex s s0 hsz hnd hR hcl hp hLb hf k hn he hs hB h
    cases hRe : R with
    | nil =>
      subst hRe
      exact hend _ listed g st a w ex s s0 hsz hR hcl hf k hn he hs hB h
    | cons x0 R0 =>
    refine any_step hm hR hsz (by rw [hRe]; simp) fun i hiR o ho i2 => ?_
    have hio := (Array.getElem?_eq_some_iff.1 ho).1
    have hiR0 : i ∈ R := by
      rcases List.mem_append.1 hiR with h | h
      · exact h
      · have h1 := hLb i h x0 (by rw [hRe]; simp)
        have h2 := not_bef hm hR hsz hcl ho i2 (x := x0) (by rw [hRe]; simp)
        rw [h1] at h2; cases h2
    clear hRe
    obtain ⟨as, r, rfl⟩ := List.append_of_mem hiR0
    obtain ⟨p1, p2⟩ := pairsOk_split hp
    have hlis : i < ios.length := by rw [hlen]; simpa using hio
    have hioi : ios[i]? = some ios[i] := List.getElem?_eq_getElem hlis
    have he' : evalDraw G call lo ios pans (as ++ i :: (r ++ L)) st = some (ex, s) := by rw [List.append_assoc] at he; exact he
    obtain ⟨s', f1, f2⟩ := front (G := G) (lo := lo) hq (ops := ios) (pans := pans) (i := i) (r := r ++ L) (as := as) (fun x hx => by
      have hpx := p1 x hx
      unfold pairOk at hpx
      simp only [Bool.or_eq_true] at hpx
      rcases hpx with hb | hpx
      · have := not_bef hm hR hsz hcl ho i2 (x := x) (by simp [hx])
        rw [hb] at this; cases this
      · cases hx1 : ios[x]? with
        | none => rw [hx1] at hpx; simp at hpx
        | some ox =>
          rw [hx1, hioi] at hpx
          simp only [Bool.and_eq_true, Bool.or_eq_true, Bool.not_eq_true'] at hpx
          obtain ⟨⟨q1, q2⟩, q3⟩ := hpx
          refine ⟨fun hm => (by rw [List.contains_iff_mem.2 hm] at q2; cases q2), fun ox' oi' e1 e2 => ?_⟩
          cases e1; rw [hioi] at e2; cases e2
          refine ⟨q1, fun hip F hF => ?_⟩
          rcases q3 with q3 | q3
          · rw [List.contains_iff_mem.2 hip] at q3; cases q3
          · unfold quietO at q3
            rw [hF] at q3
            simp only at q3
            cases hw : F.hw <;> rw [hw] at q3 <;> first | rfl | (simp at q3; done)) he'
    obtain ⟨oi, e1, f3⟩ := evalDraw_cons f1
    rw [hioi] at e1; cases e1
    have hko := hget i ios[i] o hioi (by rw [Array.getElem?_toList]; exact ho)
    have hnd2 : (as ++ i :: (r ++ L)).Nodup := by rw [List.append_assoc] at hnd; exact hnd
    have hnd' : ((as ++ r) ++ L).Nodup := by rw [List.append_assoc]; exact hnd2.sublist (by simp)
    have hnotin : i ∉ as ++ (r ++ L) := by
      have := List.nodup_append.1 hnd2
      intro hm
      rcases List.mem_append.1 hm with hm | hm
      · exact this.2.2 i hm i (by simp) rfl
      · exact (List.nodup_cons.1 this.2.1).1 hm
    rcases f3 with ⟨s1, g1, g2⟩ | ⟨v, s1, g1, hpn, rfl, rfl⟩
    · refine op1 hc ho hko k hn g1 fun g' a' w' e1 e2 k1 t1 => ?_
      simp only [ExQ]
      refine ih _ (as ++ r) g' s1 a' w' ex s' s0 (by simp [hsz]) hnd' (rem_set hR hsz (by simp) (fun j => ?_)) (closed_set hcl ho i2) p2 (fun i hi x hx => hLb i hi x (by simp at hx ⊢; rcases hx with h | h <;> simp [h])) (by simp at hf ⊢; omega) k1 e1 (by rw [List.append_assoc]; exact g2) (hs.trans f2) (hB.trans (evalOps_held g1)) (by rw [e2]; exact h.after t1)
      by_cases hji : j = i
      · subst hji; simp at hnotin ⊢; exact hnotin
      · simp [hji]
    · refine op1 hc ho hko k hn g1 fun g' a' w' e1 e2 k1 t1 => ?_
      simp only [ExQ]
      intro cv hv hpv
      refine h g' a' w' e1 e2 ?_ t1 cv hv hpv
      have k2 := k1.husk (hB.trans (evalOps_held g1))
      have e3 : s1.hp = s0.hp := (hs.trans f2).2
      rw [e3] at k2
      exact k2
theorem Rel.drawn {g : Gh} {s : St} {tm : Array Value} {w : World} (k : Rel G g s [] tm w) : Rel G g s [] tm { w with drawn := w.drawn + 1 } := k.draws rfl
theorem draw_sound (hmx : P.follows .mixedOrders = true) (hc : CallOK P G call) (hq : CallQ call) {nt : NT} {ops : Array Oper} {ios : List IOper} (hk : chkOpers P nt.toNK ops ios ops.toList = true) {ord pans : List Nat} (hd : drawOk ios ops.toList ord pans = true)
    {Q : Exit → Act → World → Prop} {g : Gh} {st : St} {a : Act} {w : World} (k : Rel G g st [] a.tmps w) (hn : nt.ok a.tmps) {ex : Ex} {st' : St} (hr : evalDraw G call lo ios pans ord st = some (ex, st'))
    (h : Goes G nt a.defers g w (outS st.fr st' ex) ex Q) (id : Nat) : (Code.region id ops true).wp P Q a w := by
  simp only [drawOk, Bool.and_eq_true, List.all_eq_true] at hd
  obtain ⟨⟨⟨⟨h1, h2⟩, h3⟩, h4⟩, h5⟩ := hd
  have hnd := nodupN_spec h3
  have hlen : ord.length = ops.size := by have := Nat.eq_of_beq_eq_true h4; simpa using this
  have hlt : ∀ j, j ∈ ord → j < ops.size := fun j hj => by have := h5 j hj; simpa using this
  have hsplit : ∃ R L, ord = R ++ L ∧ drawPart (mkMasks ops.toList []) ios pans R L = true := by
    simp only [Bool.or_eq_true] at h2
    rcases h2 with h2 | h2
    · exact ⟨ord, [], by simp, h2⟩
    · exact ⟨_, _, (List.take_append_drop _ _).symm, h2⟩
  obtain ⟨R, L, rfl, hpart⟩ := hsplit
  simp only [drawPart, Bool.and_eq_true, List.all_eq_true, Bool.not_eq_true'] at hpart
  obtain ⟨⟨p1, p2⟩, p3⟩ := hpart
  have hndL : L.Nodup := (List.nodup_append.1 hnd).2.1
  have hend : Ends P G call lo nt ops ios pans Q st.fr L := by
    have p2' := p2
    unfold lateOk at p2
    split at p2
    · exact ends_nil
    · exact ends_late hc hk h1 hndL p2' (fun i hi hm => by have := (p3 i hi).1; rw [List.contains_iff_mem.2 hm] at this; cases this)
    · cases p2
  refine wp_region_any hmx (any_sound hc hq hk h1 hend ops.size _ R g st a _ ex st' st' (by simp) hnd (fun j => ?_) (fun j o ho hl => ?_) p1 (fun i hi x hx => (p3 i hi).2 x hx) (by omega) k.drawn hn hr (Eqv.refl _) (Held.refl _) ?_)
  · refine ⟨fun hj => ⟨hlt j hj, by simp [hlt j hj]⟩, fun ⟨hj, _⟩ => ?_⟩
    -- a list without repeats, as long as the range, holds all of it
    refine Classical.byContradiction fun hn => ?_
    have := nodup_le ops.size (j :: (R ++ L)) (List.nodup_cons.2 ⟨hn, hnd⟩) (fun x hx => by
      rcases List.mem_cons.1 hx with rfl | hx
      · exact hj
      · exact hlt x hx)
    rw [List.length_cons, hlen] at this; omega
  · exfalso
    have := (Array.getElem?_eq_some_iff.1 ho).1
    simp [this] at hl
  · refine h.after ?_
    exact { ow := fun _ _ _ _ => rfl, cell := fun _ _ _ _ => rfl, frz := fun _ _ _ _ _ => rfl, blk := fun _ _ _ => rfl, row := fun _ _ _ h => h, te := fun _ => trivial, hb := fun _ _ h => h, os := rfl, tape := rfl, output := rfl, size := Nat.le_refl _ }
end
end Go.Proofs.Ytajlmldpbhendab.Rf
end
section
/- The machine on plain values tells what the model's program does. -/
set_option linter.unusedSimpArgs false
set_option linter.unusedVariables false
namespace Go.Proofs.Ytajlmldpbhendab.Rf

def chkCode (P : Program) (nt : NK) : ICode → Code → Bool
  | .skip, .skip => true
  | .region is _, .region _ os false => chkOpers P nt os is os.toList
  | .draw is ord pans _, .region _ os true => chkOpers P nt os is os.toList && drawOk is os.toList ord pans
  | .seq a b, .seq c d => chkCode P nt a c && chkCode P nt b d
  | .cond x a b, .cond y c d => opdOk x y && chkCode P nt a c && chkCode P nt b d
  | .block i a, .block j c => decide (i = j) && chkCode P nt a c
  | .loop a, .loop c => chkCode P nt a c
  | .exit i, .exit j => decide (i = j)
  | .ret, .ret => true
  | .stuck, _ => true
  | _, _ => false
def nodupB : List Nat → Bool
  | [] => true
  | x :: r => !r.contains x && nodupB r
theorem nodupB_spec : ∀ {l : List Nat}, nodupB l = true → l.Nodup
  | [], _ => List.nodup_nil
  | x :: r, h => by
    simp only [nodupB, Bool.and_eq_true] at h
    exact List.nodup_cons.2 ⟨by simpa using h.1, nodupB_spec h.2⟩
def LoopOK (P : Program) (G : Nat → Option (List AV)) (k : Nat) (loop : LoopF) : Prop :=
  ∀ (nt : NT) (body : ICode) (code : Code), chkCode P nt.toNK body code = true → ∀ (Q : Exit → Act → World → Prop) (g : Gh) (st : St) (a : Act) (w : World) (ex : Ex) (st' : St), Rel G g st [] a.tmps w → nt.ok a.tmps → loop body st = some (ex, st') → Goes G nt a.defers g w st' ex Q → Code.rounds P code Q k a w

section
variable {P : Program} {G : Nat → Option (List AV)}

theorem Goes.mono {nt : NT} {df : List Deferred} {g : Gh} {w : World} {st : St} {ex : Ex} {Q Q' : Exit → Act → World → Prop} (h : Goes G nt df g w st ex Q) (hq : ∀ g' a' w', ExQ g' w' a' Q ex → ExQ g' w' a' Q' ex) : Goes G nt df g w st ex Q' :=
  fun g' a' w' h1 h2 h3 h4 => hq _ _ _ (h g' a' w' h1 h2 h3 h4)
theorem code_sound (hm : P.follows .mixedOrders = true) {call : CallF} {loop : LoopF} {lo k : Nat} (hc : CallOK P G call) (hq : CallQ call) (hl : LoopOK P G k loop) {nt : NT} : ∀ {ic : ICode} {c : Code}, chkCode P nt.toNK ic c = true → ∀ {Q : Exit → Act → World → Prop} {g : Gh} {st : St} {a : Act} {w : World} {ex : Ex} {st' : St},
    Rel G g st [] a.tmps w → nt.ok a.tmps → evalC G call loop lo ic st = some (ex, st') → Goes G nt a.defers g w st' ex Q → c.wp P Q a w := by
  intro ic
  induction ic with
  | skip =>
    intro c hk Q g st a w ex st' kk hn hr h
    cases c <;> simp [chkCode] at hk
    simp [evalC] at hr; obtain ⟨rfl, rfl⟩ := hr
    exact wp_skip (h g a w hn rfl kk (Stay.refl g w))
  | ret =>
    intro c hk Q g st a w ex st' kk hn hr h
    cases c <;> simp [chkCode] at hk
    simp [evalC] at hr; obtain ⟨rfl, rfl⟩ := hr
    exact wp_ret (h g a w hn rfl kk (Stay.refl g w))
  | stuck =>
    intro c hk Q g st a w ex st' kk hn hr h
    simp [evalC] at hr
  | exit id =>
    intro c hk Q g st a w ex st' kk hn hr h
    cases c <;> simp [chkCode] at hk
    subst hk
    simp [evalC] at hr; obtain ⟨rfl, rfl⟩ := hr
    exact wp_exit (h g a w hn rfl kk (Stay.refl g w))
  | region is live =>
    intro c hk Q g st a w ex st' kk hn hr h
    cases c <;> try (simp [chkCode] at hk; done)
    rename_i id os dr
    cases dr <;> simp [chkCode] at hk
    obtain ⟨e1, e2⟩ := chkOpers_get hk
    have hops : ∀ {ex1 : Ex} {s1 : St}, evalOps G call lo is st = some (ex1, s1) → Goes G nt a.defers g w s1 ex1 Q → (Code.region id os false).wp P Q a w := fun hr1 h1 =>
      wp_region (ops_sound hc _ _ (by simpa using e1) (fun j i x hi hx => by
        have hj := (List.getElem?_eq_some_iff.1 hi).1
        have hx' : x = j := by
          obtain ⟨h2, h3⟩ := List.getElem?_eq_some_iff.1 hx; simp at h3; exact h3.symm
        subst hx'
        have hlt : x < os.size := by rw [e1] at hj; simpa using hj
        exact ⟨os[x], by simp [hlt], e2 x i os[x] hi (by simp [hlt])⟩) kk hn hr1 h1)
    simp only [evalC] at hr
    split at hr
    · rename_i s1 he
      split at hr
      · rename_i hko; cases hr
        exact hops he fun g' a' w' h1 h2 h3 h4 => h g' a' w' h1 h2 (h3.keep hko) h4
      · cases hr
    · exact hops hr h
  | draw is ord pans live =>
    intro c hk Q g st a w ex st' kk hn hr h
    cases c <;> try (simp [chkCode] at hk; done)
    rename_i id os dr
    cases dr <;> simp [chkCode] at hk
    simp only [evalC] at hr
    split at hr
    · rename_i s1 he
      split at hr
      · rename_i hko; cases hr
        exact draw_sound hm hc hq hk.1 hk.2 kk hn he (fun g' a' w' h1 h2 h3 h4 => h g' a' w' h1 h2 (h3.keep hko) h4) id
      · cases hr
    · rename_i e1 s1 hne he
      cases hr
      refine draw_sound hm hc hq hk.1 hk.2 kk hn he ?_ id
      cases ex with
      | normal => exact (hne rfl).elim
      | exit i => exact h
      | ret => exact h
      | pan v => exact h
    · cases hr
  | seq x y ihx ihy =>
    intro c hk Q g st a w ex st' kk hn hr h
    cases c <;> simp [chkCode] at hk
    simp only [evalC] at hr
    split at hr
    · rename_i s1 he
      refine wp_seq (ihx hk.1 kk hn he fun g' a' w' h1 h2 h3 h4 => ?_)
      exact ihy hk.2 h3 h1 hr (by rw [h2]; exact h.after h4)
    · rename_i hne
      refine wp_seq (ihx hk.1 kk hn hr (h.mono fun g' a' w' h5 => ?_))
      cases ex with
      | normal => exact absurd hr (by simpa using hne st')
      | exit i => exact h5
      | ret => exact h5
      | pan v => exact h5
  | cond x y z ihy ihz =>
    intro c hk Q g st a w ex st' kk hn hr h
    cases c <;> simp [chkCode] at hk
    simp only [evalC] at hr
    split at hr
    · rename_i t ht
      have hrd := kk.read hk.1.1
      rw [ht] at hrd; simp only [VX, V] at hrd
      refine wp_cond_split (t := t) (by rw [Act.eval_eq]; exact hrd) (fun e => ?_) (fun e => ?_)
      · subst e; simp only [if_true] at hr; exact ihy hk.1.2 kk hn hr h
      · subst e; simp only [Bool.false_eq_true, if_false] at hr; exact ihz hk.2 kk hn hr h
    · cases hr
  | block i x ih =>
    intro c hk Q g st a w ex st' kk hn hr h
    cases c <;> simp [chkCode] at hk
    obtain ⟨rfl, hk⟩ := hk
    simp only [evalC] at hr
    split at hr
    · rename_i j s1 he
      split at hr
      · rename_i hj; subst hj; cases hr
        exact wp_block (ih hk kk hn he fun g' a' w' h1 h2 h3 h4 => by
          show Exit.inBlock j Q (.exit j) a' w'
          simp only [Exit.inBlock, if_true]; exact h g' a' w' h1 h2 h3 h4)
      · rename_i hj; cases hr
        exact wp_block (ih hk kk hn he fun g' a' w' h1 h2 h3 h4 => by
          show Exit.inBlock i Q (.exit j) a' w'
          simp only [Exit.inBlock, if_neg hj]; exact h g' a' w' h1 h2 h3 h4)
    · rename_i hne
      refine wp_block (ih hk kk hn hr (h.mono fun g' a' w' h5 => ?_))
      cases ex with
      | normal => exact h5
      | exit j => exact absurd hr (by simpa using hne j st')
      | ret => exact h5
      | pan v => exact h5
  | loop x ih =>
    intro c hk Q g st a w ex st' kk hn hr h
    cases c <;> simp [chkCode] at hk
    simp only [evalC] at hr
    exact wp_loop_rounds k (hl nt x _ hk Q g st a w ex st' kk hn hr h)
end
end Go.Proofs.Ytajlmldpbhendab.Rf
end
