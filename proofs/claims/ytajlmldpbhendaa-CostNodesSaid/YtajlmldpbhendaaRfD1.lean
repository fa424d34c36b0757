/- What an operation reads and writes. -/
import Derived.Test.YtajlmldpbhendaaRfZ3
set_option linter.unusedSimpArgs false
set_option linter.unusedVariables false
namespace Go.Proofs.Ytajlmldpbhendaa.Rf

def opdR : Opd → List Nat
  | .t s _ => [s]
  | _ => []
def opdW : Opd → List Nat
  | .t s true => [s]
  | _ => []
def opdsR : List Opd → List Nat
  | [] => []
  | x :: r => opdR x ++ opdsR r
def opdsW : List Opd → List Nat
  | [] => []
  | x :: r => opdW x ++ opdsW r
def optR : Option Opd → List Nat
  | none => []
  | some x => opdR x
def memR : Mem → List Nat
  | .loc r => [r]
  | .last r => [r]
  | _ => []
/-- Which part of the heap: none, the variables, the maps, all. -/
inductive HpK where
  | no | cells | maps | all
  deriving DecidableEq
structure Foot where
  rd : List Nat
  wr : List Nat
  hr : HpK
  hw : HpK
def foot : IOp → Option Foot
  | .mv x => some ⟨opdR x, opdW x, .no, .no⟩
  | .pick c a b => some ⟨opdR c ++ (opdR a ++ opdR b), [], .no, .no⟩
  | .alloc heap _ => if heap then some ⟨[], [], .all, .all⟩ else some ⟨[], [], .no, .no⟩
  | .box heap x => if heap then some ⟨opdR x, opdW x, .all, .all⟩ else some ⟨opdR x, opdW x, .no, .no⟩
  | .build _ ps => some ⟨opdsR (ps.map (·.2.2)), opdsW (ps.map (·.2.2)), .no, .no⟩
  | .bslice _ _ ps => some ⟨opdsR (ps.map (·.2)), opdsW (ps.map (·.2)), .no, .no⟩
  | .load x (.loc r) _ _ tk => some ⟨opdR x ++ [r], if tk then [r] else [], .no, .no⟩
  | .load x .heap _ _ tk => some ⟨opdR x, [], .cells, if tk then .cells else .no⟩
  | .load x .elem _ _ tk => some ⟨opdR x, [], .no, .no⟩
  | .load _ (.last _) _ _ _ => none
  | .store x (.loc r) v _ => some ⟨opdR v ++ (opdR x ++ [r]), opdW v ++ [r], .no, .no⟩
  | .store x .heap v _ => some ⟨opdR v ++ opdR x, opdW v, .cells, .cells⟩
  | .store _ _ _ _ => none
  | .nilchk x => some ⟨opdR x, [], .no, .no⟩
  | .bin _ x y => some ⟨opdR x ++ opdR y, [], .no, .no⟩
  | .eq _ _ x y => some ⟨opdR x ++ opdR y, [], .no, .no⟩
  | .un _ x => some ⟨opdR x, [], .no, .no⟩
  | .conv _ x => some ⟨opdR x, [], .no, .no⟩
  | .sconv x => some ⟨opdR x, [], .no, .no⟩
  | .mkiface _ x => some ⟨opdR x, opdW x, .no, .no⟩
  | .mkfunc _ xs => some ⟨opdsR xs, opdsW xs, .no, .no⟩
  | .mkmap => some ⟨[], [], .all, .all⟩
  | .faddr x _ => some ⟨opdR x, [], .no, .no⟩
  | .field x _ _ _ => some ⟨opdR x, [], .no, .no⟩
  | .iaddrL x i _ => some ⟨opdR x ++ opdR i, [], .no, .no⟩
  | .iaddrA x i _ _ => some ⟨opdR x ++ opdR i, [], .no, .no⟩
  | .idxS x i => some ⟨opdR x ++ opdR i, [], .no, .no⟩
  | .slcS x a b => some ⟨opdR x ++ (optR a ++ optR b), [], .no, .no⟩
  | .slcL x a b _ => some ⟨opdR x ++ (optR a ++ optR b), [], .no, .no⟩
  | .lookup _ m k _ _ tk => some ⟨opdR m ++ opdR k, [], .maps, if tk then .maps else .no⟩
  | .mapset _ m k v _ => some ⟨opdR v ++ (opdR m ++ opdR k), opdW v, .maps, .maps⟩
  | .len x .map => some ⟨opdR x, [], .maps, .no⟩
  | .len x _ => some ⟨opdR x, [], .no, .no⟩
  | .konst _ => some ⟨[], [], .no, .no⟩
  | .append x y _ _ _ => some ⟨opdR x ++ opdR y, opdW x, .no, .no⟩
  | .min x y => some ⟨opdR x ++ opdR y, [], .no, .no⟩
  | .max x y => some ⟨opdR x ++ opdR y, [], .no, .no⟩
  | .extract x _ => some ⟨opdR x, opdW x, .no, .no⟩
  | .assert x _ _ _ => some ⟨opdR x, [], .no, .no⟩
  | .panic _ => none
  | .call f xs q => some ⟨opdsR xs ++ opdR f, opdsW xs, .all, if q then .no else .all⟩

def FrOn (S : List Nat) (fr fr' : Fr) : Prop := ∀ s, s ∈ S → fr'.get s = fr.get s
/-- The like change in two frames. -/
structure Moved (W : List Nat) (fr fr1 fr' fr1' : Fr) : Prop where
  new : ∀ s, s ∈ W → fr1'.get s = fr1.get s
  old' : ∀ s, s ∉ W → fr1'.get s = fr'.get s
  old : ∀ s, s ∉ W → fr1.get s = fr.get s
def HpOn (k : HpK) (hp hp' : List HObj) : Prop :=
  match k with
  | .no => True
  | .cells => ∀ (id : Nat) (cs : List AV), hp[id]? = some (.cells cs) ↔ hp'[id]? = some (.cells cs)
  | .maps => ∀ (id : Nat) (es : List (AV × AV)), hp[id]? = some (.map es) ↔ hp'[id]? = some (.map es)
  | .all => hp' = hp
/-- What a heap's writer leaves as it was. -/
def HpKeep (k : HpK) (hp hp1 : List HObj) : Prop :=
  match k with
  | .no => hp1 = hp
  | .cells => HpOn .maps hp hp1
  | .maps => HpOn .cells hp hp1
  | .all => True
/-- The like change in two states. -/
structure Like (F : Foot) (st s1 st' s1' : St) : Prop where
  fr : Moved F.wr st.fr s1.fr st'.fr s1'.fr
  hp : F.hw = .no → s1'.hp = st'.hp
  hp' : st'.hp = st.hp → s1'.hp = s1.hp
  keep : HpKeep F.hw st.hp s1.hp

section
variable {G : Nat → Option (List AV)} {call : CallF} {lo : Nat}

theorem Moved.refl (fr fr' : Fr) : Moved [] fr fr fr' fr' := ⟨fun s h => by simp at h, fun _ _ => rfl, fun _ _ => rfl⟩
theorem FrOn.left {S T : List Nat} {fr fr' : Fr} (h : FrOn (S ++ T) fr fr') : FrOn S fr fr' := fun s hs => h s (List.mem_append_left _ hs)
theorem FrOn.right {S T : List Nat} {fr fr' : Fr} (h : FrOn (S ++ T) fr fr') : FrOn T fr fr' := fun s hs => h s (List.mem_append_right _ hs)
theorem FrOn.moved {S W : List Nat} {fr fr1 fr' fr1' : Fr} (h : FrOn S fr fr') (m : Moved W fr fr1 fr' fr1') : FrOn S fr1 fr1' := fun s hs => by
  by_cases hw : s ∈ W
  · exact m.new s hw
  · rw [m.old' s hw, m.old s hw]; exact h s hs
theorem Moved.trans {W1 W2 : List Nat} {a b c a' b' c' : Fr} (h : Moved W1 a b a' b') (k : Moved W2 b c b' c') : Moved (W1 ++ W2) a c a' c' :=
  ⟨fun s hs => by
      by_cases h2 : s ∈ W2
      · exact k.new s h2
      · have h1 : s ∈ W1 := by simpa [h2] using hs
        rw [k.old' s h2, k.old s h2]; exact h.new s h1,
   fun s hs => by simp at hs; rw [k.old' s hs.2, h.old' s hs.1], fun s hs => by simp at hs; rw [k.old s hs.2, h.old s hs.1]⟩
theorem Moved.set {fr fr' : Fr} (s : Nat) (v : AV) : Moved [s] fr (fr.set s v) fr' (fr'.set s v) :=
  ⟨fun t ht => by simp at ht; subst ht; rw [Fr.get_set, Fr.get_set]; simp, fun t ht => by simp at ht; rw [Fr.get_set, if_neg (fun e => ht e.symm)], fun t ht => by simp at ht; rw [Fr.get_set, if_neg (fun e => ht e.symm)]⟩
theorem Moved.more {W W' : List Nat} {a b a' b' : Fr} (h : Moved W a b a' b') (k : ∀ s, s ∈ W → s ∈ W') (hn : FrOn W' a a') : Moved W' a b a' b' :=
  ⟨fun s hs => by
      by_cases hw : s ∈ W
      · exact h.new s hw
      · rw [h.old' s hw, h.old s hw]; exact hn s hs, fun s hs => h.old' s (fun h => hs (k s h)), fun s hs => h.old s (fun h => hs (k s h))⟩
theorem opd_on {fr fr' : Fr} {x : Opd} (h : FrOn (opdR x) fr fr') : (opd fr' x).1 = (opd fr x).1 ∧ Moved (opdW x) fr (opd fr x).2 fr' (opd fr' x).2 := by
  cases x with
  | t s tk =>
    have e : fr'.get s = fr.get s := h s (by simp [opdR])
    have m0 : Moved [s] fr fr fr' fr' := (Moved.refl fr fr').more (by simp) (fun t ht => by simp at ht; subst ht; exact e)
    simp only [opd, e]
    cases tk with
    | true =>
      simp only [opdW]
      cases fr.get s <;> simp only [if_true] <;> first
        | exact ⟨trivial, Moved.set s _⟩
        | exact ⟨trivial, m0⟩
    | false =>
      simp only [opdW]
      cases fr.get s <;> simp only [Bool.false_eq_true, if_false] <;> exact ⟨trivial, Moved.refl _ _⟩
  | c v => exact ⟨rfl, Moved.refl _ _⟩
  | g a => exact ⟨rfl, Moved.refl _ _⟩
  | f a => exact ⟨rfl, Moved.refl _ _⟩
theorem opds_on : ∀ {xs : List Opd} {fr fr' : Fr}, FrOn (opdsR xs) fr fr' → (opds fr' xs).1 = (opds fr xs).1 ∧ Moved (opdsW xs) fr (opds fr xs).2 fr' (opds fr' xs).2
  | [], fr, fr', _ => ⟨rfl, Moved.refl _ _⟩
  | x :: xs, fr, fr', h => by
    obtain ⟨h1, h2⟩ := opd_on h.left
    obtain ⟨h3, h4⟩ := opds_on (h.right.moved h2)
    simp only [opds]
    exact ⟨by rw [h1, h3], h2.trans h4⟩
theorem bound_on {fr fr' : Fr} {x : Option Opd} (h : FrOn (optR x) fr fr') (d : Nat) : bound fr' d x = bound fr d x := by
  cases x with
  | none => rfl
  | some x => simp only [bound]; rw [(opd_on (x := x) h).1]
theorem HpOn.rfl' {k : HpK} {hp : List HObj} : HpOn k hp hp := by cases k <;> simp [HpOn]
theorem Like.same {F : Foot} {st st' : St} (h : F.wr = []) (hw : F.hw = .no) : Like F st st st' st' :=
  ⟨by rw [h]; exact Moved.refl _ _, fun _ => rfl, fun h => h, by rw [hw]; rfl⟩
theorem Like.take {F : Foot} {st st' : St} {fr1 fr1' : Fr} (h : Moved F.wr st.fr fr1 st'.fr fr1') (hw : F.hw = .no) : Like F st { st with fr := fr1 } st' { st' with fr := fr1' } :=
  ⟨h, fun _ => rfl, fun h => h, by rw [hw]; rfl⟩
def ClearF (F : Foot) (st st' : St) : Prop := FrOn F.rd st.fr st'.fr ∧ HpOn F.hr st.hp st'.hp ∧ (F.hw ≠ .no → st'.hp = st.hp)
/-- what a quiet call owes -/
def CallQ (call : CallF) : Prop := ∀ f vs hp lo r, call f vs hp lo true = some r → r.hp = hp
end
end Go.Proofs.Ytajlmldpbhendaa.Rf
