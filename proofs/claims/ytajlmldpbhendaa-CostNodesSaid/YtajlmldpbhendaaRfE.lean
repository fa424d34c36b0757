/- Operands, results, new blocks. -/
import Derived.Test.YtajlmldpbhendaaRfD
set_option linter.unusedSimpArgs false
set_option linter.unusedVariables false
namespace Go.Proofs.Ytajlmldpbhendaa.Rf

theorem Fr.get_set (fr : Fr) (s : Nat) (v : AV) (t : Nat) : (fr.set s v).get t = if s = t then v else fr.get t := by
  induction fr with
  | nil => simp only [Fr.set, Fr.get]
  | cons p r ih =>
    obtain ⟨u, x⟩ := p
    simp only [Fr.set]
    by_cases h : u = s
    · subst h; simp only [if_true, Fr.get]; split <;> rfl
    · simp only [if_neg h, Fr.get, ih]
      by_cases h2 : u = t
      · subst h2; rw [if_pos rfl, if_neg (fun e => h e.symm), if_pos rfl]
      · simp [if_neg h2]
theorem Fr.get_keep (fr : Fr) (live : List Nat) (t : Nat) : (fr.keep live).get t = if t ∈ live then fr.get t else .none := by
  unfold Fr.keep
  induction live with
  | nil => simp [Fr.get]
  | cons s r ih =>
    simp only [List.map_cons, Fr.get, ih, List.mem_cons]
    by_cases h : s = t
    · subst h; simp
    · simp [if_neg h, show ¬ t = s from fun e => h e.symm]

def Act.opd (tm : Array Value) : Operand → Value
  | .tmp t => tm.getD t undef
  | .const v => v
  | .global g => .pointer (some ⟨g, 0, none⟩)
  | .func f => .func (.func f) #[] #[]
theorem Act.eval_eq (a : Act) (x : Operand) : a.eval x = Act.opd a.tmps x := by cases x <;> rfl

mutual
/-- A constant's plain value is the model's. -/
def same : AV → Value → Bool
  | .bool b, .bool c => b == c
  | .int k n, .int k' m => decide (k = k') && decide (n = m)
  | .str s, .string b => decide (s = b.data.toList)
  | .list [] .nil, .slice .none 0 0 => true
  | .nilp, .pointer .none => true
  | .nilm, .map .none => true
  | .nilf, .nilFunc => true
  | .nili, .nilIface => true
  | .agg cs, .agg ⟨vs⟩ => sames cs vs && vs.all Value.oneCell'
  | .iface t v, .iface u x => decide (t = u) && same v x
  | .func f [], .func (.func h) ⟨[]⟩ ⟨[]⟩ => decide (f = h)
  | _, _ => false
def sames : List AV → List Value → Bool
  | [], [] => true
  | v :: vs, u :: us => same v u && sames vs us
  | _, _ => false
end
def opdOk : Opd → Operand → Bool
  | .t s _, .tmp t => decide (s = t)
  | .c v, .const u => same v u
  | .g a, .global b => decide (a = b)
  | .f a, .func b => decide (a = b)
  | _, _ => false
def opdsOk : List Opd → List Operand → Bool
  | [], [] => true
  | x :: xs, y :: ys => opdOk x y && opdsOk xs ys
  | _, _ => false

section
variable {g : Gh} {w : World}
theorem V.of_same_str {s : List UInt8} {b : ByteArray} (h : s = b.data.toList) : (Value.string b) = .string ⟨s.toArray⟩ := by
  subst h; cases b; rfl
set_option maxHeartbeats 1000000 in
mutual
theorem V.of_same : ∀ (v : AV) (u : Value), same v u = true → V g w v u
  | .none, _, h => by simp [same] at h
  | .bool b, u, h => by cases u <;> simp [same] at h; subst h; simp [V]
  | .int k n, u, h => by cases u <;> simp [same] at h; obtain ⟨rfl, rfl⟩ := h; simp [V]
  | .str s, u, h => by cases u <;> simp [same] at h; simp only [V]; exact V.of_same_str h
  | .list xs o, u, h => by
    cases xs <;> cases o <;> try (simp [same] at h; done)
    cases u <;> try (simp [same] at h; done)
    rename_i A n c
    cases A <;> cases n <;> cases c <;> try (simp [same] at h; done)
    simp only [V]; exact ⟨none, 0, rfl, Nat.le_refl _, by decide, fun _ => rfl, fun _ => rfl, fun a e => by cases e⟩
  | .nilp, u, h => by cases u <;> try (simp [same] at h; done)
                      rename_i A; cases A <;> simp [same] at h; simp [V]
  | .nilm, u, h => by cases u <;> try (simp [same] at h; done)
                      rename_i A; cases A <;> simp [same] at h; simp [V]
  | .nilf, u, h => by cases u <;> simp [same] at h; simp [V]
  | .nili, u, h => by cases u <;> simp [same] at h; simp [V]
  | .agg cs, u, h => by
    cases u <;> try (simp [same] at h; done)
    rename_i a; obtain ⟨vs⟩ := a
    simp only [same, Bool.and_eq_true, List.all_eq_true] at h; simp only [V]; exact ⟨vs, rfl, VS.of_same cs vs h.1, h.2⟩
  | .tup _, _, h => by simp [same] at h
  | .iface t v, u, h => by
    cases u <;> try (simp [same] at h; done)
    rename_i t' x
    simp only [same, Bool.and_eq_true, decide_eq_true_eq] at h; obtain ⟨rfl, h⟩ := h
    simp only [V]; exact ⟨x, rfl, V.of_same v x h⟩
  | .func f cs, u, h => by
    cases cs <;> try (simp [same] at h; done)
    cases u <;> try (simp [same] at h; done)
    rename_i fn a b; obtain ⟨a⟩ := a; obtain ⟨b⟩ := b
    cases fn <;> cases a <;> cases b <;> simp [same] at h
    subst h; simp only [V]; exact ⟨[], rfl, by simp [VS]⟩
  | .pend _ _, _, h => by simp [same] at h
  | .lref _ _, _, h => by simp [same] at h
  | .box _, _, h => by simp [same] at h
  | .eref _ _, _, h => by simp [same] at h
  | .lastr _, _, h => by simp [same] at h
  | .ptr _ _, _, h => by simp [same] at h
  | .map _, _, h => by simp [same] at h
  | .glob _ _, _, h => by simp [same] at h
theorem VS.of_same : ∀ (vs : List AV) (us : List Value), sames vs us = true → VS g w vs us
  | [], us, h => by cases us <;> simp [sames] at h; simp [VS]
  | v :: vs, us, h => by
    cases us <;> simp [sames] at h
    rename_i u us; simp only [VS]; exact ⟨u, us, rfl, V.of_same v u h.1, VS.of_same vs us h.2⟩
end
theorem AV.plain_of_same {v : AV} {u : Value} (h : same v u = true) : v.plain = true := by
  cases v <;> simp [same, AV.plain] at h ⊢

theorem AV.loose_of_plain {v : AV} (h : v.plain = true) : v.loose = true := by cases v <;> simp_all [AV.plain, AV.loose]
theorem VX_plain {fr : Fr} {tm : Array Value} {v : AV} {cv : Value} (h : v.plain = true) : VX g w fr tm v cv = V g w v cv := by
  cases v <;> simp_all [AV.plain, VX]
theorem VX_of_V {fr : Fr} {tm : Array Value} {v : AV} {cv : Value} (h : V g w v cv) : VX g w fr tm v cv := by
  cases v <;> simp only [VX] <;> first | exact h | (simp only [V] at h)
theorem VF_loose {fr : Fr} {tm : Array Value} {r : Root} {v : AV} {cv : Value} (h : v.loose = true) : VF g w fr tm r v cv = (VX g w fr tm v cv ∧ Owns g w r v cv) := by
  cases v <;> simp_all [AV.loose, VF]
theorem AV.cp_loose {v : AV} (h : v.loose = true) : v.cp.loose = true := by
  cases v <;> simp_all [AV.loose, AV.cp, AV.cpA, AV.cp1]
  case list xs o => cases o <;> simp [AV.cp1]
theorem VX.cp {fr : Fr} {tm : Array Value} {v : AV} {cv : Value} (h : VX g w fr tm v cv) : VX g w fr tm v.cp cv := by
  cases v <;> first
    | exact VX_of_V (V.cp (by simpa only [VX] using h))
    | exact h
theorem Owns.not_own {r : Root} {v : AV} {cv : Value} (h1 : ∀ xs sz, v ≠ .list xs (.own sz)) (h2 : ∀ vs, v ≠ .tup vs) : Owns g w r v cv := by
  cases v <;> try trivial
  case list xs o => cases o <;> first | trivial | exact absurd rfl (h1 _ _)
  case tup vs => exact absurd rfl (h2 vs)

theorem sames_not_own : ∀ {vs : List AV} {us : List Value}, sames vs us = true → ∀ (i : Nat) xs sz, vs[i]? ≠ some (AV.list xs (.own sz))
  | [], _, _, _, _, _ => by simp
  | v :: vs, [], h, _, _, _ => by simp [sames] at h
  | v :: vs, u :: us, h, 0, xs, sz => by
    simp only [sames, Bool.and_eq_true] at h
    intro e; simp at e; subst e
    have := h.1
    cases xs <;> simp [same] at this
  | v :: vs, u :: us, h, i + 1, xs, sz => by
    simp only [sames, Bool.and_eq_true] at h
    simpa using sames_not_own h.2 i xs sz
theorem Owns.of_same {r : Root} {v : AV} {u cv : Value} (h : Go.Proofs.Ytajlmldpbhendaa.Rf.same v u = true) : Owns g w r v cv := by
  cases v <;> try trivial
  case list xs o => cases o <;> first | trivial | (cases xs <;> simp [Go.Proofs.Ytajlmldpbhendaa.Rf.same] at h)

/-- The frame turns only where nothing leads. -/
structure FrLike (fr : Fr) (tm : Array Value) (fr' : Fr) (tm' : Array Value) : Prop where
  box : ∀ t cs, fr.get t = .box cs → ∃ cs', fr'.get t = .box cs'
  pend : ∀ t xs sz, fr.get t = .pend xs sz → fr'.get t = .pend xs sz ∧ tm'.getD t undef = tm.getD t undef
theorem FrLike.refl (fr : Fr) (tm : Array Value) : FrLike fr tm fr tm := ⟨fun t cs h => ⟨cs, h⟩, fun t xs sz h => ⟨h, rfl⟩⟩
theorem VX.like {fr fr' : Fr} {tm tm' : Array Value} (l : FrLike fr tm fr' tm') {v : AV} {cv : Value} (h : VX g w fr tm v cv) : VX g w fr' tm' v cv := by
  cases v <;> simp only [VX] at h ⊢ <;> try exact h
  case lref t off => obtain ⟨h1, cs, h2⟩ := h; exact ⟨h1, l.box t cs h2⟩
  case lastr t => obtain ⟨xs, sz, a, c, h1, h2, h3⟩ := h; obtain ⟨p, q⟩ := l.pend t xs sz h1; exact ⟨xs, sz, a, c, p, q.trans h2, h3⟩
theorem VF.like {fr fr' : Fr} {tm tm' : Array Value} (l : FrLike fr tm fr' tm') {r : Root} {v : AV} {cv : Value} (h : VF g w fr tm r v cv) : VF g w fr' tm' r v cv := by
  cases v <;> simp only [VF] at h ⊢ <;> first | exact h | exact ⟨VX.like l h.1, h.2⟩
theorem FrLike.set {fr : Fr} {tm : Array Value} {s : Nat} {v : AV} (h : (fr.get s).loose = true) : FrLike fr tm (fr.set s v) tm :=
  ⟨fun t cs ht => by
      rw [Fr.get_set]; by_cases e : s = t
      · subst e; rw [ht] at h; simp [AV.loose] at h
      · rw [if_neg e]; exact ⟨cs, ht⟩,
   fun t xs sz ht => by
      rw [Fr.get_set]; by_cases e : s = t
      · subst e; rw [ht] at h; simp [AV.loose] at h
      · rw [if_neg e]; exact ⟨ht, rfl⟩⟩

variable {G : Nat → Option (List AV)} {st : St} {ps : List (AV × Value)} {tm : Array Value}

/-- An operand, read. -/
theorem Rel.read (k : Rel G g st ps tm w) {x : Opd} {o : Operand} (h : opdOk x o = true) : VX g w st.fr tm (opd st.fr x).1 (Act.opd tm o) := by
  cases x with
  | t s take =>
    cases o <;> simp [opdOk] at h
    subst h
    have f := k.fr s
    simp only [opd, Act.opd]
    cases hv : st.fr.get s <;> rw [hv] at f <;> simp only <;> try (cases take <;> simp only [if_true, if_false, Bool.false_eq_true] <;> simp only [VF] at f <;> first | exact f.1 | exact VX.cp f.1)
    case box cs => simp only [VF] at f; obtain ⟨vs, ty, f1, _⟩ := f; simp only [VX]; exact ⟨f1, cs, hv⟩
    case pend => simp [VX, V]
  | c v => cases o <;> simp [opdOk] at h; exact VX_of_V (V.of_same _ _ h)
  | g a => cases o <;> simp [opdOk] at h; subst h; simp [opd, VX, V, Act.opd]
  | f a => cases o <;> simp [opdOk] at h; subst h; simp only [opd, VX, V, Act.opd]; exact ⟨[], rfl, by simp [VS]⟩
theorem opd_loose (fr : Fr) {x : Opd} {o : Operand} (h : opdOk x o = true) : (opd fr x).1.loose = true := by
  cases x with
  | t s take =>
    simp only [opd]
    cases hv : fr.get s <;> simp only <;> try (cases take <;> simp only [if_true, if_false, Bool.false_eq_true] <;> first | rfl | exact AV.cp_loose rfl)
    all_goals rfl
  | c v => cases o <;> simp [opdOk] at h; exact AV.loose_of_plain (AV.plain_of_same h)
  | g a => rfl
  | f a => rfl

/-- A value that owns nothing may be laid beside. -/
theorem Rel.push (k : Rel G g st ps tm w) {v : AV} {cv : Value} (h : VF g w st.fr tm (.arg ps.length) v cv) : Rel G g st (ps ++ [(v, cv)]) tm w :=
  ⟨k.fr, fun j u cu hj => by
      rw [List.getElem?_append] at hj
      split at hj
      · exact k.ps j u cu hj
      · rename_i hlt
        have e : j = ps.length := by
          obtain ⟨h1, _⟩ := List.getElem?_eq_some_iff.1 hj; simp at h1; omega
        subst e; simp at hj; obtain ⟨h1, h2⟩ := hj; subst h1; subst h2; exact h, k.hp, k.fresh, k.gl⟩
theorem Rel.less (k : Rel G g st ps tm w) : Rel G g st [] tm w := ⟨k.fr, fun j u cu hj => by simp at hj, k.hp, k.fresh, k.gl⟩

/-- Moving what stands at r to q: the rest stays. -/
theorem Rel.mv {r q : Root} {fr' : Fr} {tm' : Array Value} {ps' : List (AV × Value)} (k : Rel G g st ps tm w)
    (hr : ∀ id i, r ≠ .ob id ∧ q ≠ .ob id ∧ r ≠ .mp id i ∧ q ≠ .mp id i)
    (hbx : ∀ t cs, st.fr.get t = .box cs → q ≠ .fr t)
    (l : FrLike st.fr tm fr' tm')
    (hfr : ∀ s, (VF (g.mv r q) w fr' tm' (.fr s) (fr'.get s) (tm'.getD s undef)) ∨ (Root.fr s ≠ r ∧ Root.fr s ≠ q ∧ fr'.get s = st.fr.get s ∧ tm'.getD s undef = tm.getD s undef))
    (hps : ∀ (j : Nat) v cv, ps'[j]? = some (v, cv) → (VF (g.mv r q) w fr' tm' (.arg j) v cv) ∨ (Root.arg j ≠ r ∧ Root.arg j ≠ q ∧ ps[j]? = some (v, cv))) :
    Rel G (g.mv r q) { st with fr := fr' } ps' tm' w := by
  have sm := g.mv_same w r q
  have hb : ∀ t cs, st.fr.get t = .box cs → (g.mv r q).bx (.fr t) = g.bx (.fr t) := fun t cs h => by simp only [Gh.mv]; rw [if_neg (fun e => hbx t cs h e.symm)]
  have one : ∀ {x : Root} {v : AV} {cv : Value}, x ≠ r → x ≠ q → VF g w st.fr tm x v cv → VF (g.mv r q) w fr' tm' x v cv := fun h1 h2 h =>
    VF.like l (h.same sm trivial hb (fun i => ⟨h1, h2⟩) ⟨h1, h2⟩ (by simp only [Gh.mv]; rw [if_neg h2]))
  refine ⟨fun s => ?_, fun j v cv hj => ?_, ?_, fun b o h => ?_, ?_⟩
  · rcases hfr s with h | ⟨h1, h2, h3, h4⟩
    · exact h
    · simp only; rw [h3, h4]; exact one h1 h2 (k.fr s)
  · rcases hps j v cv hj with h | ⟨h1, h2, h3⟩
    · exact h
    · exact one h1 h2 (k.ps j v cv h3)
  · exact k.hp.same sm trivial (fun _ => trivial) (fun id i => ⟨(hr id 0).1.symm, (hr id 0).2.1.symm⟩) (fun id i j => ⟨(hr id i).2.2.1.symm, (hr id i).2.2.2.symm⟩) rfl
  · show (g.ow b o).mv r q = _; rw [k.fresh b o h]; rfl
  · exact k.gl.same sm trivial trivial

/-- An operand, its ownership taken along. -/
theorem Rel.take (k : Rel G g st ps tm w) {x : Opd} {o : Operand} (h : opdOk x o = true) :
    ∃ g', Rel G g' { st with fr := (opd st.fr x).2 } (ps ++ [((opd st.fr x).1, Act.opd tm o)]) tm w ∧ Stay g w g' w ∧ g'.hb = g.hb := by
  have hread := k.read h
  have stay0 : Stay g w g w := { ow := fun _ _ _ _ => rfl, cell := fun _ _ _ _ => rfl, frz := fun _ _ _ _ => rfl, blk := fun _ _ _ => rfl, hb := fun _ _ h => h, os := rfl, tape := rfl, output := rfl, size := Nat.le_refl _ }
  -- nothing is taken
  have plainly : (opd st.fr x).2 = st.fr → Owns g w (.arg ps.length) (opd st.fr x).1 (Act.opd tm o) → ∃ g', Rel G g' { st with fr := (opd st.fr x).2 } (ps ++ [((opd st.fr x).1, Act.opd tm o)]) tm w ∧ Stay g w g' w ∧ g'.hb = g.hb := fun e ho => by
    refine ⟨g, ?_, stay0, rfl⟩
    rw [e]
    exact k.push (by rw [VF_loose (opd_loose st.fr h)]; exact ⟨hread, ho⟩)
  cases x with
  | c v => 
    refine plainly rfl ?_
    cases o <;> simp [opdOk] at h
    exact Owns.of_same h
  | g a => exact plainly rfl trivial
  | f a => exact plainly rfl trivial
  | t s tk =>
    cases o <;> simp [opdOk] at h
    rename_i t0; subst h
    have f := k.fr s
    by_cases hl : (st.fr.get s).loose = true
    · cases tk with
      | false =>
        have e1 : opd st.fr (.t s false) = ((st.fr.get s).cp, st.fr) := by
          simp only [opd]; cases hv : st.fr.get s <;> first | rfl | (rw [hv] at hl; simp [AV.loose] at hl)
        exact plainly (by rw [e1]) (by rw [e1]; exact Owns.cp)
      | true =>
        have e1 : opd st.fr (.t s true) = (st.fr.get s, st.fr.set s (st.fr.get s).cp) := by
          simp only [opd]; cases hv : st.fr.get s <;> first | rfl | (rw [hv] at hl; simp [AV.loose] at hl)
        rw [e1]
        rw [VF_loose hl] at f
        have l := FrLike.set (tm := tm) (s := s) (v := (st.fr.get s).cp) hl
        refine ⟨g.mv (.fr s) (.arg ps.length), Rel.mv k (fun _ _ => ⟨by simp, by simp, by simp, by simp⟩) (fun t cs _ => by simp) l (fun u => ?_) (fun j v cv hj => ?_), Gh.mv_stay g w _ _, rfl⟩
        · by_cases hu : s = u
          · subst hu; left
            rw [Fr.get_set, if_pos rfl, VF_loose (AV.cp_loose hl)]
            exact ⟨VX.like l ((VX.cp f.1).same (g.mv_same w _ _) trivial (fun t cs ht => by simp [Gh.mv])), Owns.cp⟩
          · right; exact ⟨by simpa using fun e => hu e.symm, by simp, by rw [Fr.get_set, if_neg hu], rfl⟩
        · rw [List.getElem?_append] at hj
          split at hj
          · rename_i hlt; right; exact ⟨by simp, by simp; omega, hj⟩
          · have : j = ps.length := by
              have := List.getElem?_eq_some_iff.1 hj
              obtain ⟨h1, _⟩ := this; simp at h1; omega
            subst this; simp at hj; obtain ⟨rfl, rfl⟩ := hj; left
            rw [VF_loose hl]
            exact ⟨VX.like l (f.1.same (g.mv_same w _ _) trivial (fun t cs ht => by simp [Gh.mv])), f.2.mv⟩
    · have e2 : (opd st.fr (.t s tk)).2 = st.fr := by
        simp only [opd]; cases hv : st.fr.get s <;> first | rfl | (rw [hv] at hl; simp [AV.loose] at hl)
      refine plainly e2 ?_
      simp only [opd]; cases hv : st.fr.get s <;> first | (rw [hv] at hl; simp [AV.loose] at hl; done) | trivial

theorem Stay.refl (g : Gh) (w : World) : Stay g w g w :=
  { ow := fun _ _ _ _ => rfl, cell := fun _ _ _ _ => rfl, frz := fun _ _ _ _ => rfl, blk := fun _ _ _ => rfl, hb := fun _ _ h => h, os := rfl, tape := rfl, output := rfl, size := Nat.le_refl _ }
theorem Stay.trans {g g1 g2 : Gh} {w w1 w2 : World} (h : Stay g w g1 w1) (k : Stay g1 w1 g2 w2) : Stay g w g2 w2 :=
  { ow := fun b o hl ht => (k.ow b o (Nat.lt_of_lt_of_le hl h.size) (by rw [h.ow b o hl ht]; exact ht)).trans (h.ow b o hl ht)
    cell := fun b o hl ht => (k.cell b o (Nat.lt_of_lt_of_le hl h.size) (by rw [h.ow b o hl ht]; exact ht)).trans (h.cell b o hl ht)
    frz := fun b o hl ht => (k.frz b o (Nat.lt_of_lt_of_le hl h.size) (by rw [h.ow b o hl ht]; exact ht)).trans (h.frz b o hl ht)
    blk := fun b hl ht => (k.blk b (Nat.lt_of_lt_of_le hl h.size) (fun o => by rw [h.ow b o hl (ht o)]; exact ht o)).trans (h.blk b hl ht)
    hb := fun i b e => k.hb i b (h.hb i b e), os := k.os.trans h.os, tape := k.tape.trans h.tape, output := k.output.trans h.output, size := Nat.le_trans h.size k.size }

/-- All operands, one behind the other. -/
theorem Rel.takes (k : Rel G g st ps tm w) {xs : List Opd} {os : List Operand} (h : opdsOk xs os = true) :
    ∃ g', Rel G g' { st with fr := (opds st.fr xs).2 } (ps ++ (opds st.fr xs).1.zip (os.map (Act.opd tm))) tm w ∧ Stay g w g' w ∧ g'.hb = g.hb ∧ (opds st.fr xs).1.length = os.length := by
  induction xs generalizing g st ps os with
  | nil =>
    cases os <;> simp [opdsOk] at h
    exact ⟨g, by simpa [opds] using k, Stay.refl g w, rfl, rfl⟩
  | cons x xs ih =>
    cases os with
    | nil => simp [opdsOk] at h
    | cons o os =>
      simp only [opdsOk, Bool.and_eq_true] at h
      obtain ⟨g1, k1, s1, hb1⟩ := k.take h.1
      obtain ⟨g2, k2, s2, hb2, hl2⟩ := ih k1 h.2
      refine ⟨g2, ?_, s1.trans s2, hb2.trans hb1, ?_⟩
      · simp only [opds, List.map_cons, List.zip_cons_cons]
        rw [List.append_assoc] at k2; exact k2
      · simp only [opds, List.length_cons]; exact congrArg (· + 1) hl2

/-- A result goes into its slot. -/
theorem Rel.into {v : AV} {cv : Value} (k : Rel G g st [(v, cv)] tm w) {d : Nat} (hd : (st.fr.get d).loose = true) (hs : d < tm.size) :
    ∃ g', Rel G g' { st with fr := st.fr.set d v } [] (tm.setIfInBounds d cv) w ∧ Stay g w g' w ∧ g'.hb = g.hb := by
  have hg : ∀ t, (tm.setIfInBounds d cv).getD t undef = if d = t then cv else tm.getD t undef := fun t => by
    simp only [Array.getD_eq_getD_getElem?, Array.getElem?_setIfInBounds]
    by_cases e : d = t
    · subst e; simp [hs]
    · simp [e]
  have l : FrLike st.fr tm (st.fr.set d v) (tm.setIfInBounds d cv) :=
    ⟨(FrLike.set (tm := tm) hd).box, fun t xs sz ht => ⟨((FrLike.set (tm := tm) (v := v) hd).pend t xs sz ht).1, by
      rw [hg]; by_cases e : d = t
      · subst e; rw [ht] at hd; simp [AV.loose] at hd
      · rw [if_neg e]⟩⟩
  have nb : ∀ t cs, st.fr.get t = .box cs → Root.fr d ≠ .fr t := fun t cs ht e => by
    cases e; rw [ht] at hd; simp [AV.loose] at hd
  refine ⟨g.mv (.arg 0) (.fr d), Rel.mv k (fun _ _ => ⟨by simp, by simp, by simp, by simp⟩) nb l (fun u => ?_) (fun j v cv hj => by simp at hj), Gh.mv_stay g w _ _, rfl⟩
  by_cases hu : d = u
  · subst hu; left
    rw [Fr.get_set, if_pos rfl, hg, if_pos rfl]
    exact VF.mv (fun v cv h => VX.like l (h.same (g.mv_same w _ _) trivial (fun t cs ht => by simp only [Gh.mv]; rw [if_neg (fun e => nb t cs ht e.symm)]))) (k.ps 0 v cv rfl)
  · right; exact ⟨by simp, by simpa using fun e => hu e.symm, by rw [Fr.get_set, if_neg hu], by rw [hg, if_neg hu]⟩
end
end Go.Proofs.Ytajlmldpbhendaa.Rf
