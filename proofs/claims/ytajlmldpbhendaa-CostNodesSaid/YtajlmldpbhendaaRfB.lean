/- How the plain values stand to the model's values and worlds. -/
import Derived.Test.YtajlmldpbhendaaRfA
import Derived.Calls
import Derived.RowKit
import Derived.Laws.World
import Derived.Laws.Sem
set_option linter.unusedSimpArgs false
set_option linter.unusedVariables false
namespace Go.Proofs.Ytajlmldpbhendaa.Rf

inductive Root where
  | fr (s : Nat)
  | arg (j : Nat)
  | ob (id : Nat)
  | mp (id i : Nat)
  deriving DecidableEq
inductive Tag where
  | out | imm
  | box (r : Root)
  | obj (id : Nat)
  | tail (r : Root) (i : Nat)
  deriving DecidableEq
structure Gh where
  ow : Nat → Nat → Tag
  hb : List Nat
  bx : Root → Nat

/-- Values of one cell. -/
def Ones (vs : List Value) : Prop := ∀ u, u ∈ vs → u.oneCell' = true

section
variable (g : Gh) (w : World)
mutual
def V : AV → Value → Prop
  | .none, _ => True
  | .bool b, cv => cv = .bool b
  | .int k n, cv => cv = .int k n
  | .str s, cv => cv = .string ⟨s.toArray⟩
  | .agg cs, cv => ∃ vs : List Value, cv = .agg vs.toArray ∧ VS cs vs ∧ Ones vs
  | .list xs o, cv => ∃ A c, cv = .slice A xs.length c ∧ xs.length ≤ c ∧ c ≤ 9223372036854775807 ∧ (o = .nil → A = none) ∧
      (A = none → c = 0) ∧ ∀ a, A = some a → ((o ≠ .no ∨ 0 < c) → a.spot = none) ∧ ∃ sz, VE sz xs a.block a.off
  | .ptr id off, cv => ∃ b, g.hb[id]? = some b ∧ cv = .pointer (some ⟨b, off, none⟩)
  | .nilp, cv => cv = .pointer none
  | .map id, cv => ∃ b, g.hb[id]? = some b ∧ cv = .map (some b)
  | .nilm, cv => cv = .map none
  | .func f caps, cv => ∃ vs : List Value, cv = .func (.func f) #[] vs.toArray ∧ VS caps vs
  | .nilf, cv => cv = .nilFunc
  | .iface t v, cv => ∃ u, cv = .iface t u ∧ V v u
  | .nili, cv => cv = .nilIface
  | .tup vs, cv => ∃ us : List Value, cv = .tuple us.toArray ∧ VS vs us
  | .glob b off, cv => cv = .pointer (some ⟨b, off, none⟩)
  | .pend _ _, _ | .lref _ _, _ | .box _, _ | .eref _ _, _ | .lastr _, _ => False
def VS : List AV → List Value → Prop
  | [], us => us = []
  | v :: vs, us => ∃ u r, us = u :: r ∧ V v u ∧ VS vs r
def VC : List AV → Nat → Nat → Prop
  | [], _, _ => True
  | c :: cs, b, off => (g.ow b off = .imm ∧ ∃ cv, w.cell? ⟨b, off, none⟩ = some cv ∧ cv.oneCell' = true ∧ V c cv) ∧ VC cs b (off + 1)
def VE (sz : Nat) : List AV → Nat → Nat → Prop
  | [], _, _ => True
  | .agg cs :: xs, b, off => (cs.length = sz ∧ VC cs b off) ∧ VE sz xs b (off + sz)
  | v :: xs, b, off => (1 = sz ∧ g.ow b off = .imm ∧ ∃ cv, w.cell? ⟨b, off, none⟩ = some cv ∧ cv.oneCell' = true ∧ V v cv) ∧ VE sz xs b (off + sz)
end

/-- What an owner holds of a slice: its elements and the room behind them. -/
def Tail (r : Root) (i : Nat) (xs : List AV) (sz : Nat) (cv : Value) : Prop :=
  ∀ a n c, cv = .slice (some a) n c → VE g w sz xs a.block a.off ∧
    ∀ o, a.off + xs.length * sz ≤ o → o < a.off + c * sz → g.ow a.block o = .tail r i ∧ (∃ u, w.cell? ⟨a.block, o, none⟩ = some u) ∧ w.frozen? ⟨a.block, o, none⟩ = false
def OwnsL (r : Root) (cs : List AV) (vs : List Value) : Prop :=
  ∀ (i : Nat) xs sz cv, cs[i]? = some (AV.list xs (.own sz)) → vs[i]? = some cv → Tail g w r i xs sz cv
def Owns (r : Root) (v : AV) (cv : Value) : Prop :=
  match v with
  | .list xs (.own sz) => Tail g w r 0 xs sz cv
  | .tup vs => ∀ us : List Value, cv = .tuple us.toArray → OwnsL g w r vs us
  | _ => True

/-- The value of an operand. -/
def VX (fr : Fr) (tm : Array Value) (v : AV) (cv : Value) : Prop :=
  match v with
  | .lref t off => cv = .pointer (some ⟨g.bx (.fr t), off, none⟩) ∧ ∃ cs, fr.get t = .box cs
  | .eref x off => ∃ b o0, cv = .pointer (some ⟨b, o0 + off, none⟩) ∧ VC g w x.cells b o0
  | .lastr t => ∃ xs sz a c, fr.get t = .pend xs sz ∧ tm.getD t undef = .slice (some a) (xs.length + 1) c ∧ cv = .pointer (some ⟨a.block, a.off + xs.length * sz, none⟩)
  | v => V g w v cv

/-- What stands at a root. -/
def VF (fr : Fr) (tm : Array Value) (r : Root) (v : AV) (cv : Value) : Prop :=
  match v with
  | .box cs => ∃ (vs : List Value) (ty : TypeId), cv = .pointer (some ⟨g.bx r, 0, none⟩) ∧ w.heap[g.bx r]? = some (.cells vs.toArray ty (0, 0)) ∧
      (VS g w cs vs ∧ Ones vs) ∧ (∀ o, g.ow (g.bx r) o = .box r) ∧ OwnsL g w r cs vs
  | .pend xs sz => ∃ a c, cv = .slice (some a) (xs.length + 1) c ∧ xs.length + 1 ≤ c ∧ c ≤ 9223372036854775807 ∧ a.spot = none ∧ Tail g w r 0 xs sz (.slice (some a) (xs.length + 1) c)
  | v => VX g w fr tm v cv ∧ Owns g w r v cv

def ObjRel (id b : Nat) : HObj → Prop
  | .cells cs => ∃ (vs : List Value) (ty : TypeId), w.heap[b]? = some (.cells vs.toArray ty (0, 0)) ∧ (VS g w cs vs ∧ Ones vs) ∧ OwnsL g w (.ob id) cs vs
  | .map es => ∃ (ents : Array MapEntry) (clock : Nat), w.heap[b]? = some (.map ents clock) ∧ ents.size = es.length ∧
      ∀ (i : Nat) k v, es[i]? = some (k, v) → ∃ e, ents[i]? = some e ∧ V g w k e.key ∧ V g w v e.val ∧ Owns g w (.mp id i) v e.val
structure HeapRel (hp : List HObj) : Prop where
  len : g.hb.length = hp.length
  obj : ∀ (id : Nat) o, hp[id]? = some o → ∃ b, g.hb[id]? = some b ∧ (∀ i, g.ow b i = .obj id) ∧ ObjRel g w id b o
end

def GlobRel (G : Nat → Option (List AV)) (g : Gh) (w : World) : Prop :=
  ∀ b cs, G b = some cs → ∃ (vs : List Value) (ty : TypeId), w.heap[b]? = some (.cells vs.toArray ty (0, 0)) ∧ (VS g w cs vs ∧ Ones vs) ∧ ∀ o, g.ow b o = .out

structure Rel (G : Nat → Option (List AV)) (g : Gh) (st : St) (ps : List (AV × Value)) (tm : Array Value) (w : World) : Prop where
  fr : ∀ s, VF g w st.fr tm (.fr s) (st.fr.get s) (tm.getD s undef)
  ps : ∀ (j : Nat) v cv, ps[j]? = some (v, cv) → VF g w st.fr tm (.arg j) v cv
  hp : HeapRel g w st.hp
  fresh : ∀ b o, w.heap.size ≤ b → g.ow b o = .out
  gl : GlobRel G g w

/-- The tags in T stay as they are, with what they stand on. -/
structure Same (T : Tag → Prop) (g : Gh) (w : World) (g' : Gh) (w' : World) : Prop where
  ow : ∀ b o, b < w.heap.size → T (g.ow b o) → g'.ow b o = g.ow b o
  cell : ∀ b o, b < w.heap.size → T (g.ow b o) → w'.cell? ⟨b, o, none⟩ = w.cell? ⟨b, o, none⟩
  frz : ∀ b o, b < w.heap.size → T (g.ow b o) → w'.frozen? ⟨b, o, none⟩ = w.frozen? ⟨b, o, none⟩
  blk : ∀ b, b < w.heap.size → (∀ o, T (g.ow b o)) → w'.heap[b]? = w.heap[b]?
  hb : ∀ (i b : Nat), g.hb[i]? = some b → g'.hb[i]? = some b

/-- What a call may not touch. -/
def Tag.kept : Tag → Prop
  | .out | .imm => True
  | _ => False
structure Stay (g : Gh) (w : World) (g' : Gh) (w' : World) : Prop extends Same Tag.kept g w g' w' where
  os : w'.os = w.os
  tape : w'.tape = w.tape
  output : w'.output = w.output
  size : w.heap.size ≤ w'.heap.size

section mono
variable {g g' : Gh} {w w' : World}
structure Ext (g : Gh) (w : World) (g' : Gh) (w' : World) : Prop where
  imm : ∀ b o, b < w.heap.size → g.ow b o = .imm → g'.ow b o = .imm ∧ w'.cell? ⟨b, o, none⟩ = w.cell? ⟨b, o, none⟩
  hb : ∀ (i b : Nat), g.hb[i]? = some b → g'.hb[i]? = some b
mutual
theorem V.mono (e : Ext g w g' w') : ∀ (v : AV) (cv : Value), V g w v cv → V g' w' v cv
  | .none, _ => fun _ => by simp [V]
  | .bool _, _ => by simp only [V]; exact id
  | .int _ _, _ => by simp only [V]; exact id
  | .str _, _ => by simp only [V]; exact id
  | .agg cs, _ => by simp only [V]; rintro ⟨vs, h, k, l⟩; exact ⟨vs, h, VS.mono e cs vs k, l⟩
  | .list xs o, _ => by
    simp only [V]; rintro ⟨A, c, h1, h2, h3, h4, h5, h6⟩
    refine ⟨A, c, h1, h2, h3, h4, h5, fun a ha => ?_⟩
    obtain ⟨hs, sz, hv⟩ := h6 a ha
    exact ⟨hs, sz, VE.mono e sz xs _ _ hv⟩
  | .ptr _ _, _ => by simp only [V]; rintro ⟨b, h, k⟩; exact ⟨b, e.hb _ _ h, k⟩
  | .nilp, _ => by simp only [V]; exact id
  | .map _, _ => by simp only [V]; rintro ⟨b, h, k⟩; exact ⟨b, e.hb _ _ h, k⟩
  | .nilm, _ => by simp only [V]; exact id
  | .func _ cs, _ => by simp only [V]; rintro ⟨vs, h, k⟩; exact ⟨vs, h, VS.mono e cs vs k⟩
  | .nilf, _ => by simp only [V]; exact id
  | .iface _ v, _ => by simp only [V]; rintro ⟨u, h, k⟩; exact ⟨u, h, V.mono e v u k⟩
  | .nili, _ => by simp only [V]; exact id
  | .tup cs, _ => by simp only [V]; rintro ⟨vs, h, k⟩; exact ⟨vs, h, VS.mono e cs vs k⟩
  | .glob _ _, _ => by simp only [V]; exact id
  | .pend _ _, _ => by simp only [V]; exact id
  | .lref _ _, _ => by simp only [V]; exact id
  | .box _, _ => by simp only [V]; exact id
  | .eref _ _, _ => by simp only [V]; exact id
  | .lastr _, _ => by simp only [V]; exact id
theorem VS.mono (e : Ext g w g' w') : ∀ (vs : List AV) (us : List Value), VS g w vs us → VS g' w' vs us
  | [], _ => by simp only [VS]; exact id
  | v :: vs, _ => by simp only [VS]; rintro ⟨u, r, h, k, l⟩; exact ⟨u, r, h, V.mono e v u k, VS.mono e vs r l⟩
theorem VC.mono (e : Ext g w g' w') : ∀ (vs : List AV) (b off : Nat), VC g w vs b off → VC g' w' vs b off
  | [], _, _ => by simp only [VC]; exact id
  | v :: vs, b, off => by
    simp only [VC]; rintro ⟨⟨h, cv, k, l0, l⟩, m⟩
    have hl := World.block_lt_of_cell? w ⟨b, off, none⟩ k
    exact ⟨⟨(e.imm _ _ hl h).1, cv, (e.imm _ _ hl h).2.trans k, l0, V.mono e v cv l⟩, VC.mono e vs _ _ m⟩
theorem VE.mono (e : Ext g w g' w') (sz : Nat) : ∀ (vs : List AV) (b off : Nat), VE g w sz vs b off → VE g' w' sz vs b off
  | [], _, _ => by simp only [VE]; exact id
  | .agg cs :: vs, b, off => by
    simp only [VE]; rintro ⟨⟨h, k⟩, m⟩
    exact ⟨⟨h, VC.mono e cs _ _ k⟩, VE.mono e sz vs _ _ m⟩
  | v :: vs, b, off => by
    intro h
    have hv := V.mono e v
    have hm := VE.mono e sz vs b (off + sz)
    cases v <;> simp only [VE] at h ⊢ <;> first
      | (obtain ⟨⟨h1, h2, cv, h3, h0, h4⟩, m⟩ := h
         have hl := World.block_lt_of_cell? w ⟨b, off, none⟩ h3
         exact ⟨⟨h1, (e.imm _ _ hl h2).1, cv, (e.imm _ _ hl h2).2.trans h3, h0, hv cv h4⟩, hm m⟩)
      | (obtain ⟨⟨h1, h2⟩, m⟩ := h; exact ⟨⟨h1, VC.mono e _ _ _ h2⟩, hm m⟩)
end
end mono
end Go.Proofs.Ytajlmldpbhendaa.Rf
