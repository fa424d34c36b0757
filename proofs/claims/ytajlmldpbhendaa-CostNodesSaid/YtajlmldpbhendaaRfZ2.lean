/- All the results; what a call that leaves the heap alone hands back. -/
import Derived.Test.YtajlmldpbhendaaRfZ
set_option linter.unusedSimpArgs false
set_option linter.unusedVariables false
namespace Go.Proofs.Ytajlmldpbhendaa.Rf

section
variable {P : Program} {G : Nat → Option (List AV)} {g g' : Gh} {st : St} {a : Act} {w w' : World} {o : Oper} {tm : Array Value} {call : CallF} {lo : Nat}

theorem chkRes_cons {r : IRes} {rs : List IRes} {q : ResultVar} {qs : List ResultVar} (h : chkRes P (r :: rs) (q :: qs) = true) : chkRes P [r] [q] = true ∧ chkRes P rs qs = true := by
  cases r <;> cases q <;> simp [chkRes] at h ⊢
  · exact h
  · exact ⟨⟨h.1.1, h.1.2⟩, h.2⟩
theorem run_ress (k : Rel G g st [] tm w) : ∀ {rs : List IRes} {qs : List ResultVar} {vs : List AV}, chkRes P rs qs = true → evalRess st rs = some vs →
    ∃ cvs : List Value, (qs.mapM (resSem tm)).run P w = .ok cvs w ∧ cvs.length = vs.length ∧ rs.length = vs.length ∧ ∀ (i : Nat) v cv r, vs[i]? = some v → cvs[i]? = some cv → rs[i]? = some r → ResOk g w r.slot v cv
  | [], [], vs, _, h => by simp [evalRess] at h; subst h; exact ⟨[], by simp, rfl, rfl, fun i v cv r h => by simp at h⟩
  | r :: rs, q :: qs, vs, hc, h => by
    obtain ⟨c1, c2⟩ := chkRes_cons hc
    simp only [evalRess] at h
    cases h1 : evalRes1 st r with
    | none => simp [h1] at h
    | some v =>
      cases h2 : evalRess st rs with
      | none => simp [h1, h2] at h
      | some vs' =>
        simp [h1, h2] at h; subst h
        obtain ⟨cv, e1, e2⟩ := run_res k c1 h1
        obtain ⟨cvs, f1, f2, f3, f4⟩ := run_ress k c2 h2
        refine ⟨cv :: cvs, ?_, by simp [f2], by simp [f3], fun i v' cv' r' a b c => ?_⟩
        · simp only [List.mapM_cons, Sem.run_bind, e1, Result.andThen_ok, f1, Sem.run_pure]
        · cases i with
          | zero => simp at a b c; subst a; subst b; subst c; exact e2
          | succ i => exact f4 i v' cv' r' (by simpa using a) (by simpa using b) (by simpa using c)
  | [], _ :: _, _, hc, _ => by simp [chkRes] at hc
  | r :: _, [], _, hc, _ => by cases r <;> simp [chkRes] at hc
theorem run_results (k : Rel G g st [] tm w) {fn : Func} {rs : List IRes} (hc : chkRes P rs fn.results.toList = true) (hn : (rs.map IRes.slot).Nodup) {vs : List AV} (h : evalRess st rs = some vs) :
    ∃ cv, (results fn tm).run P w = .ok cv w ∧ Rel G (g.outw (rs.map IRes.slot)) ⟨[], st.hp⟩ [(tupOf vs, cv)] #[] w ∧ Stay g w (g.outw (rs.map IRes.slot)) w := by
  obtain ⟨cvs, e1, e2, e3, e4⟩ := run_ress k hc h
  have sm := same_outw g w (rs.map IRes.slot)
  have hV : ∀ (i : Nat) v cv, vs[i]? = some v → cvs[i]? = some cv → V (g.outw (rs.map IRes.slot)) w v cv ∧ v.plain = true ∧ ∀ xs sz, v = .list xs (.own sz) → Tail (g.outw (rs.map IRes.slot)) w (.arg 0) i xs sz cv := by
    intro i v cv h1 h2
    have hi := (List.getElem?_eq_some_iff.1 h1).1
    have hr : rs[i]? = some rs[i] := List.getElem?_eq_getElem (by omega)
    obtain ⟨p1, p2, p3⟩ := e4 i v cv _ h1 h2 hr
    exact ⟨V.mono (sm.ext trivial) _ _ p1, p2, fun xs sz e => Tail.outw hn (by rw [List.getElem?_map, hr]; rfl) (p3 xs sz e)⟩
  have hrel : ∀ v cv, VF (g.outw (rs.map IRes.slot)) w [] #[] (.arg 0) v cv → Rel G (g.outw (rs.map IRes.slot)) ⟨[], st.hp⟩ [(v, cv)] #[] w := fun v cv hf =>
    ⟨fun s => by simp [Fr.get, VF, VX, V, Owns], fun j u cu hj => by
      cases j with
      | zero => simp at hj; obtain ⟨rfl, rfl⟩ := hj; exact hf
      | succ j => simp at hj, k.hp.same sm trivial (fun _ => trivial) (fun _ _ => trivial) (fun _ _ _ => trivial) rfl, fun b o hb => by show (g.ow b o).outw _ = _; rw [k.fresh b o hb]; rfl, k.gl.same sm trivial trivial⟩
  have hrun : ∀ cv, (if h : cvs.toArray.size = 1 then cvs.toArray[0] else Value.tuple cvs.toArray) = cv → (results fn tm).run P w = .ok cv w := fun cv hcv => by
    have hres : results fn tm = (fn.results.mapM (resSem tm) >>= fun vs => pure (if h : vs.size = 1 then vs[0] else .tuple vs)) := rfl
    have e5 : (fn.results.mapM (resSem tm)).run P w = .ok cvs.toArray w := by
      rw [Array.mapM_eq_mapM_toList]
      simp only [Sem.run_map, e1, Result.andThen_ok]
    rw [hres, Sem.run_bind, e5]
    simp only [Result.andThen_ok, Sem.run_pure, hcv]
  match vs, cvs, e2, hV, hrun with
  | [v], [cv], _, hV, hrun =>
    obtain ⟨p1, p2, p3⟩ := hV 0 v cv rfl rfl
    refine ⟨cv, hrun cv (by simp), hrel _ _ ?_, stay_of_same sm trivial trivial⟩
    simp only [tupOf]
    rw [VF_loose (AV.loose_of_plain p2), VX_plain p2]
    refine ⟨p1, ?_⟩
    unfold Owns
    split
    · exact p3 _ _ rfl
    · simp [AV.plain] at p2
    · trivial
  | [], [], _, hV, hrun =>
    refine ⟨.tuple #[], hrun _ (by simp), hrel _ _ ?_, stay_of_same sm trivial trivial⟩
    simp only [tupOf]
    rw [VF_loose rfl]
    exact ⟨by simp only [VX, V]; exact ⟨[], rfl, by simp [VS]⟩, fun us e => OwnsL.none (by simp)⟩
  | v :: v2 :: vs, cv :: cv2 :: cvs, hl, hV, hrun =>
    refine ⟨.tuple (cv :: cv2 :: cvs).toArray, hrun _ (by simp), hrel _ _ ?_, stay_of_same sm trivial trivial⟩
    simp only [tupOf]
    rw [VF_loose rfl]
    refine ⟨?_, fun us e => ?_⟩
    · simp only [VX, V]
      exact ⟨cv :: cv2 :: cvs, rfl, VS.mk hl fun i x y hx hy => (hV i x y hx hy).1⟩
    · injection e with e
      have e' : us = cv :: cv2 :: cvs := by
        have := congrArg Array.toList e; simpa using this.symm
      subst e'
      exact fun i xs sz c h1 h2 => (hV i _ c h1 h2).2.2 xs sz rfl

/-! the heap, cut back -/
mutual
theorem V.closed {n : Nat} (hn : g.hb.length ≤ n) : ∀ (v : AV) (cv : Value), V g w v cv → v.closed n = true
  | .none, _ => fun _ => by simp [AV.closed]
  | .bool _, _ => fun _ => by simp [AV.closed]
  | .int _ _, _ => fun _ => by simp [AV.closed]
  | .str _, _ => fun _ => by simp [AV.closed]
  | .agg cs, _ => by simp only [V, AV.closed]; rintro ⟨vs, _, k, _⟩; exact VS.closed hn cs vs k
  | .list xs o, _ => by
    simp only [V, AV.closed]; rintro ⟨A, c, _, h2, _, _, h5, h6⟩
    cases A with
    | none =>
      have : xs = [] := by have := h5 rfl; subst this; exact List.length_eq_zero_iff.1 (by omega)
      subst this; simp [AV.closedL]
    | some a =>
      obtain ⟨_, sz, hv⟩ := h6 a rfl
      exact VE.closed hn sz xs _ _ hv
  | .ptr id _, _ => by
    simp only [V, AV.closed]; rintro ⟨b, h, _⟩
    have := (List.getElem?_eq_some_iff.1 h).1
    simp; omega
  | .nilp, _ => fun _ => by simp [AV.closed]
  | .map id, _ => by
    simp only [V, AV.closed]; rintro ⟨b, h, _⟩
    have := (List.getElem?_eq_some_iff.1 h).1
    simp; omega
  | .nilm, _ => fun _ => by simp [AV.closed]
  | .func _ cs, _ => by simp only [V, AV.closed]; rintro ⟨vs, _, k⟩; exact VS.closed hn cs vs k
  | .nilf, _ => fun _ => by simp [AV.closed]
  | .iface _ v, _ => by simp only [V, AV.closed]; rintro ⟨u, _, k⟩; exact V.closed hn v u k
  | .nili, _ => fun _ => by simp [AV.closed]
  | .tup cs, _ => by simp only [V, AV.closed]; rintro ⟨vs, _, k⟩; exact VS.closed hn cs vs k
  | .glob _ _, _ => fun _ => by simp [AV.closed]
  | .pend _ _, _ => fun h => by simp [V] at h
  | .lref _ _, _ => fun h => by simp [V] at h
  | .box _, _ => fun h => by simp [V] at h
  | .eref _ _, _ => fun h => by simp [V] at h
  | .lastr _, _ => fun h => by simp [V] at h
theorem VS.closed {n : Nat} (hn : g.hb.length ≤ n) : ∀ (vs : List AV) (us : List Value), VS g w vs us → AV.closedL n vs = true
  | [], _ => fun _ => by simp [AV.closedL]
  | v :: vs, _ => by simp only [VS, AV.closedL, Bool.and_eq_true]; rintro ⟨u, r, _, k, l⟩; exact ⟨V.closed hn v u k, VS.closed hn vs r l⟩
theorem VC.closed {n : Nat} (hn : g.hb.length ≤ n) : ∀ (vs : List AV) (b off : Nat), VC g w vs b off → AV.closedL n vs = true
  | [], _, _ => fun _ => by simp [AV.closedL]
  | v :: vs, b, off => by
    simp only [VC, AV.closedL, Bool.and_eq_true]; rintro ⟨⟨_, cv, _, _, l⟩, m⟩
    exact ⟨V.closed hn v cv l, VC.closed hn vs _ _ m⟩
theorem VE.closed {n : Nat} (hn : g.hb.length ≤ n) (sz : Nat) : ∀ (vs : List AV) (b off : Nat), VE g w sz vs b off → AV.closedL n vs = true
  | [], _, _ => fun _ => by simp [AV.closedL]
  | .agg cs :: vs, b, off => by
    simp only [VE, AV.closedL, Bool.and_eq_true]; rintro ⟨⟨_, k⟩, m⟩
    exact ⟨by simp only [AV.closed]; exact VC.closed hn cs _ _ k, VE.closed hn sz vs _ _ m⟩
  | v :: vs, b, off => by
    intro h
    have hv := V.closed hn v
    have hm := VE.closed hn sz vs b (off + sz)
    cases v <;> simp only [VE] at h <;> simp only [AV.closedL, Bool.and_eq_true] <;> first
      | (obtain ⟨⟨_, _, cv, _, _, h4⟩, m⟩ := h; exact ⟨hv cv h4, hm m⟩)
      | (obtain ⟨⟨_, h2⟩, m⟩ := h; exact ⟨by simp only [AV.closed]; exact VC.closed hn _ _ _ h2, hm m⟩)
end
def Tag.cutb (n : Nat) : Tag → Tag
  | .obj id => if id < n then .obj id else .out
  | .tail (.ob id) i => if id < n then .tail (.ob id) i else .out
  | .tail (.mp id k) i => if id < n then .tail (.mp id k) i else .out
  | t => t
def Gh.cutb (g : Gh) (n : Nat) : Gh := { ow := fun b o => (g.ow b o).cutb n, hb := g.hb.take n, bx := g.bx }
theorem cutb_imm {n : Nat} {b o : Nat} (h : g.ow b o = .imm) : (g.cutb n).ow b o = .imm := by show (g.ow b o).cutb n = _; rw [h]; rfl
mutual
theorem V.cutb {n : Nat} : ∀ (v : AV) (cv : Value), v.closed n = true → V g w v cv → V (g.cutb n) w v cv
  | .none, _ => fun _ _ => by simp [V]
  | .bool _, _ => fun _ => by simp only [V]; exact id
  | .int _ _, _ => fun _ => by simp only [V]; exact id
  | .str _, _ => fun _ => by simp only [V]; exact id
  | .agg cs, _ => by simp only [V, AV.closed]; rintro hc ⟨vs, h, k, l⟩; exact ⟨vs, h, VS.cutb cs vs hc k, l⟩
  | .list xs o, _ => by
    simp only [V, AV.closed]; rintro hc ⟨A, c, h1, h2, h3, h4, h5, h6⟩
    refine ⟨A, c, h1, h2, h3, h4, h5, fun a ha => ?_⟩
    obtain ⟨hs, sz, hv⟩ := h6 a ha
    exact ⟨hs, sz, VE.cutb sz xs _ _ hc hv⟩
  | .ptr id _, _ => by simp only [V, AV.closed]; rintro hc ⟨b, h, k⟩; exact ⟨b, by simp at hc; simp only [Gh.cutb]; rw [List.getElem?_take, if_pos hc]; exact h, k⟩
  | .nilp, _ => fun _ => by simp only [V]; exact id
  | .map id, _ => by simp only [V, AV.closed]; rintro hc ⟨b, h, k⟩; exact ⟨b, by simp at hc; simp only [Gh.cutb]; rw [List.getElem?_take, if_pos hc]; exact h, k⟩
  | .nilm, _ => fun _ => by simp only [V]; exact id
  | .func _ cs, _ => by simp only [V, AV.closed]; rintro hc ⟨vs, h, k⟩; exact ⟨vs, h, VS.cutb cs vs hc k⟩
  | .nilf, _ => fun _ => by simp only [V]; exact id
  | .iface _ v, _ => by simp only [V, AV.closed]; rintro hc ⟨u, h, k⟩; exact ⟨u, h, V.cutb v u hc k⟩
  | .nili, _ => fun _ => by simp only [V]; exact id
  | .tup cs, _ => by simp only [V, AV.closed]; rintro hc ⟨vs, h, k⟩; exact ⟨vs, h, VS.cutb cs vs hc k⟩
  | .glob _ _, _ => fun _ => by simp only [V]; exact id
  | .pend _ _, _ => fun h => by simp [AV.closed] at h
  | .lref _ _, _ => fun h => by simp [AV.closed] at h
  | .box _, _ => fun h => by simp [AV.closed] at h
  | .eref _ _, _ => fun h => by simp [AV.closed] at h
  | .lastr _, _ => fun h => by simp [AV.closed] at h
theorem VS.cutb {n : Nat} : ∀ (vs : List AV) (us : List Value), AV.closedL n vs = true → VS g w vs us → VS (g.cutb n) w vs us
  | [], _ => fun _ => by simp only [VS]; exact id
  | v :: vs, _ => by
    simp only [VS, AV.closedL, Bool.and_eq_true]; rintro hc ⟨u, r, h, k, l⟩
    exact ⟨u, r, h, V.cutb v u hc.1 k, VS.cutb vs r hc.2 l⟩
theorem VC.cutb {n : Nat} : ∀ (vs : List AV) (b off : Nat), AV.closedL n vs = true → VC g w vs b off → VC (g.cutb n) w vs b off
  | [], _, _ => fun _ => by simp only [VC]; exact id
  | v :: vs, b, off => by
    simp only [VC, AV.closedL, Bool.and_eq_true]; rintro hc ⟨⟨h, cv, k, l0, l⟩, m⟩
    exact ⟨⟨cutb_imm h, cv, k, l0, V.cutb v cv hc.1 l⟩, VC.cutb vs _ _ hc.2 m⟩
theorem VE.cutb {n : Nat} (sz : Nat) : ∀ (vs : List AV) (b off : Nat), AV.closedL n vs = true → VE g w sz vs b off → VE (g.cutb n) w sz vs b off
  | [], _, _ => fun _ => by simp only [VE]; exact id
  | .agg cs :: vs, b, off => by
    simp only [VE, AV.closedL, Bool.and_eq_true, AV.closed]; rintro hc ⟨⟨h, k⟩, m⟩
    exact ⟨⟨h, VC.cutb cs _ _ hc.1 k⟩, VE.cutb sz vs _ _ hc.2 m⟩
  | v :: vs, b, off => by
    intro hc h
    simp only [AV.closedL, Bool.and_eq_true] at hc
    have hv := V.cutb (n := n) v
    have hm := VE.cutb sz vs b (off + sz) hc.2
    cases v <;> simp only [VE] at h ⊢ <;> first
      | (obtain ⟨⟨h1, h2, cv, h3, h0, h4⟩, m⟩ := h; exact ⟨⟨h1, cutb_imm h2, cv, h3, h0, hv cv hc.1 h4⟩, hm m⟩)
      | (obtain ⟨⟨h1, h2⟩, m⟩ := h; exact ⟨⟨h1, VC.cutb _ _ _ (by simpa only [AV.closed] using hc.1) h2⟩, hm m⟩)
end
end
end Go.Proofs.Ytajlmldpbhendaa.Rf
