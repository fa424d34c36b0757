/- The pending element, written. -/
import Derived.Test.YtajlmldpbhendaaRfV
set_option linter.unusedSimpArgs false
set_option linter.unusedVariables false
namespace Go.Proofs.Ytajlmldpbhendaa.Rf

section
variable {P : Program} {G : Nat → Option (List AV)} {g g' : Gh} {st : St} {a : Act} {w w' : World} {o : Oper} {tm : Array Value} {ps : List (AV × Value)}

theorem Fr.mem_of_get : ∀ {fr : Fr} {s : Nat} {v : AV}, fr.get s = v → v ≠ .none → (s, v) ∈ fr
  | [], s, v, h, hn => by simp [Fr.get] at h; exact absurd h.symm hn
  | (t, u) :: r, s, v, h, hn => by
    simp only [Fr.get] at h
    split at h
    · rename_i e; subst e; subst h; simp
    · exact List.mem_cons_of_mem _ (Fr.mem_of_get h hn)
theorem Fr.noLast_get {fr : Fr} {s t u : Nat} (h : fr.noLast s = true) (k : fr.get t = .lastr u) : u ≠ s := by
  have := Fr.mem_of_get k (by simp)
  simp only [Fr.noLast, List.all_eq_true] at h
  have h2 := h _ this
  simp only [k] at h2
  simpa using h2
theorem VF.like2 {fr fr' : Fr} {tm' : Array Value} {r : Root} {v : AV} {cv : Value} (hb : ∀ t cs, fr.get t = .box cs → ∃ cs', fr'.get t = .box cs')
    (hp : ∀ t, v = .lastr t → ∀ xs sz, fr.get t = .pend xs sz → fr'.get t = .pend xs sz ∧ tm'.getD t undef = tm.getD t undef) (h : VF g w fr tm r v cv) : VF g w fr' tm' r v cv := by
  cases v <;> simp only [VF, VX] at h ⊢ <;> first
    | exact h
    | (obtain ⟨⟨h1, cs, h2⟩, h3⟩ := h; exact ⟨⟨h1, hb _ cs h2⟩, h3⟩)
    | (obtain ⟨⟨xs, sz, a, c, h1, h2, h3⟩, h4⟩ := h; obtain ⟨p, q⟩ := hp _ rfl xs sz h1; exact ⟨⟨xs, sz, a, c, p, q.trans h2, h3⟩, h4⟩)
theorem run_storeVar_each {t : TypeId} {n : Nat} {agg : Bool} (h : tyOk P t n agg = true) {b q : Nat} {cu : Value} (hn : cu.cells.toList.length = n) (h1 : Ones cu.cells.toList)
    (hc : ∀ j, j < n → (∃ u, w.cell? ⟨b, q + j, none⟩ = some u) ∧ w.frozen? ⟨b, q + j, none⟩ = false) : ∃ w', (storeVar t ⟨b, q, none⟩ cu).run P w = .ok () w' ∧ Wr w w' b q cu.cells.toList := by
  have hsz : (sizeOf t).run P w = .ok n w := by
    unfold tyOk at h
    cases hi : P.info? t with
    | none => simp [hi] at h
    | some i =>
      cases hu : P.underlying t with
      | none => simp [hi, hu] at h
      | some d =>
        simp only [hi, hu, Bool.and_eq_true, decide_eq_true_eq] at h
        simp [sizeOf, typeInfo, hi, h.1.1]
  obtain ⟨w', r1, r2⟩ := run_storeCells_each (P := P) b q cu.cells.toList 0 w (fun j hj => by rw [Nat.add_zero]; exact hc j (by rw [← hn]; exact hj)) h1
  rw [Nat.add_zero] at r2
  refine ⟨w', ?_, r2⟩
  simp only [storeVar, Sem.run_bind, hsz, Result.andThen_ok]
  rw [if_neg (by simp at hn; simpa using hn)]
  simpa using r1
theorem spread_len {v : AV} {cv : Value} (hp : v.plain = true) (hv : V g w v cv) : v.cp.cells.length = v.spread.length := by
  rw [← (V.cells hp hv).1.len, ← (V.cellsCp hp hv).1.len]

theorem opd_lastr_loose {fr : Fr} {p s : Nat} {tk : Bool} (h : (opd fr (.t p tk)).1 = .lastr s) (k : (fr.get p).loose = false) : False := by
  simp only [opd] at h
  cases hv : fr.get p <;> rw [hv] at h k <;> first | (simp [AV.loose] at k; done) | (simp at h; done)
theorem fits_store_last (k : Rel G g st [] a.tmps w) {p : Nat} {tk : Bool} {v : Opd} {y u : Operand} (hx : opdOk (.t p tk) y = true) (hv : opdOk v u = true) {t : TypeId} {n : Nat} {agg : Bool} (ht : tyOk P t n agg = true) (ho : o.op = .store t y u) (hp : (opd st.fr v).1.plain = true)
    {s : Nat} (h : (opd (opd st.fr v).2 (.t p tk)).1 = .lastr s) {xs : List AV} {sz : Nat} (hs : (opd st.fr v).2.get s = .pend xs sz) (hl : (opd st.fr v).1.spread.length = n) (hn : n = sz) (hps : p ≠ s) (hno : ((opd st.fr v).2.set p .none).noLast s = true) :
    Fits P G g st (.val (.tup []) { st with fr := ((opd st.fr v).2.set p .none).set s (.list (xs ++ [(opd st.fr v).1.cp]) (.own sz)) }) o a w := by
  subst hn
  obtain ⟨g1, k1, s1, _⟩ := k.take hv
  simp only [List.nil_append] at k1
  have hr := k1.read hx
  simp only at hr
  rw [h] at hr
  simp only [VX] at hr
  obtain ⟨xs', sz', ad, c, r1, r2, r3⟩ := hr
  rw [hs] at r1; cases r1
  have hu := k1.ps 0 _ _ rfl
  rw [VF_loose (AV.loose_of_plain hp), VX_plain hp] at hu
  have hc := V.cells hp hu.1
  have hcn : (Act.opd a.tmps u).cells.toList.length = n := by rw [hc.1.len]; exact hl
  have hf := k1.fr s
  simp only at hf
  rw [hs, r2] at hf
  simp only [VF] at hf
  obtain ⟨ad', c', f1, f2, f3, f4, f5⟩ := hf
  cases f1
  obtain ⟨b, q, sp⟩ := ad
  simp only at f4; subst f4
  obtain ⟨hE, htail⟩ := f5.get
  simp only at hE htail r3
  have hle : (xs.length + 1) * n ≤ c * n := Nat.mul_le_mul_right n f2
  rw [Nat.add_mul, Nat.one_mul] at hle
  obtain ⟨w', hw1, hw2⟩ := run_storeVar_each (w := w) ht (b := b) (q := q + xs.length * n) hcn hc.2 (fun j hj => (htail _ (by omega) (by omega)).2)
  have htags : ∀ o, q + xs.length * n ≤ o → o < q + xs.length * n + (Act.opd a.tmps u).cells.toList.length → g1.ow b o = .tail (.fr s) 0 := fun o h1 h2 => (htail o h1 (by omega)).1
  have sm := same_fill hw2 htags
  have hi : (fun t => t ≠ Tag.tail (.fr s) 0) Tag.imm := by simp
  have hlay : Lay g1 w n [(opd st.fr v).1.cp] (Act.opd a.tmps u).cells.toList :=
    RowR.lay ⟨_, [], by simp, by rw [spread_len hp hu.1]; exact hl, (V.cellsCp hp hu.1).1, by simp [RowR]⟩ hc.2
  have hE2 : VE (g1.fill b (q + xs.length * n) (Act.opd a.tmps u).cells.toList.length) w' n (xs ++ [(opd st.fr v).1.cp]) b q :=
    VE.append (VE.mono (sm.ext hi) _ _ _ _ hE) (hlay.2.2 _ _ _ _ (sm.ext hi) fun j u hu => by
      have hj := (List.getElem?_eq_some_iff.1 hu).1
      exact ⟨fill_in (by omega) (by omega), hw2.new j u hu⟩)
  have hget : ∀ x, (((opd st.fr v).2.set p .none).set s (.list (xs ++ [(opd st.fr v).1.cp]) (.own n))).get x = if s = x then .list (xs ++ [(opd st.fr v).1.cp]) (.own n) else if p = x then .none else (opd st.fr v).2.get x := fun x => by
    rw [Fr.get_set, Fr.get_set]
  refine fits_skip (w' := w') (g' := g1.fill b (q + xs.length * n) (Act.opd a.tmps u).cells.toList.length) ?_ (Rel.push0 ?_ VF_undef) (s1.trans (stay_fill hw2 htags))
  · simp [execOp, ho, Act.eval_eq, r3, Instr.storeAt, Instr.sureAddr, hw1]
  · refine ⟨fun x => ?_, fun j x cx hj => by simp at hj, k1.hp.same sm hi (fun _ => by simp) (fun _ _ => by simp) (fun _ _ _ => by simp) rfl, fun d o hd => ?_, k1.gl.same sm hi (by simp)⟩
    · simp only
      rw [hget]
      split
      · rename_i e; subst e
        rw [VF_loose rfl, r2]
        refine ⟨?_, ?_⟩
        · simp only [VX, V]
          exact ⟨some ⟨b, q, none⟩, c, by simp, by simpa using f2, f3, (fun e => by cases e), (fun e => by cases e), fun ad e => by cases e; exact ⟨fun _ => rfl, n, hE2⟩⟩
        · simp only [Owns]
          intro ad n' c' e
          cases e
          refine ⟨hE2, fun o h1 h2 => ?_⟩
          simp only [List.length_append, List.length_cons, List.length_nil, Nat.add_mul, Nat.one_mul, Nat.zero_add] at h1 h2
          obtain ⟨t1, t2, t3⟩ := htail o (by omega) h2
          exact ⟨by rw [fill_out (by rw [hcn]; omega)]; exact t1, by rw [hw2.old o (by rw [hcn]; omega)]; exact t2, by rw [hw2.frz o]; exact t3⟩
      · rename_i hsx
        split
        · simp [VF, VX, V, Owns]
        · rename_i hpx
          have f := VF.same (r := .fr x) sm hi (fun _ _ _ => rfl) (fun i => by simpa using fun e => absurd e.symm hsx) (by simp) rfl (k1.fr x)
          refine VF.like2 (fun t cs ht => ?_) (fun t ht ys sz hy => ?_) f
          · refine ⟨cs, ?_⟩
            rw [hget, if_neg (fun e => by subst e; simp only at ht; rw [hs] at ht; cases ht), if_neg (fun e => ?_)]
            · exact ht
            · subst e
              exact opd_lastr_loose h (by simp only at ht; rw [ht]; rfl)
          · have hne : t ≠ s := Fr.noLast_get hno (t := x) (by rw [Fr.get_set, if_neg hpx]; exact ht)
            refine ⟨?_, rfl⟩
            rw [hget, if_neg (fun e => hne e.symm), if_neg (fun e => ?_)]
            · exact hy
            · subst e
              exact opd_lastr_loose h (by simp only at hy; rw [hy]; rfl)
    · rw [hw2.size] at hd
      simp only [Gh.fill]
      rw [k1.fresh d o hd]
      split
      · rename_i hh; obtain ⟨rfl, h1, h2⟩ := hh
        have := htags o h1 h2
        rw [k1.fresh d o hd] at this; cases this
      · rfl
end
end Go.Proofs.Ytajlmldpbhendaa.Rf
