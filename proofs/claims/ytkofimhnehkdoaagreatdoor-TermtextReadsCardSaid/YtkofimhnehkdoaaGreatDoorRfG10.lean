/- What is read is valid; what is read does not depend on how the lists are stored. -/
import Derived.Test.YtkofimhnehkdoaaGreatDoorRfG9
import Derived.Test.YtkofimhnehkdoaaGreatDoorRfG8
import Derived.Test.YtkofimhnehkdoaaGreatDoorRfG7
section
set_option linter.unusedSimpArgs false
set_option linter.unusedVariables false
namespace Go.Proofs.YtkofimhnehkdoaaGreatDoor.Rf
theorem insE_all {as : List Int} (h : ¬ as.all insE = false) (i : Nat) : 0 ≤ as.getD i 0 ∧ as.getD i 0 ≤ 64 := by
  have h : as.all insE = true := by cases hh : as.all insE <;> simp_all
  by_cases hi : i < as.length
  · have e : as.getD i 0 = as[i] := by simp [List.getD, hi]
    have := List.all_eq_true.1 h as[i] (List.getElem_mem hi)
    simp only [insE, Bool.and_eq_true, decide_eq_true_eq] at this
    rw [e]; exact this
  · have e : as.getD i 0 = 0 := by simp [List.getD, hi]
    rw [e]; omega
theorem widE_idem {op w v : Int} {as : List Int} (h : (widE op w v as).2 = 0) : opOk op = true ∧ (as.length : Int) = arE op ∧ 0 ≤ (widE op w v as).1 ∧ (widE op w v as).1 ≤ 64 ∧ widE op (widE op w v as).1 v as = ((widE op w v as).1, 0) := by
  by_cases c1 : opOk op = false ∨ (as.length : Int) ≠ arE op
  · unfold widE at h; rw [if_pos c1] at h; simp at h
  by_cases c2 : as.all insE = false
  · unfold widE at h; rw [if_neg c1, if_pos c2] at h; simp at h
  have hop : opOk op = true := by cases hh : opOk op <;> simp_all
  have hlen : (as.length : Int) = arE op := by
    by_cases e : (as.length : Int) = arE op
    · exact e
    · exact absurd (.inr e) c1
  refine ⟨hop, hlen, ?_⟩
  have g := insE_all c2
  have g0 := g 0
  have g1 := g 1
  unfold widE at h ⊢
  simp only [if_neg c1, if_neg c2] at h ⊢
  by_cases k1 : op = 1 ∨ op = 2 ∨ op = 24 ∨ op = 25
  · simp only [if_pos k1] at h ⊢
    unfold leafE at h ⊢
    by_cases k : insE w = false ∨ (op = 2 ∧ 0 < w ∧ 2 ^ w.toNat ≤ v)
    · rw [if_pos k] at h; simp at h
    · simp only [if_neg k]
      have : insE w = true := by cases hh : insE w <;> simp_all
      simp only [insE, Bool.and_eq_true, decide_eq_true_eq] at this
      exact ⟨this.1, this.2, trivial⟩
  simp only [if_neg k1] at h ⊢
  by_cases k2 : op = 3 ∨ op = 4 ∨ op = 26
  · simp only [if_pos k2]; exact ⟨g0.1, g0.2, trivial⟩
  simp only [if_neg k2] at h ⊢
  by_cases k3 : op = 21 ∨ op = 22 ∨ op = 23
  · simp only [if_pos k3] at h ⊢
    unfold resE at h ⊢
    by_cases k : w < 1 ∨ 64 < w ∨ as.getD 0 0 < 1
    · rw [if_pos k] at h; simp at h
    · simp only [if_neg k] at h ⊢
      by_cases k' : (op ≠ 21 ∧ w < as.getD 0 0) ∨ (op = 21 ∧ (as.getD 0 0 < w ∨ as.getD 0 0 - w < v))
      · rw [if_pos k'] at h; simp at h
      · simp only [if_neg k']
        rw [if_neg k]
        exact ⟨by omega, by omega, rfl⟩
  simp only [if_neg k3] at h ⊢
  by_cases k4 : op = 19
  · simp only [if_pos k4] at h ⊢
    by_cases k : as.getD 0 0 = 1 ∧ as.getD 1 0 = as.getD 2 0
    · simp only [if_pos k]; exact ⟨g1.1, g1.2, trivial⟩
    · rw [if_neg k] at h; simp at h
  simp only [if_neg k4] at h ⊢
  by_cases k5 : op = 20
  · simp only [if_pos k5] at h ⊢
    by_cases k : 1 ≤ as.getD 0 0 ∧ 1 ≤ as.getD 1 0 ∧ as.getD 0 0 + as.getD 1 0 ≤ 64
    · simp only [if_pos k]; exact ⟨by omega, by omega, trivial⟩
    · rw [if_neg k] at h; simp at h
  simp only [if_neg k5] at h ⊢
  by_cases k6 : op = 16 ∨ op = 17 ∨ op = 18
  · simp only [if_pos k6] at h ⊢
    by_cases k : as.getD 0 0 = as.getD 1 0
    · simp only [if_pos k]; exact ⟨by omega, by omega, trivial⟩
    · rw [if_neg k] at h; simp at h
  simp only [if_neg k6] at h ⊢
  by_cases k : as.getD 0 0 = as.getD 1 0
  · simp only [if_pos k]; exact ⟨g0.1, g0.2, trivial⟩
  · rw [if_neg k] at h; simp at h
theorem i64_wf {n : Int} (h0 : 0 ≤ n) (h1 : n ≤ 1000) : (Lit.int .i64 n).wf = true := by simp [Lit.wf, IntKind.min, IntKind.max, IntKind.signed, IntKind.bits]; omega
theorem u64_wf {n : Int} (h0 : 0 ≤ n) (h1 : n < 18446744073709551616) : (Lit.int .u64 n).wf = true := by simp [Lit.wf, IntKind.min, IntKind.max, IntKind.signed, IntKind.bits]; omega
theorem constR_valid {l : List UInt8} {w e : Int} {t : T} (hw : 0 ≤ w) (h : constR l w e = .ok t) : t.valid = true ∧ t.wf := by
  have hb := numE_bd l
  unfold constR at h
  split at h
  · cases h
  · split at h
    · cases h
    · rename_i k
      have k : e = 0 ∧ (numE l).2 = 0 ∧ w ≤ 64 := Decidable.not_not.1 k
      split at h
      · cases h
      · rename_i k2
        have k2 : (widE 2 w (numE l).1 []).2 = 0 := Decidable.not_not.1 k2
        cases h
        obtain ⟨i1, i2, i3, i4, i5⟩ := widE_idem k2
        have i6 : (widE 2 w (numE l).1 []).1 = w := by
          unfold widE at k2 ⊢
          rw [if_neg (by decide), if_neg (by decide), if_pos (by decide)] at k2 ⊢
          unfold leafE at k2 ⊢
          split at k2
          · simp at k2
          · rename_i k3; rw [if_neg k3]
        refine ⟨?_, ?_⟩
        · simp only [T.valid, T.valids, List.map_nil, k2, i6]
          simp [notE_mk, hw, k.2.2]; rfl
        · simp only [T.wf, T.wfs]
          exact ⟨by decide, i64_wf hw (by omega), u64_wf hb.1 hb.2, by simp, by simp, by simp, trivial⟩
theorem leafOp_cases (l : List UInt8) : leafOp l = 1 ∨ leafOp l = 24 ∨ leafOp l = 25 := by
  unfold leafOp; split
  · simp
  · split <;> simp
theorem name_valid {op w : Int} {n : List UInt8} (h : op = 1 ∨ op = 24 ∨ op = 25) (h0 : 0 ≤ w) (h1 : w ≤ 64) (hn : nameOk n = true) : (T.mk op w 0 n true []).valid = true ∧ (T.mk op w 0 n true []).wf := by
  have ins : insE w = true := by simp [insE, h0, h1]
  have hm := nameOk_mem hn
  refine ⟨?_, ?_⟩
  · have hw : widE op w 0 [] = (w, 0) := by
      have h2 : op ≠ 2 := by omega
      have h3 : op = 1 ∨ op = 2 ∨ op = 24 ∨ op = 25 := by omega
      have h4 : opOk op = true := by simp [opOk]; omega
      have h5 : arE op = 0 := by rcases h with rfl | rfl | rfl <;> rfl
      unfold widE
      rw [if_neg (by simp [h4, h5]), if_neg (by simp), if_pos h3]
      unfold leafE
      rw [if_neg (by simp [ins, h2])]
    have h5 : arE op = 0 := by rcases h with rfl | rfl | rfl <;> rfl
    simp only [T.valid, T.valids, List.map_nil, hw, notE_mk]
    rw [if_pos h]
    simp [h0, h1, hn, h5]
  · simp only [T.wf, T.wfs]
    exact ⟨i64_wf (by omega) (by omega), i64_wf h0 (by omega), by decide, by omega, by simp, by simp, trivial⟩
theorem leafR_valid {s : List UInt8} {t : T} (h : leafR s = .ok t) : t.valid = true ∧ t.wf := by
  unfold leafR at h
  have hb := numE_bd (cutB s 58).2.1
  split at h
  · cases h
  · split at h
    · exact constR_valid hb.1 h
    · split at h
      · cases h
      · rename_i k
        split at h
        · cases h
        · rename_i k2
          have k2 := Decidable.not_not.1 k2
          cases h
          exact name_valid (leafOp_cases _) hb.1 k2.2 (by simpa using k)
theorem nodeR_valid {op v w : Int} {ts : List T} {t : T} (h1 : op ≠ 1) (h2 : op ≠ 2) (h3 : op ≠ 24) (h4 : op ≠ 25) (hv0 : op ≠ 21 → v = 0) (hvr : 0 ≤ v ∧ v < 18446744073709551616) (hts : T.valids ts = true) (hwf : T.wfs ts) (h : nodeR op v w (.ok ts) = .ok t) : t.valid = true ∧ t.wf := by
  simp only [nodeR] at h
  split at h
  · cases h
  · rename_i k
    have k := Decidable.not_not.1 k
    cases h
    obtain ⟨i1, i2, i3, i4, i5⟩ := widE_idem k
    have i1' : 1 ≤ op ∧ op ≤ 26 := by simpa [opOk] using i1
    have i2' : (ts.length : Int) = arE op := by simpa using i2
    have i6 : arE op ≤ 3 := by
      unfold arE; split
      · omega
      · split
        · omega
        · split
          · omega
          · split <;> omega
    refine ⟨?_, ?_⟩
    · simp only [T.valid, hts, i5, Bool.true_and]
      have : notE (.mk op (widE op w v (ts.map T.width)).1 v [] ts.isEmpty ts) = true := by
        rw [notE_mk]
        rw [if_neg (by omega)]
        by_cases h21 : op = 21
        · rw [if_pos (.inr h21)]; simp [i3, i4, i2']
        · rw [if_neg (by omega), hv0 h21]; rw [hv0 h21] at i3 i4; simp [i3, i4, i2']
      simp [this]
    · simp only [T.wf]
      exact ⟨i64_wf (by omega) (by omega), i64_wf i3 (by omega), u64_wf hvr.1 hvr.2, by simp, by omega, by simp, hwf⟩
theorem numsR_val (op : Int) (l : List S) : (op ≠ 21 → (numsR op l).1 = 0) ∧ 0 ≤ (numsR op l).1 ∧ (numsR op l).1 < 18446744073709551616 := by
  have hb := numR_bd (l.getD 1 S.z).atom 18446744073709551615 (by omega)
  unfold numsR
  by_cases h : op = 21
  · rw [if_pos h]
    refine ⟨fun e => absurd h e, ?_⟩
    split
    · simp
    · split
      · simp
      · simp only; omega
  · rw [if_neg h]
    split
    · split <;> simp
    · simp
mutual
theorem readS_valid : ∀ (e : S) (t : T), readS e = .ok t → t.valid = true ∧ t.wf
  | .mk a o l, t, h => by
    rw [readS] at h
    split at h
    · exact leafR_valid h
    · split at h
      · cases h
      · rename_i hh
        split at h
        · cases h
        · cases hs : readsS l (1 + numsN (ofE (l.getD 0 S.z).atom).1) with
          | err e => rw [hs] at h; simp [nodeR] at h
          | ok ts =>
            rw [hs] at h
            have hv := readsS_valid l _ ts hs
            have hn := numsR_val (ofE (l.getD 0 S.z).atom).1 l
            have hR : headR l = true := by cases hx : headR l <;> simp_all
            simp only [headR, Bool.and_eq_true, Bool.not_eq_true', decide_eq_false_iff_not] at hR
            have ha := hR.2.2.1
            exact nodeR_valid (fun e => ha (by rw [e]; rfl)) (fun e => ha (by rw [e]; rfl)) (fun e => ha (by rw [e]; rfl)) (fun e => ha (by rw [e]; rfl)) hn.1 hn.2 hv.1 hv.2 h
theorem readsS_valid : ∀ (l : List S) (k : Nat) (ts : List T), readsS l k = .ok ts → T.valids ts = true ∧ T.wfs ts
  | [], k, ts, h => by simp [readsS] at h; subst h; exact ⟨rfl, trivial⟩
  | x :: r, k + 1, ts, h => by rw [readsS] at h; exact readsS_valid r k ts h
  | x :: r, 0, ts, h => by
    rw [readsS] at h
    cases hx : readS x with
    | err e => rw [hx] at h; simp [TRs.cons] at h
    | ok t =>
      cases hr : readsS r 0 with
      | err e => rw [hx, hr] at h; simp [TRs.cons] at h
      | ok us =>
        rw [hx, hr] at h; simp [TRs.cons] at h; subst h
        have a := readS_valid x t hx
        have b := readsS_valid r 0 us hr
        exact ⟨by simp [T.valids, a.1, b.1], a.2, b.2⟩
end
/-! the same whatever the lists' stores are -/
theorem same_atoms : ∀ (l l' : List S), S.sames l l' = true → l.length = l'.length ∧ ∀ i, (l.getD i S.z).atom = (l'.getD i S.z).atom
  | [], [], _ => ⟨rfl, fun _ => rfl⟩
  | x :: r, y :: s, h => by
    simp only [S.sames, Bool.and_eq_true] at h
    obtain ⟨h1, h2⟩ := same_atoms r s h.2
    refine ⟨by simp [h1], fun i => ?_⟩
    cases i with
    | zero =>
      have := h.1
      rw [S.same_eq] at this
      simp only [Bool.and_eq_true, beq_iff_eq] at this
      simpa using this.1
    | succ i => simpa using h2 i
  | [], _ :: _, h => by simp [S.sames] at h
  | _ :: _, [], h => by simp [S.sames] at h
theorem headR_same {l l' : List S} (h : S.sames l l' = true) : headR l = headR l' := by
  obtain ⟨h1, h2⟩ := same_atoms l l' h
  unfold headR
  rw [h2 0, h1]
  have : decide (l ≠ []) = decide (l' ≠ []) := by
    cases l <;> cases l' <;> simp_all
  rw [this]
theorem numsR_same {l l' : List S} (h : S.sames l l' = true) (op : Int) : numsR op l = numsR op l' := by
  obtain ⟨h1, h2⟩ := same_atoms l l' h
  unfold numsR
  rw [h2 1, h2 2]
mutual
theorem readS_same : ∀ (x y : S), x.same y = true → readS x = readS y
  | .mk a o l, .mk a' o' l', h => by
    simp only [S.same, Bool.and_eq_true, beq_iff_eq] at h
    obtain ⟨rfl, h⟩ := h
    have e0 := (same_atoms l l' h).2 0
    rw [readS, readS, headR_same h, e0, numsR_same h, readsS_same l l' _ h]
theorem readsS_same : ∀ (l l' : List S) (k : Nat), S.sames l l' = true → readsS l k = readsS l' k
  | [], [], _, _ => rfl
  | x :: r, y :: s, k + 1, h => by
    simp only [S.sames, Bool.and_eq_true] at h
    rw [readsS, readsS]; exact readsS_same r s k h.2
  | x :: r, y :: s, 0, h => by
    simp only [S.sames, Bool.and_eq_true] at h
    rw [readsS, readsS, readS_same x y h.1, readsS_same r s 0 h.2]
  | [], _ :: _, _, h => by simp [S.sames] at h
  | _ :: _, [], _, h => by simp [S.sames] at h
end
theorem read_canon {e : S} {t : T} (h : readS e = .ok t) : readS (writeT t) = .ok t.norm := by
  have := readS_valid e t h
  exact read_write t this.2 this.1
end Go.Proofs.YtkofimhnehkdoaaGreatDoor.Rf
end
section
/- The reader of terms: the reference's Read. -/
set_option linter.unusedSimpArgs false
set_option linter.unusedVariables false
namespace Go.Proofs.YtkofimhnehkdoaaGreatDoor.Rf
theorem tup_err (hp : List HObj) (c : Int) : (TR.err c).tup hp = .ret (.tup [.agg [.int .i64 0, .int .i64 0, .int .u64 0, .str [], .list [] .nil], .int .i64 c]) hp := rfl
theorem tup_ok (hp : List HObj) (t : T) : (TR.ok t).tup hp = .ret (.tup [t.av, .int .i64 0]) hp := rfl
theorem arE_ge {op : Int} (h : opOk op = true) : 0 ≤ arE op := by
  unfold arE; rw [if_neg (by simp [h])]; split
  · omega
  · split
    · omega
    · split <;> omega
theorem readsS_len : ∀ (l : List S) (k : Nat) (ts : List T), readsS l k = .ok ts → ts.length ≤ l.length
  | [], k, ts, h => by simp [readsS] at h; subst h; simp
  | x :: r, k + 1, ts, h => by rw [readsS] at h; have := readsS_len r k ts h; simp; omega
  | x :: r, 0, ts, h => by
    rw [readsS] at h
    cases hx : readS x with
    | err e => rw [hx] at h; simp [TRs.cons] at h
    | ok t =>
      cases hr : readsS r 0 with
      | err e => rw [hx, hr] at h; simp [TRs.cons] at h
      | ok us =>
        rw [hx, hr] at h; simp [TRs.cons] at h; subst h
        have := readsS_len r 0 us hr
        simp; omega
section
variable {hp : List HObj} {lo : Nat} (q : Bool)
set_option maxHeartbeats 4000000 in
theorem read7_D (e : S) : e.sm → ∀ (hp : List HObj) (lo : Nat) (q : Bool), callD G0 IP n_saturateref07_Read [e.av] hp lo q = some ((readS e).tup hp) := by
  induction e using S.ind with | h e ih =>
  intro hsm hp lo q
  rw [S.sm_eq] at hsm
  obtain ⟨ha, hs⟩ := hsm
  rw [callD_eq, S.av_eq]
  cases e with | mk a o l =>
  simp only [S.atom, S.list, S.o] at *
  rw [readS]
  by_cases h0 : a = []
  · subst h0
    rw [if_neg (by simp)]
    cases l with
    | nil =>
      simp [IP_saturateref07_Read, i_saturateref07_Read, headR, tup_err]
    | cons x r =>
      have hx : (x :: r).getD 0 S.z = x := rfl
      rw [hx]
      have e1 := fun (hp : List HObj) (lo : Nat) (q : Bool) => of4_D (hp := hp) (lo := lo) q x.atom
      have hgt : (0 : Int) < (r.length : Int) + 1 := by omega
      have hne0 : ¬ (r.length : Int) + 1 = 0 := by omega
      cases hok : (ofE x.atom).2 with
      | false =>
        have hR : headR (x :: r) = false := by unfold headR; rw [hx, hok]; simp
        rw [if_pos hR]
        simp [IP_saturateref07_Read, i_saturateref07_Read, S.avs, S.av_eq x, e1, hok, hgt, hne0, tup_err]
      | true =>
        have hop := ofE_ok hok
        have hlf := leafB_ar hop
        have hbd := arE_bd (ofE x.atom).1
        have hnb := numsN_bd (ofE x.atom).1
        have hR : headR (x :: r) = (!decide (arE (ofE x.atom).1 = 0) && decide (((x :: r).length : Int) = 1 + numsN (ofE x.atom).1 + arE (ofE x.atom).1)) := by unfold headR; rw [hx, hok]; simp
        rw [hR]
        generalize (ofE x.atom).1 = op at *
        have hw1 : IntKind.wrap .i64 (1 + (numsN op : Int)) = 1 + (numsN op : Int) := wrap_small (by omega) (by omega)
        have hw2 : IntKind.wrap .i64 (1 + (numsN op : Int) + arE op) = 1 + (numsN op : Int) + arE op := wrap_small (by omega) (by omega)
        have hge := arE_ge hop
        by_cases k1 : arE op = 0
        · have k2 : leafB op = true := by rw [hlf]; simp [k1]
          rw [if_pos (by simp [k1])]
          simp [IP_saturateref07_Read, i_saturateref07_Read, S.avs, S.av_eq x, e1, hok, hgt, hne0, tup_err, leaf4_D, k2]
        · have k2 : leafB op = false := by rw [hlf]; simp [k1]
          by_cases k3 : (r.length : Int) + 1 = 1 + (numsN op : Int) + arE op
          · rw [if_neg (by simp [k1, k3])]
            have k3' : 1 + (numsN op : Int) + arE op = (r.length : Int) + 1 := k3.symm
            have hw3 : IntKind.wrap .i64 ((r.length : Int) + 1) = (r.length : Int) + 1 := by rw [k3]; exact hw2
            have e2 := fun (hp : List HObj) (lo : Nat) (q : Bool) (oo : Own) => numerals7_D (hp := hp) (lo := lo) q op (x :: r) oo (by rw [List.length_cons]; omega) (fun y hy => by have := (S.sm_eq y).1 (hs y hy); omega)
            simp [S.avs, S.av_eq x] at e2
            by_cases k4 : (numsR op (x :: r)).2.2 = 0
            · rw [if_neg (by simp [k4])]
              have e3 := read7_L (hp := hp) (lo := hp.length) (.mk [] o (x :: r)) (by simp [S.list]; omega) op (numsR op (x :: r)).1 (numsR op (x :: r)).2.1 ((x :: r).drop (1 + numsN op)) ((x :: r).take (1 + numsN op)) [] (by simp [S.list]) (by simp) (fun y hy => ih y (List.mem_of_mem_drop hy) (hs y (List.mem_of_mem_drop hy)))
              rw [← readsS_drop] at e3
              have htk : (((x :: r).take (1 + numsN op)).length : Int) = 1 + (numsN op : Int) := by rw [List.length_take, List.length_cons]; omega
              rw [htk] at e3
              simp only [fr7, show ∀ a o l, S.atom (.mk a o l) = a from fun _ _ _ => rfl, show ∀ a o l, S.list (.mk a o l) = l from fun _ _ _ => rfl, show ∀ a o l, S.o (.mk a o l) = o from fun _ _ _ => rfl, S.avs, S.av_eq x, show ownT [] = .nil from rfl, T.avs, wds_nil, List.length_cons] at e3
              cases hrs : readsS (x :: r) (1 + numsN op) with
              | err c =>
                rw [hrs] at e3
                simp only [out7] at e3
                simp [IP_saturateref07_Read, i_saturateref07_Read, S.avs, S.av_eq x, e1, hok, hgt, hne0, tup_err, leaf4_D, k2, plain7_D, arity4_D, hw1, hw3, k3', e2, k4, e3, nodeR, tup_err]
              | ok ts =>
                rw [hrs] at e3
                simp only [out7, List.nil_append, fr7, show ∀ a o l, S.atom (.mk a o l) = a from fun _ _ _ => rfl, show ∀ a o l, S.list (.mk a o l) = l from fun _ _ _ => rfl, show ∀ a o l, S.o (.mk a o l) = o from fun _ _ _ => rfl, S.avs, S.av_eq x] at e3
                have hnv := numsR_val op (x :: r)
                have hlen := readsS_len (x :: r) _ ts hrs
                simp only [List.length_cons] at hlen
                have e4 : ∀ (hp : List HObj) (lo : Nat) (q : Bool) (oo : Own), callD G0 IP n_saturateref04_Width [.int .i64 op, .int .i64 (numsR op (x :: r)).2.1, .int .u64 (numsR op (x :: r)).1, .list (wds ts) oo] hp lo q = some (.ret (.tup [.int .i64 (widE op (numsR op (x :: r)).2.1 (numsR op (x :: r)).1 (ts.map T.width)).1, .int .i64 (widE op (numsR op (x :: r)).2.1 (numsR op (x :: r)).1 (ts.map T.width)).2]) hp) :=
                  fun hp lo q oo => width4_D q op _ _ hnv.2.2 (ts.map T.width) oo (by rw [List.length_map]; omega)
                simp only [nodeR]
                by_cases k6 : (widE op (numsR op (x :: r)).2.1 (numsR op (x :: r)).1 (ts.map T.width)).2 = 0
                · rw [if_neg (by simp [k6])]
                  simp [IP_saturateref07_Read, i_saturateref07_Read, S.avs, S.av_eq x, e1, hok, hgt, hne0, tup_ok, leaf4_D, k2, plain7_D, arity4_D, hw1, hw3, k3', e2, k4, e3, e4, k6, T.av]
                · rw [if_pos k6]
                  simp [IP_saturateref07_Read, i_saturateref07_Read, S.avs, S.av_eq x, e1, hok, hgt, hne0, tup_err, leaf4_D, k2, plain7_D, arity4_D, hw1, hw3, k3', e2, k4, e3, e4, k6]
            · rw [if_pos k4]
              simp [IP_saturateref07_Read, i_saturateref07_Read, S.avs, S.av_eq x, e1, hok, hgt, hne0, tup_err, leaf4_D, k2, plain7_D, arity4_D, hw1, hw3, k3', e2, k4]
          · rw [if_pos (by simp [k1, k3])]
            simp [IP_saturateref07_Read, i_saturateref07_Read, S.avs, S.av_eq x, e1, hok, hgt, hne0, tup_err, leaf4_D, k2, plain7_D, arity4_D, hw1, hw2, k3]
  · rw [if_pos h0]
    have e1 := fun (hp : List HObj) (lo : Nat) (q : Bool) => leaf7_D (hp := hp) (lo := lo) q a h0 ha
    cases hx : leafR a with
    | err c => simp [IP_saturateref07_Read, i_saturateref07_Read, h0, e1, hx, tup_err]
    | ok t => simp [IP_saturateref07_Read, i_saturateref07_Read, h0, e1, hx, tup_ok, T.av_eq t]
end
end Go.Proofs.YtkofimhnehkdoaaGreatDoor.Rf
end
section
/- Texts of s-expressions: bytes, blanks, atoms. -/
set_option linter.unusedSimpArgs false
set_option linter.unusedVariables false
namespace Go.Proofs.YtkofimhnehkdoaaGreatDoor.Rf

def plainC (n : Int) : Bool := decide (n ≥ 33) && (decide (n ≤ 126) && (!decide (n = 40) && (!decide (n = 41) && !decide (n = 59))))
def blankC (n : Int) : Bool := decide (n = 32) || (decide (n = 9) || (decide (n = 10) || decide (n = 13)))
theorem plain1_D (n : Int) (hp : List HObj) (lo : Nat) (q : Bool) : callD G0 IP n_saturateref05_Byte [.int .u8 n] hp lo q = some (.ret (.bool (plainC n)) hp) := by
  rw [callD_eq]
  by_cases h1 : n ≥ 33
  · by_cases h2 : n ≤ 126
    · by_cases h3 : n = 40
      · subst h3; simp [IP_saturateref05_Byte, i_saturateref05_Byte, plainC]
      · by_cases h4 : n = 41
        · subst h4; simp [IP_saturateref05_Byte, i_saturateref05_Byte, plainC]
        · by_cases h5 : n = 59
          · subst h5; simp [IP_saturateref05_Byte, i_saturateref05_Byte, plainC]
          · simp [IP_saturateref05_Byte, i_saturateref05_Byte, plainC, h1, h2, h3, h4, h5]
    · simp [IP_saturateref05_Byte, i_saturateref05_Byte, plainC, h1, h2]
  · simp [IP_saturateref05_Byte, i_saturateref05_Byte, plainC, h1]
theorem plain2_D (n : Int) (hp : List HObj) (lo : Nat) (q : Bool) : callD G0 IP n_sexpr_plain [.int .u8 n] hp lo q = some (.ret (.bool (plainC n)) hp) := by
  rw [callD_eq]
  by_cases h1 : n ≥ 33
  · by_cases h2 : n ≤ 126
    · by_cases h3 : n = 40
      · subst h3; simp [IP_sexpr_plain, i_sexpr_plain, plainC]
      · by_cases h4 : n = 41
        · subst h4; simp [IP_sexpr_plain, i_sexpr_plain, plainC]
        · by_cases h5 : n = 59
          · subst h5; simp [IP_sexpr_plain, i_sexpr_plain, plainC]
          · simp [IP_sexpr_plain, i_sexpr_plain, plainC, h1, h2, h3, h4, h5]
    · simp [IP_sexpr_plain, i_sexpr_plain, plainC, h1, h2]
  · simp [IP_sexpr_plain, i_sexpr_plain, plainC, h1]
theorem blank_D (n : Int) (hp : List HObj) (lo : Nat) (q : Bool) : callD G0 IP n_saturateref05_blank [.int .u8 n] hp lo q = some (.ret (.bool (blankC n)) hp) := by
  rw [callD_eq]
  by_cases h1 : n = 32
  · subst h1; simp [IP_saturateref05_blank, i_saturateref05_blank, blankC]
  · by_cases h2 : n = 9
    · subst h2; simp [IP_saturateref05_blank, i_saturateref05_blank, blankC]
    · by_cases h3 : n = 10
      · subst h3; simp [IP_saturateref05_blank, i_saturateref05_blank, blankC]
      · by_cases h4 : n = 13
        · subst h4; simp [IP_saturateref05_blank, i_saturateref05_blank, blankC]
        · simp [IP_saturateref05_blank, i_saturateref05_blank, blankC, h1, h2, h3, h4]

/-- the byte at an offset, as a number -/
def byt (s : List UInt8) (i : Nat) : Int := ((s.getD i 0).toNat : Int)
theorem byt_some {s : List UInt8} {i : Nat} (h : i < s.length) : ∃ c : UInt8, s[i]? = some c ∧ byt s i = (c.toNat : Int) := ⟨s[i], by simp [h], by simp [byt, h]⟩
/-- where a comment ends: k bytes are left -/
def comK (s : List UInt8) : Nat → Nat → Nat
  | 0, i => i
  | k + 1, i => if byt s i = 10 then i else comK s k (i + 1)
theorem comK_le (s : List UInt8) : ∀ k i, i ≤ comK s k i ∧ comK s k i ≤ i + k
  | 0, i => by simp [comK]
  | k + 1, i => by
    simp only [comK]
    split
    · omega
    · have := comK_le s k (i + 1); omega
/-- the end of what is skipped; with n rounds to go -/
def skipK (s : List UInt8) : Nat → Nat → Nat
  | 0, i => i
  | n + 1, i => if i < s.length then (if blankC (byt s i) then skipK s n (i + 1) else if byt s i = 59 then skipK s n (comK s (s.length - i) i) else i) else i
theorem skipK_le (s : List UInt8) : ∀ n i, i ≤ s.length → i ≤ skipK s n i ∧ skipK s n i ≤ s.length
  | 0, i, h => by simp [skipK]; exact h
  | n + 1, i, h => by
    simp only [skipK]
    split
    · split
      · have := skipK_le s n (i + 1) (by omega); omega
      · split
        · have h1 := comK_le s (s.length - i) i
          have := skipK_le s n (comK s (s.length - i) i) (by omega); omega
        · omega
    · omega
def skipN (s : List UInt8) (i : Nat) : Nat := skipK s s.length i
/-- the end of an atom: k bytes are left -/
def atomK (s : List UInt8) : Nat → Nat → Nat
  | 0, i => i
  | k + 1, i => if plainC (byt s i) then atomK s k (i + 1) else i
def atomN (s : List UInt8) (i : Nat) : Nat := atomK s (s.length - i) i
theorem atomK_le (s : List UInt8) : ∀ k i, i ≤ atomK s k i ∧ atomK s k i ≤ i + k
  | 0, i => by simp [atomK]
  | k + 1, i => by
    simp only [atomK]
    split
    · have := atomK_le s k (i + 1); omega
    · omega
section
variable {s : List UInt8} {hp : List HObj} {lo : Nat}
theorem com1_L (hs : s.length ≤ 9223372036854775807) : ∀ (k i : Nat) (ex : Fr), ex = [] ∨ ex = [(24, .bool true)] → i + k = s.length →
    loopD G0 IP lo l_saturateref05_skip_1 ⟨(0, .str s) :: (1, .int .i64 i) :: ex, hp⟩ = some (.exit 2, ⟨[(0, .str s), (1, .int .i64 (comK s k i)), (34, .bool false)], hp⟩)
  | 0, i, ex, hex, h => by
    rw [loopD_eq, loopBody]
    have : ¬ (i : Int) < (s.length : Int) := by omega
    rcases hex with rfl | rfl <;> simp [l_saturateref05_skip_1, this, comK]
  | k + 1, i, ex, hex, h => by
    rw [loopD_eq, loopBody]
    have h1 : (i : Int) < (s.length : Int) := by omega
    obtain ⟨c, h2, hb⟩ := byt_some (s := s) (i := i) (by omega)
    have h3 := wrap_succ (i := i) (n := s.length) (by omega) hs
    have ih := com1_L hs k (i + 1) [] (.inl rfl) (by omega)
    simp only [comK, hb]
    by_cases hc : (c.toNat : Int) = 10
    · rcases hex with rfl | rfl <;> simp [l_saturateref05_skip_1, h1, h2, hc]
    · rcases hex with rfl | rfl <;> simp [l_saturateref05_skip_1, h1, h2, hc, h3] <;> exact ih
theorem skip1_L (hs : s.length ≤ 9223372036854775807) : ∀ (n i : Nat) (ex : Fr), ex = [] ∨ ex = [(34, .bool false)] → i ≤ s.length → s.length - i ≤ n →
    loopD G0 IP lo l_saturateref05_skip_0 ⟨(0, .str s) :: (1, .int .i64 i) :: ex, hp⟩ = some (.exit 0, ⟨[(0, .str s), (1, .int .i64 (skipK s n i)), (20, .bool false)], hp⟩)
  | n, i, ex, hex, hi, hn => by
    by_cases h0 : i < s.length
    · match n, hn with
      | 0, hn => exact absurd hn (by omega)
      | n + 1, hn =>
        rw [loopD_eq, loopBody]
        have h1 : (i : Int) < (s.length : Int) := by omega
        obtain ⟨c, h2, hb⟩ := byt_some (s := s) (i := i) h0
        have h3 := wrap_succ (i := i) (n := s.length) h0 hs
        simp only [skipK, if_pos h0, hb]
        cases hc : blankC (c.toNat : Int)
        · by_cases h4 : (c.toNat : Int) = 59
          · have hcm := com1_L (hp := hp) (lo := lo) hs (s.length - i) i [(24, .bool true)] (.inr rfl) (by omega)
            have hle := comK_le s (s.length - i) i
            have hgt : i < comK s (s.length - i) i := by
              obtain ⟨k, hk⟩ : ∃ k, s.length - i = k + 1 := ⟨s.length - i - 1, by omega⟩
              rw [hk]; simp only [comK, hb, h4]
              have := comK_le s k (i + 1)
              simp; omega
            have ih := skip1_L hs n (comK s (s.length - i) i) [(34, .bool false)] (.inr rfl) (by omega) (by omega)
            rcases hex with rfl | rfl <;> simp [l_saturateref05_skip_0, h1, h2, h4, blank_D, hcm, show blankC 59 = false from rfl] <;> exact ih
          · rcases hex with rfl | rfl <;> simp [l_saturateref05_skip_0, h1, h2, hc, h4, blank_D]
        · have h4 : ¬ (c.toNat : Int) = 59 := fun e => by rw [e] at hc; simp [blankC] at hc
          have ih := skip1_L hs n (i + 1) [] (.inl rfl) (by omega) (by omega)
          rcases hex with rfl | rfl <;> simp [l_saturateref05_skip_0, h1, h2, hc, h4, blank_D, h3] <;> exact ih
    · rw [loopD_eq, loopBody]
      have h1 : ¬ (i : Int) < (s.length : Int) := by omega
      have e : skipK s n i = i := by cases n <;> simp [skipK, h0]
      rw [e]
      rcases hex with rfl | rfl <;> simp [l_saturateref05_skip_0, h1]
theorem skip1_D (hs : s.length ≤ 9223372036854775807) (i : Nat) (hi : i ≤ s.length) (q : Bool) : callD G0 IP n_saturateref05_skip [.str s, .int .i64 i] hp lo q = some (.ret (.int .i64 (skipN s i)) hp) := by
  rw [callD_eq]
  have h := skip1_L (hp := hp) (lo := hp.length) hs s.length i [] (.inl rfl) hi (by omega)
  simp [IP_saturateref05_skip, i_saturateref05_skip, h, skipN]
theorem atom1_L (hs : s.length ≤ 9223372036854775807) : ∀ (k i : Nat), i + k = s.length →
    loopD G0 IP lo l_saturateref05_atom_0 ⟨[(0, .str s), (1, .int .i64 i)], hp⟩ = some (.exit 0, ⟨[(0, .str s), (1, .int .i64 (atomK s k i)), (14, .bool false)], hp⟩)
  | 0, i, h => by
    rw [loopD_eq, loopBody]
    have : ¬ (i : Int) < (s.length : Int) := by omega
    simp [l_saturateref05_atom_0, this, atomK]
  | k + 1, i, h => by
    rw [loopD_eq, loopBody]
    have h1 : (i : Int) < (s.length : Int) := by omega
    obtain ⟨c, h2, hb⟩ := byt_some (s := s) (i := i) (by omega)
    have h3 := wrap_succ (i := i) (n := s.length) (by omega) hs
    have ih := atom1_L hs k (i + 1) (by omega)
    simp only [atomK, hb]
    cases hc : plainC (c.toNat : Int)
    · simp [l_saturateref05_atom_0, h1, h2, hc, plain1_D]
    · simp [l_saturateref05_atom_0, h1, h2, hc, h3, plain1_D]
      exact ih
theorem atom1_D (hs : s.length ≤ 9223372036854775807) (i : Nat) (hi : i ≤ s.length) (q : Bool) : callD G0 IP n_saturateref05_atom [.str s, .int .i64 i] hp lo q = some (.ret (.int .i64 (atomN s i)) hp) := by
  rw [callD_eq]
  have h := atom1_L (hp := hp) (lo := hp.length) hs (s.length - i) i (by omega)
  simp [IP_saturateref05_atom, i_saturateref05_atom, h, atomN]
end
end Go.Proofs.YtkofimhnehkdoaaGreatDoor.Rf
end
section
/- The parser's own skipping. -/
set_option linter.unusedSimpArgs false
set_option linter.unusedVariables false
namespace Go.Proofs.YtkofimhnehkdoaaGreatDoor.Rf

/-- The heap with the parser's object last: its text, where it stands. -/
def PH (hp : List HObj) (s : List UInt8) (v : Int) : List HObj := hp ++ [.cells 0 [.str s, .int .i64 v, .list [] .nil]]
section
variable {hp : List HObj} {s : List UInt8} {lo : Nat}
@[simp] theorem PH_get (v : Int) : (PH hp s v)[hp.length]? = some (.cells 0 [.str s, .int .i64 v, .list [] .nil]) := by simp [PH]
@[simp] theorem PH_set (v u : Int) : (PH hp s v).set hp.length (.cells 0 [.str s, .int .i64 u, .list [] .nil]) = PH hp s u := by simp [PH]
theorem PH_len (v : Int) : (PH hp s v).length = hp.length + 1 := by simp [PH]

theorem com2_L (hs : s.length ≤ 9223372036854775807) (hlo : lo ≤ hp.length) : ∀ (k i : Nat) (ex : Fr), ex = [] ∨ ex = [(33, .bool true)] → i + k = s.length →
    loopD G0 IP lo l_sexpr_parser_skip_1 ⟨(0, .ptr hp.length 0) :: ex, PH hp s i⟩ = some (.exit 3, ⟨[(0, .ptr hp.length 0), (56, .bool false)], PH hp s (comK s k i)⟩)
  | 0, i, ex, hex, h => by
    rw [loopD_eq, loopBody]
    have : ¬ (i : Int) < (s.length : Int) := by omega
    rcases hex with rfl | rfl <;> simp [l_sexpr_parser_skip_1, this, comK]
  | k + 1, i, ex, hex, h => by
    rw [loopD_eq, loopBody]
    have h1 : (i : Int) < (s.length : Int) := by omega
    obtain ⟨c, h2, hb⟩ := byt_some (s := s) (i := i) (by omega)
    have h3 := wrap_succ (i := i) (n := s.length) (by omega) hs
    have ih := com2_L hs hlo k (i + 1) [] (.inl rfl) (by omega)
    simp only [comK, hb]
    by_cases hc : (c.toNat : Int) = 10
    · rcases hex with rfl | rfl <;> simp [l_sexpr_parser_skip_1, h1, h2, hc]
    · rcases hex with rfl | rfl <;> simp [l_sexpr_parser_skip_1, h1, h2, hc, h3, hlo] <;> exact ih
theorem skip2_L (hs : s.length ≤ 9223372036854775807) (hlo : lo ≤ hp.length) : ∀ (n i : Nat) (ex : Fr), ex = [] ∨ ex = [(56, .bool false)] → i ≤ s.length → s.length - i ≤ n →
    ∃ e st, loopD G0 IP lo l_sexpr_parser_skip_0 ⟨(0, .ptr hp.length 0) :: ex, PH hp s i⟩ = some (e, st) ∧ st.hp = PH hp s (skipK s n i) ∧ (e = .exit 0 ∨ e = .ret)
  | n, i, ex, hex, hi, hn => by
    by_cases h0 : i < s.length
    · match n, hn with
      | 0, hn => exact absurd hn (by omega)
      | n + 1, hn =>
        rw [loopD_eq, loopBody]
        have h1 : (i : Int) < (s.length : Int) := by omega
        obtain ⟨c, h2, hb⟩ := byt_some (s := s) (i := i) h0
        have h3 := wrap_succ (i := i) (n := s.length) h0 hs
        simp only [skipK, if_pos h0, hb]
        have ih0 := skip2_L hs hlo n (i + 1) [] (.inl rfl) (by omega) (by omega)
        by_cases b1 : (c.toNat : Int) = 32
        · rcases hex with rfl | rfl <;> simp [l_sexpr_parser_skip_0, h1, h2, b1, h3, hlo, show blankC 32 = true from rfl] <;> exact ih0
        · by_cases b2 : (c.toNat : Int) = 9
          · rcases hex with rfl | rfl <;> simp [l_sexpr_parser_skip_0, h1, h2, b2, h3, hlo, show blankC 9 = true from rfl] <;> exact ih0
          · by_cases b3 : (c.toNat : Int) = 10
            · rcases hex with rfl | rfl <;> simp [l_sexpr_parser_skip_0, h1, h2, b3, h3, hlo, show blankC 10 = true from rfl] <;> exact ih0
            · by_cases b4 : (c.toNat : Int) = 13
              · rcases hex with rfl | rfl <;> simp [l_sexpr_parser_skip_0, h1, h2, b4, h3, hlo, show blankC 13 = true from rfl] <;> exact ih0
              · have hc : blankC (c.toNat : Int) = false := by simp [blankC, b1, b2, b3, b4]
                by_cases h4 : (c.toNat : Int) = 59
                · have hcm := com2_L (hp := hp) (lo := lo) hs hlo (s.length - i) i [(33, .bool true)] (.inr rfl) (by omega)
                  have hle := comK_le s (s.length - i) i
                  have hgt : i < comK s (s.length - i) i := by
                    obtain ⟨k, hk⟩ : ∃ k, s.length - i = k + 1 := ⟨s.length - i - 1, by omega⟩
                    rw [hk]; simp only [comK, hb, h4]
                    have := comK_le s k (i + 1)
                    simp; omega
                  have ih := skip2_L hs hlo n (comK s (s.length - i) i) [(56, .bool false)] (.inr rfl) (by omega) (by omega)
                  rcases hex with rfl | rfl <;> simp [l_sexpr_parser_skip_0, h1, h2, h4, hcm, show blankC 59 = false from rfl] <;> exact ih
                · rcases hex with rfl | rfl <;> simp [l_sexpr_parser_skip_0, h1, h2, hc, h4, b1, b2, b3, b4] <;> exact ⟨_, _, ⟨rfl, rfl⟩, rfl, .inr rfl⟩
    · rw [loopD_eq, loopBody]
      have h1 : ¬ (i : Int) < (s.length : Int) := by omega
      have e : skipK s n i = i := by cases n <;> simp [skipK, h0]
      rw [e]
      rcases hex with rfl | rfl <;> simp [l_sexpr_parser_skip_0, h1] <;> exact ⟨_, _, ⟨rfl, rfl⟩, rfl, .inl rfl⟩
theorem skip2_D (hs : s.length ≤ 9223372036854775807) (hlo : lo ≤ hp.length) (i : Nat) (hi : i ≤ s.length) : callD G0 IP n_sexpr_parser_skip [.ptr hp.length 0] (PH hp s i) lo false = some (.ret (.tup []) (PH hp s (skipN s i))) := by
  rw [callD_eq]
  obtain ⟨e, st, h, h2, h3⟩ := skip2_L (hp := hp) (lo := lo) hs hlo s.length i [] (.inl rfl) hi (by omega)
  rcases h3 with rfl | rfl <;> simp [IP_sexpr_parser_skip, i_sexpr_parser_skip, h, h2, skipN]
end
end Go.Proofs.YtkofimhnehkdoaaGreatDoor.Rf
end
section
/- The reference's parser. -/
set_option linter.unusedSimpArgs false
set_option linter.unusedVariables false
namespace Go.Proofs.YtkofimhnehkdoaaGreatDoor.Rf

inductive PR where
  | ok (e : S) (i : Nat)
  | err (i : Nat) (code : Int)
inductive LR where
  | stop (i : Nat) (acc : List S)
  | err (i : Nat) (code : Int)
mutual
def pOne (s : List UInt8) : Nat → Nat → Nat → PR
  | 0, i, _ => .err i 6
  | n + 1, i, d =>
    if byt s i = 40 then
      if d ≥ 64 then .err i 7 else
      match pLoop s n (skipN s (i + 1)) d [] with
      | .err j e => .err j e
      | .stop j acc => if j = s.length then .err j 6 else .ok (.mk [] acc.isEmpty acc) (j + 1)
    else if plainC (byt s i) then
      if d ≥ 64 then .err i 7 else .ok (.mk ((s.take (atomN s i)).drop i) true []) (atomN s i)
    else .err i 6
def pLoop (s : List UInt8) : Nat → Nat → Nat → List S → LR
  | 0, i, _, acc => .stop i acc
  | n + 1, i, d, acc =>
    if i < s.length then
      if byt s i = 41 then .stop i acc else
      match pOne s n i (d + 1) with
      | .err j e => .err j e
      | .ok x j => pLoop s n (skipN s j) d (acc ++ [x])
    else .stop i acc
end
theorem atomN_gt {s : List UInt8} {i : Nat} (h : i < s.length) (hp : plainC (byt s i) = true) : i < atomN s i ∧ atomN s i ≤ s.length := by
  obtain ⟨k, hk⟩ : ∃ k, s.length - i = k + 1 := ⟨s.length - i - 1, by omega⟩
  unfold atomN
  rw [hk]; simp only [atomK, hp, if_true]
  have := atomK_le s k (i + 1)
  omega
theorem skipN_le {s : List UInt8} {i : Nat} (h : i ≤ s.length) : i ≤ skipN s i ∧ skipN s i ≤ s.length := skipK_le s _ i h
theorem p_le (s : List UInt8) : ∀ n, (∀ i d x j, i < s.length → pOne s n i d = .ok x j → i < j ∧ j ≤ s.length) ∧ (∀ i d acc j acc', i ≤ s.length → acc.length ≤ i → pLoop s n i d acc = .stop j acc' → i ≤ j ∧ j ≤ s.length ∧ acc'.length ≤ j)
  | 0 => ⟨fun i d x j hi h => by simp [pOne] at h, fun i d acc j acc' hi ha h => by simp [pLoop] at h; obtain ⟨rfl, rfl⟩ := h; exact ⟨Nat.le_refl _, hi, ha⟩⟩
  | n + 1 => by
    obtain ⟨h1, h2⟩ := p_le s n
    refine ⟨fun i d x j hi h => ?_, fun i d acc j acc' hi ha h => ?_⟩
    · simp only [pOne] at h
      have hk := skipN_le (s := s) (i := i + 1) (by omega)
      split at h
      · split at h
        · cases h
        · split at h
          · cases h
          · rename_i j' acc' hl
            have := h2 _ _ _ _ _ hk.2 (by simp) hl
            split at h
            · cases h
            · cases h; omega
      · split at h
        · rename_i hp
          split at h
          · cases h
          · cases h; exact atomN_gt hi hp
        · cases h
    · simp only [pLoop] at h
      split at h
      · rename_i hlt
        split at h
        · cases h; omega
        · split at h
          · cases h
          · rename_i x j' ho
            have := h1 _ _ _ _ hlt ho
            have hk := skipN_le (s := s) (i := j') (by omega)
            have := h2 _ _ _ _ _ hk.2 (by simp; omega) h
            omega
      · cases h; omega
theorem perr_both (s : List UInt8) : ∀ n, (∀ i d j e, pOne s n i d = .err j e → ¬ e = 0) ∧ (∀ i d acc j e, pLoop s n i d acc = .err j e → ¬ e = 0)
  | 0 => ⟨fun i d j e h => by simp [pOne] at h; obtain ⟨_, rfl⟩ := h; simp, fun i d acc j e h => by simp [pLoop] at h⟩
  | n + 1 => by
    obtain ⟨h1, h2⟩ := perr_both s n
    refine ⟨fun i d j e h => ?_, fun i d acc j e h => ?_⟩
    · simp only [pOne] at h
      repeat' split at h
      all_goals first
        | (cases h; done)
        | (cases h; simp; done)
        | (rename_i hl; cases h; exact h2 _ _ _ _ _ hl)
    · simp only [pLoop] at h
      repeat' split at h
      all_goals first
        | (cases h; done)
        | (rename_i hl; cases h; exact h1 _ _ _ _ hl)
        | exact h2 _ _ _ _ _ h
theorem perr_ne (s : List UInt8) (n i d j : Nat) (e : Int) (h : pOne s n i d = .err j e) : ¬ e = 0 := (perr_both s n).1 i d j e h
mutual
theorem S.av_closed (n : Nat) : ∀ t : S, AV.closed n t.av = true
  | .mk a o l => by simp [S.av, AV.closed, AV.closedL, S.avs_closed n l]
theorem S.avs_closed (n : Nat) : ∀ l : List S, AV.closedL n (S.avs l) = true
  | [] => rfl
  | t :: r => by simp [S.avs, AV.closedL, S.av_closed n t, S.avs_closed n r]
end
@[simp] theorem S.okSize_avs (l : List S) : okSize 2 (S.avs l) = true := by
  cases l with
  | nil => rfl
  | cons t r => simp [S.avs, S.av_eq]
def outP : PR → AV
  | .ok x j => .tup [x.av, .int .i64 j, .int .i64 0]
  | .err j e => .tup [.agg [.str [], .list [] .nil], .int .i64 j, .int .i64 e]
def ownA (acc : List S) : Own := if acc.isEmpty then .nil else .own 2 0
@[simp] theorem ownA_cp (acc : List S) : (ownA acc).cp = ownB acc.isEmpty := by cases acc <;> rfl
@[simp] theorem ownA_app (acc : List S) (x : S) : ownA (acc ++ [x]) = .own 2 0 := by cases acc <;> rfl
theorem ownA_ok (acc : List S) : ownA acc = .nil ∨ ownA acc = .own 2 0 := by cases acc <;> simp [ownA]
section
variable {s : List UInt8}
theorem one_W (hs : s.length ≤ 65536) : ∀ n, (∀ (hp : List HObj) (lo : Nat) (q : Bool) (i d : Nat), i < s.length → d ≤ 64 → 2 * (s.length - i) ≤ n → callD G0 IP n_saturateref05_one [.str s, .int .i64 i, .int .i64 d] hp lo q = some (.ret (outP (pOne s n i d)) hp)) ∧
    (∀ (hp : List HObj) (lo : Nat) (i d : Nat) (acc : List S), i ≤ s.length → d < 64 → acc.length ≤ i → 2 * (s.length - i) + 1 ≤ n →
      loopD G0 IP lo l_saturateref05_one_0 ⟨[(0, .str s), (1, .int .i64 i), (2, .int .i64 d), (6, .box [.str [], .list [] .nil]), (10, .list (S.avs acc) (ownA acc))], hp⟩ =
        some (match pLoop s n i d acc with
          | .err j e => (.ret, ⟨[(6, .box [.str [], .list [] .nil]), (7, .int .i64 j), (8, .int .i64 e)], hp⟩)
          | .stop j acc' => (.exit 0, ⟨[(0, .str s), (1, .int .i64 j), (2, .int .i64 d), (6, .box [.str [], .list [] .nil]), (10, .list (S.avs acc') (ownA acc')), (63, .bool false)], hp⟩))) := by
  have hs' : s.length ≤ 9223372036854775807 := by omega
  intro n
  induction n with
  | zero => exact ⟨fun hp lo q i d hi _ h => absurd h (by omega), fun hp lo i d acc hi _ _ h => absurd h (by omega)⟩
  | succ n ih =>
    obtain ⟨ih1, ih2⟩ := ih
    refine ⟨fun hp lo q i d hi hd h => ?_, fun hp lo i d acc hi hd ha h => ?_⟩
    · rw [callD_eq]
      obtain ⟨c, h2, hb⟩ := byt_some (s := s) (i := i) hi
      have hw : IntKind.wrap .i64 ((i : Int) + 1) = (i : Int) + 1 := wrap_small (by omega) (by omega)
      have hk := skipN_le (s := s) (i := i + 1) (by omega)
      simp only [pOne, hb]
      by_cases h40 : (c.toNat : Int) = 40
      · by_cases h64 : d ≥ 64
        · have h64' : (64 : Int) ≤ (d : Int) := by omega
          simp [IP_saturateref05_one, i_saturateref05_one, h2, h40, h64, h64', outP]
        · have h64' : ¬ (64 : Int) ≤ (d : Int) := by omega
          have e2 : ∀ q, callD G0 IP n_saturateref05_skip [.str s, .int .i64 ((i : Int) + 1)] hp hp.length q = some (.ret (.int .i64 (skipN s (i + 1))) hp) := fun q => skip1_D hs' (i + 1) (by omega) q
          have e3 := ih2 hp hp.length (skipN s (i + 1)) d [] hk.2 (by omega) (by simp) (by omega)
          have hle := (p_le s n).2 (skipN s (i + 1)) d []
          cases hx : pLoop s n (skipN s (i + 1)) d [] with
          | err j e =>
            rw [hx] at e3
            simp [ownA] at e3
            simp [IP_saturateref05_one, i_saturateref05_one, h2, h40, h64, h64', outP, hw, e2, e3]
          | stop j acc =>
            rw [hx] at e3
            simp [ownA] at e3
            obtain ⟨_, hj, _⟩ := hle j acc hk.2 (by simp) hx
            by_cases hjl : j = s.length
            · simp [IP_saturateref05_one, i_saturateref05_one, h2, h40, h64, h64', outP, hw, e2, e3, hjl]
            · have hjl' : ¬ (j : Int) = (s.length : Int) := by omega
              have hw2 : IntKind.wrap .i64 ((j : Int) + 1) = (j : Int) + 1 := wrap_small (by omega) (by omega)
              simp [IP_saturateref05_one, i_saturateref05_one, h2, h40, h64, h64', outP, hw, e2, e3, hjl, hjl', hw2]
              exact ⟨S.avs_closed _ _, by cases acc <;> simp [S.av, ownB]⟩
      · cases hc : plainC (c.toNat : Int)
        · by_cases h41 : (c.toNat : Int) = 41
          · simp [IP_saturateref05_one, i_saturateref05_one, h2, h41, outP, show plainC 41 = false from rfl]
          · simp [IP_saturateref05_one, i_saturateref05_one, h2, h40, h41, hc, outP, plain1_D]
        · have h41 : ¬ (c.toNat : Int) = 41 := fun e => by rw [e] at hc; simp [plainC] at hc
          by_cases h64 : d ≥ 64
          · have h64' : (64 : Int) ≤ (d : Int) := by omega
            simp [IP_saturateref05_one, i_saturateref05_one, h2, h40, h41, hc, h64, h64', outP, plain1_D]
          · have h64' : ¬ (64 : Int) ≤ (d : Int) := by omega
            have e2 : ∀ q, callD G0 IP n_saturateref05_atom [.str s, .int .i64 i] hp hp.length q = some (.ret (.int .i64 (atomN s i)) hp) := fun q => atom1_D hs' i (by omega) q
            have ha := atomN_gt (s := s) (i := i) hi (by rw [hb]; exact hc)
            have ha1 : (i : Int) ≤ (atomN s i : Int) := by omega
            simp [IP_saturateref05_one, i_saturateref05_one, h2, h40, h41, hc, h64, h64', outP, plain1_D, e2, ha.1, ha.2, Nat.le_of_lt ha.1, S.av]
            rfl
    · rw [loopD_eq, loopBody]
      simp only [pLoop]
      by_cases h0 : i < s.length
      · have h1 : (i : Int) < (s.length : Int) := by omega
        obtain ⟨c, h2, hb⟩ := byt_some (s := s) (i := i) h0
        simp only [if_pos h0, hb]
        by_cases h41 : (c.toNat : Int) = 41
        · simp [l_saturateref05_one_0, h1, h2, h41]
        · have e1 : callD G0 IP n_saturateref05_one [.str s, .int .i64 i, .int .i64 ((d : Int) + 1)] hp lo false = some (.ret (outP (pOne s n i (d + 1))) hp) := ih1 hp lo false i (d + 1) h0 (by omega) (by omega)
          have hw : IntKind.wrap .i64 ((d : Int) + 1) = (d : Int) + 1 := wrap_small (by omega) (by omega)
          have he := (p_le s n).1 i (d + 1)
          simp only [if_neg h41]
          cases hx : pOne s n i (d + 1) with
          | err j e =>
            rw [hx] at e1
            simp only [outP] at e1
            have hne : ¬ e = 0 := perr_ne s n i (d + 1) j e hx
            simp [l_saturateref05_one_0, h1, h2, h41, hw, e1, hne]
          | ok x j =>
            rw [hx] at e1
            simp only [outP] at e1
            obtain ⟨hj1, hj2⟩ := he x j h0 hx
            have hsk := skipN_le (s := s) (i := j) hj2
            have e2 := skip1_D (hp := hp) (lo := lo) hs' j hj2 false
            have e3 := ih2 hp lo (skipN s j) d (acc ++ [x]) hsk.2 hd (by simp; omega) (by omega)
            have hb1 : (acc.length + 1) * 40 ≤ 140737488355328 := by omega
            have hb2 : acc.length + 1 ≤ 9223372036854775807 := by omega
            rw [S.av_eq] at e1
            rw [S.avs_app, ownA_app, show S.avs [x] = [.agg [.str x.atom, .list (S.avs x.list) (ownB x.o)]] by simp [S.avs, S.av_eq]] at e3
            simp [l_saturateref05_one_0, h1, h2, h41, hw, e1, e2, hb1, hb2, ownA_ok]
            exact e3
      · have h1 : ¬ (i : Int) < (s.length : Int) := by omega
        simp [l_saturateref05_one_0, h1, h0]
end
end Go.Proofs.YtkofimhnehkdoaaGreatDoor.Rf
end
section
/- The parser itself. -/
set_option linter.unusedSimpArgs false
set_option linter.unusedVariables false
namespace Go.Proofs.YtkofimhnehkdoaaGreatDoor.Rf

abbrev failAV (j : Nat) (e : Int) : AV := .iface 168 (.agg [.int .i64 j, .int .i64 e])
theorem fail_D (p q : Nat) (j e : Int) (hp : List HObj) (lo : Nat) : callD G0 IP n_sexpr_parser_fail [.ptr p q, .int .i64 j, .int .i64 e] hp lo false = some (.pan (.iface 168 (.agg [.int .i64 j, .int .i64 e])) hp) := by
  rw [callD_eq]
  simp [IP_sexpr_parser_fail, i_sexpr_parser_fail]
section
variable {hp : List HObj} {s : List UInt8} {lo : Nat}
theorem atom2_L (hs : s.length ≤ 65536) (hlo : lo ≤ hp.length) (f : Int) : ∀ (k i : Nat), i + k = s.length →
    loopD G0 IP lo l_sexpr_parser_expression_0 ⟨[(0, .ptr hp.length 0), (4, .box [.str [], .list [] .nil]), (6, .int .i64 f)], PH hp s i⟩ =
      some (.exit 0, ⟨[(0, .ptr hp.length 0), (4, .box [.str [], .list [] .nil]), (6, .int .i64 f), (66, .bool false)], PH hp s (atomK s k i)⟩)
  | 0, i, h => by
    rw [loopD_eq, loopBody]
    have : ¬ (i : Int) < (s.length : Int) := by omega
    simp [l_sexpr_parser_expression_0, this, atomK]
  | k + 1, i, h => by
    rw [loopD_eq, loopBody]
    have h1 : (i : Int) < (s.length : Int) := by omega
    obtain ⟨c, h2, hb⟩ := byt_some (s := s) (i := i) (by omega)
    have h3 := wrap_succ (i := i) (n := s.length) (by omega) (by omega)
    have ih := atom2_L hs hlo f k (i + 1) (by omega)
    simp only [atomK, hb]
    cases hc : plainC (c.toNat : Int)
    · simp [l_sexpr_parser_expression_0, h1, h2, hc, plain2_D]
    · simp [l_sexpr_parser_expression_0, h1, h2, hc, h3, plain2_D, hlo]
      exact ih
def outE (hp : List HObj) (s : List UInt8) : PR → COut
  | .ok x j => .ret x.av (PH hp s j)
  | .err j e => .pan (failAV j e) (PH hp s j)
def LRok (hp : List HObj) (s : List UInt8) : LR → Ex → St → Prop
  | .err j e, ex, st => ex = .pan (failAV j e) ∧ st.hp = PH hp s j
  | .stop j acc, ex, st => if j = s.length then ex = .pan (failAV j 6) ∧ st.hp = PH hp s j else ex = .ret ∧ st = ⟨[(4, .box [.str [], .list (S.avs acc) (ownB acc.isEmpty)])], PH hp s ((j + 1 : Nat) : Int)⟩
theorem expr_W (hs : s.length ≤ 65536) (hlo : lo ≤ hp.length) : ∀ n, (∀ (i d : Nat), i < s.length → d ≤ 64 → 2 * (s.length - i) ≤ n → callD G0 IP n_sexpr_parser_expression [.ptr hp.length 0, .int .i64 d] (PH hp s i) lo false = some (outE hp s (pOne s n i d))) ∧
    (∀ (i d : Nat) (acc : List S), i ≤ s.length → d < 64 → acc.length ≤ i → 2 * (s.length - skipN s i) + 1 ≤ n →
      ∃ ex st, loopD G0 IP lo l_sexpr_parser_expression_1 ⟨[(0, .ptr hp.length 0), (1, .int .i64 d), (4, .box [.str [], .list [] .nil]), (7, .box [.str [], .list (S.avs acc) (ownA acc)])], PH hp s i⟩ = some (ex, st) ∧ LRok hp s (pLoop s n (skipN s i) d acc) ex st) := by
  have hs' : s.length ≤ 9223372036854775807 := by omega
  intro n
  induction n with
  | zero => exact ⟨fun i d hi _ h => absurd h (by omega), fun i d acc hi _ _ h => absurd h (by omega)⟩
  | succ n ih =>
    obtain ⟨ih1, ih2⟩ := ih
    refine ⟨fun i d hi hd h => ?_, fun i d acc hi hd ha h => ?_⟩
    · rw [callD_eq]
      obtain ⟨c, h2, hb⟩ := byt_some (s := s) (i := i) hi
      have hw : IntKind.wrap .i64 ((i : Int) + 1) = (i : Int) + 1 := wrap_small (by omega) (by omega)
      have hwd : IntKind.wrap .i64 ((d : Int) + 1) = (d : Int) + 1 := wrap_small (by omega) (by omega)
      have hk := skipN_le (s := s) (i := i + 1) (by omega)
      simp only [pOne, hb]
      by_cases h40 : (c.toNat : Int) = 40
      · by_cases h64 : d ≥ 64
        · have h64' : (64 : Int) < (d : Int) + 1 := by omega
          simp [IP_sexpr_parser_expression, i_sexpr_parser_expression, h2, h40, h64, h64', hwd, outE, fail_D]
        · have h64' : ¬ (64 : Int) < (d : Int) + 1 := by omega
          obtain ⟨ex, st, e3, e4⟩ := ih2 (i + 1) d [] (by omega) (by omega) (by simp) (by omega)
          simp [ownA] at e3
          cases hx : pLoop s n (skipN s (i + 1)) d [] with
          | err j e =>
            rw [hx] at e4
            obtain ⟨rfl, e5⟩ := e4
            simp [IP_sexpr_parser_expression, i_sexpr_parser_expression, h2, h40, h64, h64', hwd, hw, hlo, outE, e3, e5]
          | stop j acc =>
            rw [hx] at e4
            simp only [LRok] at e4
            by_cases hjl : j = s.length
            · rw [if_pos hjl] at e4
              obtain ⟨rfl, e5⟩ := e4
              simp [IP_sexpr_parser_expression, i_sexpr_parser_expression, h2, h40, h64, h64', hwd, hw, hlo, outE, e3, e5, hjl]
            · rw [if_neg hjl] at e4
              obtain ⟨rfl, rfl⟩ := e4
              simp [IP_sexpr_parser_expression, i_sexpr_parser_expression, h2, h40, h64, h64', hwd, hw, hlo, outE, e3, hjl, S.av]
      · cases hc : plainC (c.toNat : Int)
        · simp [IP_sexpr_parser_expression, i_sexpr_parser_expression, h2, h40, hc, outE, fail_D, plain2_D]
        · by_cases h64 : d ≥ 64
          · have h64' : (64 : Int) < (d : Int) + 1 := by omega
            simp [IP_sexpr_parser_expression, i_sexpr_parser_expression, h2, h40, hc, h64, h64', hwd, outE, fail_D, plain2_D]
          · have h64' : ¬ (64 : Int) < (d : Int) + 1 := by omega
            have e2 := atom2_L (hp := hp) (lo := lo) hs hlo (i : Int) (s.length - i) i (by omega)
            have ha := atomN_gt (s := s) (i := i) hi (by rw [hb]; exact hc)
            unfold atomN at ha
            simp [IP_sexpr_parser_expression, i_sexpr_parser_expression, h2, h40, hc, h64, h64', hwd, outE, plain2_D, e2, ha.1, ha.2, Nat.le_of_lt ha.1, S.av, atomN, ownB]
    · rw [loopD_eq, loopBody]
      have e0 := skip2_D (hp := hp) (lo := lo) hs' hlo i hi
      have hk := skipN_le (s := s) (i := i) hi
      generalize hj : skipN s i = j at *
      simp only [pLoop]
      by_cases h0 : j < s.length
      · have h1 : ¬ (j : Int) = (s.length : Int) := by omega
        obtain ⟨c, h2, hb⟩ := byt_some (s := s) (i := j) h0
        simp only [if_pos h0, hb]
        by_cases h41 : (c.toNat : Int) = 41
        · have hw : IntKind.wrap .i64 ((j : Int) + 1) = (j : Int) + 1 := wrap_small (by omega) (by omega)
          have h1' : ¬ j = s.length := by omega
          refine ⟨.ret, ⟨[(4, .box [.str [], .list (S.avs acc) (ownB acc.isEmpty)])], PH hp s ((j + 1 : Nat) : Int)⟩, ?_, ?_⟩
          · simp [l_sexpr_parser_expression_1, e0, h1, h2, h41, hw, hlo]
          · simp only [h41, if_true, LRok]
            rw [if_neg h1']
            simp
        · have e1 : callD G0 IP n_sexpr_parser_expression [.ptr hp.length 0, .int .i64 ((d : Int) + 1)] (PH hp s j) lo false = some (outE hp s (pOne s n j (d + 1))) := ih1 j (d + 1) h0 (by omega) (by omega)
          have hw : IntKind.wrap .i64 ((d : Int) + 1) = (d : Int) + 1 := wrap_small (by omega) (by omega)
          have he := (p_le s n).1 j (d + 1)
          simp only [if_neg h41]
          cases hx : pOne s n j (d + 1) with
          | err k e =>
            rw [hx] at e1
            simp only [outE] at e1
            simp [l_sexpr_parser_expression_1, e0, h1, h2, h41, hw, e1]
            exact ⟨_, _, ⟨rfl, rfl⟩, rfl, rfl⟩
          | ok x k =>
            rw [hx] at e1
            simp only [outE] at e1
            obtain ⟨hj1, hj2⟩ := he x k h0 hx
            have hsk := skipN_le (s := s) (i := k) hj2
            obtain ⟨ex, st, e3, e4⟩ := ih2 k d (acc ++ [x]) hj2 hd (by simp; omega) (by omega)
            have hb1 : (acc.length + 1) * 40 ≤ 140737488355328 := by omega
            have hb2 : acc.length + 1 ≤ 9223372036854775807 := by omega
            rw [S.av_eq] at e1
            rw [S.avs_app, ownA_app, show S.avs [x] = [.agg [.str x.atom, .list (S.avs x.list) (ownB x.o)]] by simp [S.avs, S.av_eq]] at e3
            refine ⟨ex, st, ?_, e4⟩
            simp [l_sexpr_parser_expression_1, e0, h1, h2, h41, hw, e1, hb1, hb2, ownA_ok]
            exact e3
      · have h1' : j = s.length := by omega
        subst h1'
        simp only [if_neg h0, LRok, if_true]
        simp [l_sexpr_parser_expression_1, e0, fail_D]
        exact ⟨_, _, ⟨rfl, rfl⟩, rfl, rfl⟩
end
end Go.Proofs.YtkofimhnehkdoaaGreatDoor.Rf
end
section
/- All s-expressions of a text. -/
set_option linter.unusedSimpArgs false
set_option linter.unusedVariables false
namespace Go.Proofs.YtkofimhnehkdoaaGreatDoor.Rf

inductive PTR where
  | ok (l : List S) (st : List Nat)
  | err (i : Nat) (code : Int)
def pTop (s : List UInt8) : Nat → Nat → List S → List Nat → PTR
  | 0, _, acc, st => .ok acc st
  | n + 1, i, acc, st =>
    if i < s.length then
      match pOne s (2 * s.length) i 0 with
      | .err j e => .err j e
      | .ok x j => pTop s n (skipN s j) (acc ++ [x]) (st ++ [i])
    else .ok acc st
def pAll (s : List UInt8) : PTR := if s.length > 65536 then .err 0 7 else pTop s (s.length + 1) (skipN s 0) [] []
section
variable {s : List UInt8} {hp : List HObj} {lo : Nat}
theorem top1_L (hs : s.length ≤ 65536) : ∀ (n i : Nat) (acc : List S) (st : List Nat), i ≤ s.length → acc.length ≤ i → s.length - i < n →
    loopD G0 IP lo l_saturateref05_ParseAll_0 ⟨[(0, .str s), (5, .list (S.avs acc) (ownA acc)), (6, .int .i64 i)], hp⟩ =
      some (match pTop s n i acc st with
        | .err j e => (.ret, ⟨[(2, .list [] .nil), (3, .int .i64 j), (4, .int .i64 e)], hp⟩)
        | .ok l _ => (.exit 0, ⟨[(0, .str s), (5, .list (S.avs l) (ownA l)), (6, .int .i64 s.length), (18, .bool false)], hp⟩)) := by
  have hs' : s.length ≤ 9223372036854775807 := by omega
  intro n
  induction n with
  | zero => intro i acc st hi ha h; omega
  | succ n ih =>
    intro i acc st hi ha h
    rw [loopD_eq, loopBody]
    simp only [pTop]
    by_cases h0 : i < s.length
    · have h1 : (i : Int) < (s.length : Int) := by omega
      have e1 : callD G0 IP n_saturateref05_one [.str s, .int .i64 i, .int .i64 0] hp lo false = some (.ret (outP (pOne s (2 * s.length) i 0)) hp) := (one_W hs (2 * s.length)).1 hp lo false i 0 h0 (by omega) (by omega)
      simp only [if_pos h0]
      cases hx : pOne s (2 * s.length) i 0 with
      | err j e =>
        rw [hx] at e1
        simp only [outP] at e1
        have hne : ¬ e = 0 := perr_ne s _ i 0 j e hx
        simp [l_saturateref05_ParseAll_0, h1, e1, hne]
      | ok x j =>
        rw [hx] at e1
        simp only [outP] at e1
        obtain ⟨hj1, hj2⟩ := (p_le s _).1 i 0 x j h0 hx
        have hsk := skipN_le (s := s) (i := j) hj2
        have e2 := skip1_D (hp := hp) (lo := lo) hs' j hj2 false
        have e3 := ih (skipN s j) (acc ++ [x]) (st ++ [i]) hsk.2 (by simp; omega) (by omega)
        have hb1 : (acc.length + 1) * 40 ≤ 140737488355328 := by omega
        have hb2 : acc.length + 1 ≤ 9223372036854775807 := by omega
        rw [S.av_eq] at e1
        rw [S.avs_app, ownA_app, show S.avs [x] = [.agg [.str x.atom, .list (S.avs x.list) (ownB x.o)]] by simp [S.avs, S.av_eq]] at e3
        simp [l_saturateref05_ParseAll_0, h1, e1, e2, hb1, hb2, ownA_ok]
        exact e3
    · have h1 : i = s.length := by omega
      subst h1
      simp [l_saturateref05_ParseAll_0]
def outA (own : List S → Own) : PTR → AV
  | .ok l _ => .tup [.list (S.avs l) (own l), .int .i64 0, .int .i64 0]
  | .err j e => .tup [.list [] .nil, .int .i64 j, .int .i64 e]
theorem parseAll1_D (q : Bool) : callD G0 IP n_saturateref05_ParseAll [.str s] hp lo q = some (.ret (outA ownA (pAll s)) hp) := by
  rw [callD_eq]
  by_cases hs : s.length ≤ 65536
  · have h1 : ¬ (65536 : Int) < (s.length : Int) := by omega
    have h1' : ¬ s.length > 65536 := by omega
    have e2 : ∀ q, callD G0 IP n_saturateref05_skip [.str s, .int .i64 0] hp hp.length q = some (.ret (.int .i64 (skipN s 0)) hp) := fun q => skip1_D (by omega) 0 (by omega) q
    have hk := skipN_le (s := s) (i := 0) (by omega)
    have e3 := top1_L (hp := hp) (lo := hp.length) hs (s.length + 1) (skipN s 0) [] [] hk.2 (by simp) (by omega)
    simp only [pAll, if_neg h1']
    cases hx : pTop s (s.length + 1) (skipN s 0) [] [] with
    | err j e =>
      rw [hx] at e3
      simp [ownA] at e3
      simp [IP_saturateref05_ParseAll, i_saturateref05_ParseAll, h1, e2, e3, outA]
    | ok l st =>
      rw [hx] at e3
      simp [ownA] at e3
      simp [IP_saturateref05_ParseAll, i_saturateref05_ParseAll, h1, e2, e3, outA, ownA, S.avs_closed]
  · have h1 : (65536 : Int) < (s.length : Int) := by omega
    have h1' : s.length > 65536 := by omega
    simp [IP_saturateref05_ParseAll, i_saturateref05_ParseAll, h1, pAll, h1', outA]

abbrev intsA (l : List Nat) : List AV := l.map fun n : Nat => AV.int .i64 (n : Int)
def ownI (l : List Nat) : Own := if l.isEmpty then .nil else .own 1 0
@[simp] theorem ownI_cp (l : List Nat) : (ownI l).cp = ownB l.isEmpty := by cases l <;> rfl
@[simp] theorem ownI_app (l : List Nat) (x : Nat) : ownI (l ++ [x]) = .own 1 0 := by cases l <;> rfl
theorem ownI_ok (l : List Nat) : ownI l = .nil ∨ ownI l = .own 1 0 := by cases l <;> simp [ownI]
@[simp] theorem okSize_ints (l : List Nat) : okSize 1 (intsA l) = true := by cases l <;> simp [intsA]
def PTRok (hp : List HObj) (s : List UInt8) : PTR → Ex → St → Prop
  | .err j e, ex, st => ex = .pan (failAV j e) ∧ st.hp = PH hp s j ∧ ∃ v2 v3 v4 v5, st.fr.get 2 = .box [v2] ∧ st.fr.get 3 = .box [v3] ∧ st.fr.get 4 = .box [v4] ∧ st.fr.get 5 = .box [v5]
  | .ok l st', ex, st => ex = .exit 0 ∧ st = ⟨[(0, .str s), (2, .box [.list (S.avs l) (ownA l)]), (3, .box [.list (intsA st') (ownI st')]), (4, .box [.int .i64 0]), (5, .box [.int .i64 0]), (6, .ptr hp.length 0), (22, .bool false)], PH hp s s.length⟩
theorem top2_L (hs : s.length ≤ 65536) (hlo : lo ≤ hp.length) : ∀ (n i : Nat) (acc : List S) (st : List Nat), i ≤ s.length → acc.length ≤ i → st.length ≤ i → s.length - i < n →
    ∃ ex st', loopD G0 IP lo l_sexpr_all_0 ⟨[(0, .str s), (2, .box [.list (S.avs acc) (ownA acc)]), (3, .box [.list (intsA st) (ownI st)]), (4, .box [.int .i64 0]), (5, .box [.int .i64 0]), (6, .ptr hp.length 0)], PH hp s i⟩ = some (ex, st') ∧ PTRok hp s (pTop s n i acc st) ex st' := by
  have hs' : s.length ≤ 9223372036854775807 := by omega
  intro n
  induction n with
  | zero => intro i acc st hi ha _ h; omega
  | succ n ih =>
    intro i acc st hi ha hst h
    rw [loopD_eq, loopBody]
    simp only [pTop]
    by_cases h0 : i < s.length
    · have h1 : (i : Int) < (s.length : Int) := by omega
      have e1 : callD G0 IP n_sexpr_parser_expression [.ptr hp.length 0, .int .i64 0] (PH hp s i) lo false = some (outE hp s (pOne s (2 * s.length) i 0)) := (expr_W hs hlo (2 * s.length)).1 i 0 h0 (by omega) (by omega)
      have hc1 : (st.length + 1) * 8 ≤ 140737488355328 := by omega
      have hc2 : st.length + 1 ≤ 9223372036854775807 := by omega
      simp only [if_pos h0]
      cases hx : pOne s (2 * s.length) i 0 with
      | err j e =>
        rw [hx] at e1
        simp only [outE] at e1
        simp [l_sexpr_all_0, h1, e1, hc1, hc2, ownI_ok]
        exact ⟨_, _, ⟨rfl, rfl⟩, rfl, rfl, _, _, _, _, rfl, rfl, rfl, rfl⟩
      | ok x j =>
        rw [hx] at e1
        simp only [outE] at e1
        obtain ⟨hj1, hj2⟩ := (p_le s _).1 i 0 x j h0 hx
        have hsk := skipN_le (s := s) (i := j) hj2
        have e2 := skip2_D (hp := hp) (lo := lo) hs' hlo j hj2
        obtain ⟨ex, st', e3, e4⟩ := ih (skipN s j) (acc ++ [x]) (st ++ [i]) hsk.2 (by simp; omega) (by simp; omega) (by omega)
        have hb1 : (acc.length + 1) * 40 ≤ 140737488355328 := by omega
        have hb2 : acc.length + 1 ≤ 9223372036854775807 := by omega
        rw [S.av_eq] at e1
        rw [S.avs_app, ownA_app, ownI_app, show S.avs [x] = [.agg [.str x.atom, .list (S.avs x.list) (ownB x.o)]] by simp [S.avs, S.av_eq]] at e3
        refine ⟨ex, st', ?_, e4⟩
        simp [l_sexpr_all_0, h1, e1, e2, hb1, hb2, hc1, hc2, ownA_ok, ownI_ok, Fr.noLast]
        rw [show intsA (st ++ [i]) = intsA st ++ [AV.int .i64 (i : Int)] by simp [intsA]] at e3
        exact e3
    · have h1 : i = s.length := by omega
      subst h1
      simp only [if_neg h0, PTRok]
      simp [l_sexpr_all_0]
theorem recv_D (hp : List HObj) (v2 v3 v4 v5 : AV) (j : Nat) (e : Int) (lo : Nat) (hlo : lo ≤ hp.length) : evalRecv G0 IP (callD G0 IP) (loopD G0 IP lo) lo n_sexpr_all_1 [.ptr hp.length 0, .ptr (hp.length + 1) 0, .ptr (hp.length + 2) 0, .ptr (hp.length + 3) 0]
    (hp ++ [.cells 0 [v2], .cells 0 [v3], .cells 0 [v4], .cells 0 [v5]]) (failAV j e) = some (hp ++ [.cells 0 [.list [] .nil], .cells 0 [.list [] .nil], .cells 0 [.int .i64 j], .cells 0 [.int .i64 e]]) := by
  have h1 : lo ≤ hp.length + 1 := by omega
  have h2 : lo ≤ hp.length + 2 := by omega
  have h3 : lo ≤ hp.length + 3 := by omega
  simp [IP_sexpr_all_1, i_sexpr_all_1, hlo, h1, h2, h3, List.getElem?_append_right, List.set_append_right]
theorem recv0_D (hp : List HObj) (v2 v3 v4 v5 : AV) (lo : Nat) : evalRecv G0 IP (callD G0 IP) (loopD G0 IP lo) lo n_sexpr_all_1 [.ptr hp.length 0, .ptr (hp.length + 1) 0, .ptr (hp.length + 2) 0, .ptr (hp.length + 3) 0]
    (hp ++ [.cells 0 [v2], .cells 0 [v3], .cells 0 [v4], .cells 0 [v5]]) .nili = some (hp ++ [.cells 0 [v2], .cells 0 [v3], .cells 0 [v4], .cells 0 [v5]]) := by
  simp [IP_sexpr_all_1, i_sexpr_all_1]
end
end Go.Proofs.YtkofimhnehkdoaaGreatDoor.Rf
end
section
/- Parse and ParseAll, of the program and of the reference. -/
set_option linter.unusedSimpArgs false
set_option linter.unusedVariables false
namespace Go.Proofs.YtkofimhnehkdoaaGreatDoor.Rf

def outAll : PTR → AV
  | .ok l st => .tup [.list (S.avs l) (ownB l.isEmpty), .list (intsA st) (ownB st.isEmpty), .int .i64 0, .int .i64 0]
  | .err j e => .tup [.list [] .nil, .list [] .nil, .int .i64 j, .int .i64 e]
theorem ints_closed (n : Nat) : ∀ l : List Nat, AV.closedL n (intsA l) = true
  | [] => rfl
  | x :: r => by simp [intsA, AV.closedL]; simpa [intsA] using ints_closed n r
theorem PH_fold (hp : List HObj) (s : List UInt8) (v : Int) : hp ++ [.cells 0 [.str s, .int .i64 v, .list [] .nil]] = PH hp s v := rfl
theorem get4_2 {α : Type} (xs : List α) (a b c d : α) (h : xs.length + 1 + 1 < (xs ++ [a, b, c, d]).length) : (xs ++ [a, b, c, d])[xs.length + 1 + 1] = c := by
  rw [List.getElem_append_right (by omega)]
  simp [show xs.length + 1 + 1 - xs.length = 2 by omega]
theorem get4_3 {α : Type} (xs : List α) (a b c d : α) (h : xs.length + 1 + 1 + 1 < (xs ++ [a, b, c, d]).length) : (xs ++ [a, b, c, d])[xs.length + 1 + 1 + 1] = d := by
  rw [List.getElem_append_right (by omega)]
  simp [show xs.length + 1 + 1 + 1 - xs.length = 3 by omega]
section
variable {s : List UInt8} {hp : List HObj} {lo : Nat}
theorem all_D (q : Bool) : callD G0 IP n_sexpr_all [.str s] hp lo q = some (.ret (outAll (pAll s)) hp) := by
  rw [callD_eq]
  by_cases hs : s.length ≤ 65536
  · have h1 : ¬ (65536 : Int) < (s.length : Int) := by omega
    have h1' : ¬ s.length > 65536 := by omega
    have e2 : callD G0 IP n_sexpr_parser_skip [.ptr hp.length 0] (PH hp s 0) hp.length false = some (.ret (.tup []) (PH hp s (skipN s 0))) := skip2_D (by omega) (Nat.le_refl _) 0 (by omega)
    have hk := skipN_le (s := s) (i := 0) (by omega)
    obtain ⟨ex, st', e3, e4⟩ := top2_L (hp := hp) (lo := hp.length) hs (Nat.le_refl _) (s.length + 1) (skipN s 0) [] [] hk.2 (by simp) (by simp) (by omega)
    simp [ownA, ownI] at e3
    simp only [pAll, if_neg h1']
    cases hx : pTop s (s.length + 1) (skipN s 0) [] [] with
    | err j e =>
      rw [hx] at e4
      obtain ⟨rfl, e5, v2, v3, v4, v5, g2, g3, g4, g5⟩ := e4
      have hr := recv_D (PH hp s j) v2 v3 v4 v5 j e hp.length (by rw [PH_len]; omega)
      simp [-evalRecv, IP_sexpr_all, i_sexpr_all, h1, PH_fold, e2, e3, e5, g2, g3, g4, g5, hr, outAll, get4_2, get4_3]
    | ok l st =>
      rw [hx] at e4
      obtain ⟨rfl, rfl⟩ := e4
      simp [-evalRecv, IP_sexpr_all, i_sexpr_all, h1, PH_fold, e2, e3, recv0_D, outAll, get4_2, get4_3, S.avs_closed, ints_closed]
  · have h1 : (65536 : Int) < (s.length : Int) := by omega
    have h1' : s.length > 65536 := by omega
    simp [IP_sexpr_all, i_sexpr_all, h1, pAll, h1', outAll]
end
end Go.Proofs.YtkofimhnehkdoaaGreatDoor.Rf
end
section
/- Parse and ParseAll, of the program and of the reference; Same. -/
set_option linter.unusedSimpArgs false
set_option linter.unusedVariables false
namespace Go.Proofs.YtkofimhnehkdoaaGreatDoor.Rf

theorem top_pre (s : List UInt8) : ∀ n i acc st l st', pTop s n i acc st = .ok l st' → (∃ a, l = acc ++ a) ∧ ∃ b, st' = st ++ b
  | 0, i, acc, st, l, st', h => by simp [pTop] at h; obtain ⟨rfl, rfl⟩ := h; exact ⟨⟨[], by simp⟩, [], by simp⟩
  | n + 1, i, acc, st, l, st', h => by
    simp only [pTop] at h
    split at h
    · split at h
      · cases h
      · obtain ⟨⟨a, h1⟩, b, h2⟩ := top_pre s n _ _ _ _ _ h
        exact ⟨⟨_ :: a, by rw [h1]; simp; rfl⟩, _ :: b, by rw [h2]; simp; rfl⟩
    · cases h; exact ⟨⟨[], by simp⟩, [], by simp⟩
theorem top_err (s : List UInt8) : ∀ n i acc st j e, pTop s n i acc st = .err j e → ¬ e = 0
  | 0, i, acc, st, j, e, h => by simp [pTop] at h
  | n + 1, i, acc, st, j, e, h => by
    simp only [pTop] at h
    split at h
    · split at h
      · rename_i hx; cases h; exact perr_ne s _ _ _ _ _ hx
      · exact top_err s n _ _ _ _ _ h
    · cases h
theorem pAll_err {s : List UInt8} {j : Nat} {e : Int} (h : pAll s = .err j e) : ¬ e = 0 := by
  unfold pAll at h
  split at h
  · cases h; simp
  · exact top_err s _ _ _ _ _ _ h
/-- where the second one begins -/
theorem pAll_two {s : List UInt8} {x y : S} {l : List S} {st : List Nat} (h : pAll s = .ok (x :: y :: l) st) : s.length ≤ 65536 ∧ skipN s 0 < s.length ∧ ∃ j, pOne s (2 * s.length) (skipN s 0) 0 = .ok x j ∧ st[1]? = some (skipN s j) ∧ j ≤ s.length := by
  unfold pAll at h
  split at h
  · cases h
  rename_i hs
  simp only [pTop] at h
  split at h
  rotate_left
  · cases h
  rename_i h0
  split at h
  · cases h
  rename_i x' j hx
  have hj := (p_le s _).1 _ 0 x' j h0 hx
  obtain ⟨m, hm⟩ : ∃ m, s.length = m + 1 := ⟨s.length - 1, by omega⟩
  have h' : pTop s (m + 1) (skipN s j) ([] ++ [x']) ([] ++ [skipN s 0]) = .ok (x :: y :: l) st := by rw [← hm]; exact h
  simp only [pTop] at h'
  split at h'
  rotate_left
  · cases h'
  split at h'
  · cases h'
  rename_i y' k hy
  obtain ⟨⟨a, h1⟩, b, h2⟩ := top_pre s _ _ _ _ _ _ h'
  simp at h1 h2
  exact ⟨by omega, h0, j, by rw [h1.1]; exact hx, by rw [h2]; rfl, hj.2⟩
theorem pAll_len {s : List UInt8} {l : List S} {st : List Nat} (h : pAll s = .ok l st) : st.length = l.length := by
  have : ∀ n i acc st l st', acc.length = st.length → pTop s n i acc st = .ok l st' → st'.length = l.length := by
    intro n
    induction n with
    | zero => intro i acc st l st' ha h; simp [pTop] at h; obtain ⟨rfl, rfl⟩ := h; exact ha.symm
    | succ n ih =>
      intro i acc st l st' ha h
      simp only [pTop] at h
      split at h
      · split at h
        · cases h
        · exact ih _ _ _ _ _ (by simp [ha]) h
      · cases h; exact ha.symm
  unfold pAll at h
  split at h
  · cases h
  · exact this _ _ _ _ _ _ rfl h
def outS1 (s : List UInt8) : PTR → AV
  | .err j e => .tup [.agg [.str [], .list [] .nil], .int .i64 j, .int .i64 e]
  | .ok [] _ => .tup [.agg [.str [], .list [] .nil], .int .i64 s.length, .int .i64 6]
  | .ok [x] _ => .tup [x.av, .int .i64 0, .int .i64 0]
  | .ok (_ :: _ :: _) st => .tup [.agg [.str [], .list [] .nil], .int .i64 (st.getD 1 0 : Nat), .int .i64 6]
section
variable {s : List UInt8} {hp : List HObj} {lo : Nat}
theorem parseAll2_D (q : Bool) : callD G0 IP n_sexpr_ParseAll [.str s] hp lo q = some (.ret (outA (fun l => ownB l.isEmpty) (pAll s)) hp) := by
  rw [callD_eq]
  have e1 : ∀ q, callD G0 IP n_sexpr_all [.str s] hp hp.length q = some (.ret (outAll (pAll s)) hp) := fun q => all_D q
  cases hx : pAll s with
  | err j e =>
    simp only [hx, outAll] at e1
    simp [IP_sexpr_ParseAll, i_sexpr_ParseAll, e1, outA]
  | ok l st =>
    simp only [hx, outAll] at e1
    simp [IP_sexpr_ParseAll, i_sexpr_ParseAll, e1, outA, S.avs_closed]
theorem parse2_D (q : Bool) : callD G0 IP n_sexpr_Parse [.str s] hp lo q = some (.ret (outS1 s (pAll s)) hp) := by
  rw [callD_eq]
  have e1 : ∀ q, callD G0 IP n_sexpr_all [.str s] hp hp.length q = some (.ret (outAll (pAll s)) hp) := fun q => all_D q
  cases hx : pAll s with
  | err j e =>
    simp only [hx, outAll] at e1
    have hne := pAll_err hx
    simp [IP_sexpr_Parse, i_sexpr_Parse, e1, outS1, hne]
  | ok l st =>
    simp only [hx, outAll] at e1
    have hlen := pAll_len hx
    match l, st, hlen, e1 with
    | [], st, hlen, e1 =>
      simp at e1
      simp [IP_sexpr_Parse, i_sexpr_Parse, e1, outS1]
    | [x], st, hlen, e1 =>
      simp [S.avs, S.av_eq x] at e1
      have hc := S.av_closed hp.length x
      simp [S.av_eq x, AV.closed, AV.closedL] at hc
      simp [IP_sexpr_Parse, i_sexpr_Parse, e1, outS1, S.av_eq x, S.avs_closed]
    | x :: y :: l, st, hlen, e1 =>
      obtain ⟨b0, b1, r, rfl⟩ : ∃ b0 b1 r, st = b0 :: b1 :: r := by
        match st, hlen with
        | b0 :: b1 :: r, _ => exact ⟨b0, b1, r, rfl⟩
      simp [S.avs, intsA] at e1
      have h1 : (1 : Int) < (l.length : Int) + 1 + 1 := by omega
      have h0 : ¬ (l.length : Int) + 1 + 1 = 0 := by omega
      have h2 : (1 : Int) < (r.length : Int) + 1 + 1 := by omega
      simp [IP_sexpr_Parse, i_sexpr_Parse, e1, outS1, h0, h1, h2]
theorem parse1_D (q : Bool) : callD G0 IP n_saturateref05_Parse [.str s] hp lo q = some (.ret (outS1 s (pAll s)) hp) := by
  rw [callD_eq]
  have e1 : ∀ q, callD G0 IP n_saturateref05_ParseAll [.str s] hp hp.length q = some (.ret (outA ownA (pAll s)) hp) := fun q => parseAll1_D q
  cases hx : pAll s with
  | err j e =>
    simp only [hx, outA] at e1
    have hne := pAll_err hx
    simp [IP_saturateref05_Parse, i_saturateref05_Parse, e1, outS1, hne]
  | ok l st =>
    simp only [hx, outA] at e1
    match l, e1, hx with
    | [], e1, hx =>
      simp at e1
      simp [IP_saturateref05_Parse, i_saturateref05_Parse, e1, outS1]
    | [x], e1, hx =>
      simp [S.avs, S.av_eq x] at e1
      simp [IP_saturateref05_Parse, i_saturateref05_Parse, e1, outS1, S.av_eq x, S.avs_closed]
    | x :: y :: l, e1, hx =>
      obtain ⟨hs, h0, j, f1, f2, f3⟩ := pAll_two hx
      simp [S.avs] at e1
      have h1 : (1 : Int) < (l.length : Int) + 1 + 1 := by omega
      have h0' : ¬ (l.length : Int) + 1 + 1 = 0 := by omega
      have e2 : ∀ q, callD G0 IP n_saturateref05_skip [.str s, .int .i64 0] hp hp.length q = some (.ret (.int .i64 (skipN s 0)) hp) := fun q => skip1_D (by omega) 0 (by omega) q
      have e3 : ∀ q, callD G0 IP n_saturateref05_one [.str s, .int .i64 (skipN s 0), .int .i64 0] hp hp.length q = some (.ret (outP (pOne s (2 * s.length) (skipN s 0) 0)) hp) := fun q => (one_W hs (2 * s.length)).1 hp _ q (skipN s 0) 0 h0 (by omega) (by omega)
      have e4 : ∀ q, callD G0 IP n_saturateref05_skip [.str s, .int .i64 j] hp hp.length q = some (.ret (.int .i64 (skipN s j)) hp) := fun q => skip1_D (by omega) j f3 q
      simp only [f1, outP] at e3
      have f4 : st.getD 1 0 = skipN s j := by rw [List.getD_eq_getElem?_getD, f2]; rfl
      rw [S.av_eq x] at e3
      simp [IP_saturateref05_Parse, i_saturateref05_Parse, e1, e2, e3, e4, outS1, h0', h1]
      rw [f2]; rfl
end
end Go.Proofs.YtkofimhnehkdoaaGreatDoor.Rf
end
section
/- The reference's equality; the law of parsing. -/
set_option linter.unusedSimpArgs false
set_option linter.unusedVariables false
namespace Go.Proofs.YtkofimhnehkdoaaGreatDoor.Rf

section
variable {hp : List HObj} {lo : Nat}
theorem sames_of {as : List S} (ih : ∀ t, t ∈ as → ∀ (u : S) (hp : List HObj) (lo : Nat) (q : Bool), callD G0 IP n_saturateref05_Same [t.av, u.av] hp lo q = some (.ret (.bool (t.same u)) hp)) (bs : List S) (hl : as.length ≤ 9223372036854775807) (o1 o2 : Own) (hp : List HObj) (lo : Nat) (q : Bool) :
    callD G0 IP n_saturateref05_SameAll [.list (S.avs as) o1, .list (S.avs bs) o2] hp lo q = some (.ret (.bool (S.sames as bs)) hp) := by
  rw [callD_eq]
  by_cases he : as.length = bs.length
  · have hloop := loop_find (G := G0) (IP := IP) (lo := hp.length) (b := l_saturateref05_SameAll_0)
      (fun i => ⟨[(0, .list (S.avs as) o1), (1, .list (S.avs bs) o2), (5, .int .i64 i)], hp⟩) as.length (fun i => !(as.getD i (.mk [] true [])).same (bs.getD i (.mk [] true [])))
      (.ret, ⟨[(4, .bool false)], hp⟩) (.exit 0, ⟨[(0, .list (S.avs as) o1), (1, .list (S.avs bs) o2), (5, .int .i64 as.length), (14, .bool false)], hp⟩)
      (fun i hi hp1 => by
        have hi2 : i < bs.length := by omega
        have e1 := ih as[i] (List.getElem_mem hi) bs[i] hp hp.length true
        have h2 : as[i].same bs[i] = true := by simpa [hi, hi2] using hp1
        rw [h2, S.av_eq, S.av_eq] at e1
        have hiI : (i : Int) < (as.length : Int) := by omega
        have hiI2 : (i : Int) < (bs.length : Int) := by omega
        have hw := wrap_succ hi hl
        simp [l_saturateref05_SameAll_0, hi, hi2, hiI, hiI2, S.av_eq as[i], S.av_eq bs[i], e1, hw])
      (fun i hi hp1 => by
        have hi2 : i < bs.length := by omega
        have e1 := ih as[i] (List.getElem_mem hi) bs[i] hp hp.length true
        have h2 : as[i].same bs[i] = false := by simpa [hi, hi2] using hp1
        rw [h2, S.av_eq, S.av_eq] at e1
        have hiI : (i : Int) < (as.length : Int) := by omega
        have hiI2 : (i : Int) < (bs.length : Int) := by omega
        simp [l_saturateref05_SameAll_0, hi, hi2, hiI, hiI2, S.av_eq as[i], S.av_eq bs[i], e1])
      (fun s => by simp) (by simp [l_saturateref05_SameAll_0]) (fun s => by simp)
    have hI : (as.length : Int) = (bs.length : Int) := by omega
    rw [S.sames_eq as bs he]
    simp only [Int.natCast_zero] at hloop
    cases hany : (List.range as.length).any fun i => !(as.getD i (.mk [] true [])).same (bs.getD i (.mk [] true []))
    · rw [hany] at hloop
      simp only [Bool.false_eq_true, if_false] at hloop
      simp [IP_saturateref05_SameAll, i_saturateref05_SameAll, hI, hloop]
    · rw [hany] at hloop
      simp only [if_true] at hloop
      simp [IP_saturateref05_SameAll, i_saturateref05_SameAll, hI, hloop]
  · have hI : ¬ (as.length : Int) = (bs.length : Int) := by omega
    rw [S.sames_len as bs he]
    simp [IP_saturateref05_SameAll, i_saturateref05_SameAll, hI]
theorem ref_same_D (t : S) : t.wf → ∀ (u : S) (hp : List HObj) (lo : Nat) (q : Bool), callD G0 IP n_saturateref05_Same [t.av, u.av] hp lo q = some (.ret (.bool (t.same u)) hp) := by
  induction t using S.ind with | h t ih =>
  intro hw u hp lo q
  rw [S.wf_eq] at hw
  have e1 := fun q => sames_of (as := t.list) (fun x hx => ih x hx (hw.2.2.2 x hx)) u.list hw.2.1 (ownB t.o) (ownB u.o) hp hp.length q
  rw [callD_eq, S.same_eq]
  rw [S.av_eq t, S.av_eq u]
  by_cases hc : t.atom = u.atom
  · simp [IP_saturateref05_Same, i_saturateref05_Same, hc, e1]
  · simp [IP_saturateref05_Same, i_saturateref05_Same, hc]
end
theorem p_wf (s : List UInt8) (hs : s.length ≤ 65536) : ∀ n, (∀ i d x j, i < s.length → pOne s n i d = .ok x j → x.wf) ∧ (∀ i d acc j acc', i ≤ s.length → acc.length ≤ i → (∀ t, t ∈ acc → t.wf) → pLoop s n i d acc = .stop j acc' → ∀ t, t ∈ acc' → t.wf)
  | 0 => ⟨fun i d x j hi h => by simp [pOne] at h, fun i d acc j acc' hi ha hw h => by simp [pLoop] at h; obtain ⟨_, rfl⟩ := h; exact hw⟩
  | n + 1 => by
    obtain ⟨h1, h2⟩ := p_wf s hs n
    refine ⟨fun i d x j hi h => ?_, fun i d acc j acc' hi ha hw h => ?_⟩
    · simp only [pOne] at h
      have hk := skipN_le (s := s) (i := i + 1) (by omega)
      split at h
      · split at h
        · cases h
        · split at h
          · cases h
          · rename_i j' acc' hl
            have hle := (p_le s n).2 _ _ _ _ _ hk.2 (by simp) hl
            have hw := h2 _ _ _ _ _ hk.2 (by simp) (by simp) hl
            split at h
            · cases h
            · cases h
              rw [S.wf_eq]
              simp only [S.atom, S.list, S.o]
              exact ⟨by simp, by omega, by simp, hw⟩
      · split at h
        · split at h
          · cases h
          · cases h
            rw [S.wf_eq]
            simp only [S.atom, S.list, S.o]
            exact ⟨by simp; omega, by simp, by simp, by simp⟩
        · cases h
    · simp only [pLoop] at h
      split at h
      · rename_i hlt
        split at h
        · cases h; exact hw
        · split at h
          · cases h
          · rename_i x j' ho
            have hj := (p_le s n).1 _ _ _ _ hlt ho
            have hk := skipN_le (s := s) (i := j') (by omega)
            refine h2 _ _ _ _ _ hk.2 (by simp; omega) (fun t ht => ?_) h
            rcases List.mem_append.1 ht with ht | ht
            · exact hw t ht
            · simp at ht; subst ht; exact h1 _ _ _ _ hlt ho
      · cases h; exact hw
theorem top_wf (s : List UInt8) (hs : s.length ≤ 65536) : ∀ n i acc st l st', i ≤ s.length → acc.length ≤ i → (∀ t, t ∈ acc → t.wf) → pTop s n i acc st = .ok l st' → (∀ t, t ∈ l → t.wf) ∧ l.length ≤ s.length
  | 0, i, acc, st, l, st', hi, ha, hw, h => by simp [pTop] at h; obtain ⟨rfl, rfl⟩ := h; exact ⟨hw, by omega⟩
  | n + 1, i, acc, st, l, st', hi, ha, hw, h => by
    simp only [pTop] at h
    split at h
    · rename_i hlt
      split at h
      · cases h
      · rename_i x j hx
        have hj := (p_le s _).1 _ _ _ _ hlt hx
        have hk := skipN_le (s := s) (i := j) (by omega)
        refine top_wf s hs n _ _ _ _ _ hk.2 (by simp; omega) (fun t ht => ?_) h
        rcases List.mem_append.1 ht with ht | ht
        · exact hw t ht
        · simp at ht; subst ht; exact (p_wf s hs _).1 _ _ _ _ hlt hx
    · cases h; exact ⟨hw, by omega⟩
theorem pAll_wf {s : List UInt8} {l : List S} {st : List Nat} (h : pAll s = .ok l st) : (∀ t, t ∈ l → t.wf) ∧ l.length ≤ 65536 := by
  unfold pAll at h
  split at h
  · cases h
  · have hk := skipN_le (s := s) (i := 0) (by omega)
    have := top_wf s (by omega) _ _ _ _ _ _ hk.2 (by simp) (by simp) h
    exact ⟨this.1, by omega⟩
theorem zero_wf : (S.mk [] true []).wf := by simp [S.wf, S.wfs]
theorem zero_av : (S.mk [] true []).av = .agg [.str [], .list [] .nil] := rfl
theorem outS1_same (s : List UInt8) : ∃ (x : S) (j e : Int), outS1 s (pAll s) = .tup [x.av, .int .i64 j, .int .i64 e] ∧ x.wf := by
  cases hx : pAll s with
  | err j e => exact ⟨.mk [] true [], j, e, rfl, zero_wf⟩
  | ok l st =>
    have hw := (pAll_wf hx).1
    match l, hw with
    | [], _ => exact ⟨.mk [] true [], _, _, rfl, zero_wf⟩
    | [x], hw => exact ⟨x, _, _, rfl, hw x (by simp)⟩
    | x :: y :: l, _ => exact ⟨.mk [] true [], _, _, rfl, zero_wf⟩
end Go.Proofs.YtkofimhnehkdoaaGreatDoor.Rf
end
section
/- Texts that are built: strings.Builder, write, Print. -/
set_option linter.unusedSimpArgs false
set_option linter.unusedVariables false
namespace Go.Proofs.YtkofimhnehkdoaaGreatDoor.Rf

@[simp] theorem cp_data (xs : List AV) (e : Nat) : AV.cp (.data xs e) = .data xs e := rfl
abbrev bytesA (bs : List UInt8) : List AV := bs.map fun b => AV.int .u8 (b.toNat : Int)
/-- The heap with a builder last. -/
def BW (hp : List HObj) (bs : List UInt8) : List HObj := hp ++ [.cells 110 [.ptr hp.length 0, .list (bytesA bs) (.own 1 5)]]
def B0 (hp : List HObj) : List HObj := hp ++ [.cells 110 [.nilp, .list [] .nil]]
def BH (hp : List HObj) (bs : List UInt8) : List HObj := if bs = [] then B0 hp else BW hp bs
section
variable {hp : List HObj} {lo : Nat}
@[simp] theorem BW_get (bs : List UInt8) : (BW hp bs)[hp.length]? = some (.cells 110 [.ptr hp.length 0, .list (bytesA bs) (.own 1 5)]) := by simp [BW]
@[simp] theorem B0_get : (B0 hp)[hp.length]? = some (.cells 110 [.nilp, .list [] .nil]) := by simp [B0]
@[simp] theorem okSize_bytes (bs : List UInt8) : okSize 1 (bytesA bs) = true := by cases bs <;> simp [bytesA]
theorem copyW_D (hlo : lo ≤ hp.length) (bs : List UInt8) : callD G0 IP n_strings_Builder_copyCheck [.ptr hp.length 0] (BW hp bs) lo false = some (.ret (.tup []) (BW hp bs)) := by
  rw [callD_eq]
  simp [IP_strings_Builder_copyCheck, i_strings_Builder_copyCheck]
theorem copy0_D (hlo : lo ≤ hp.length) : callD G0 IP n_strings_Builder_copyCheck [.ptr hp.length 0] (B0 hp) lo false = some (.ret (.tup []) (hp ++ [.cells 110 [.ptr hp.length 0, .list [] .nil]])) := by
  rw [callD_eq]
  simp [IP_strings_Builder_copyCheck, i_strings_Builder_copyCheck, hlo]
  simp [B0]
theorem wbyte_D (hlo : lo ≤ hp.length) (bs : List UInt8) (c : UInt8) (hb : bs.length + 1 ≤ 140737488355328) : callD G0 IP n_strings_Builder_WriteByte [.ptr hp.length 0, .int .u8 c.toNat] (BH hp bs) lo false = some (.ret .nili (BH hp (bs ++ [c]))) := by
  rw [callD_eq]
  have h63 : bs.length + 1 ≤ 9223372036854775807 := by omega
  by_cases h0 : bs = []
  · subst h0
    have e1 := copy0_D (hp := hp) (lo := lo) hlo
    simp [IP_strings_Builder_WriteByte, i_strings_Builder_WriteByte, BH, e1, hlo]
    simp [BW]
  · have e1 := copyW_D (hp := hp) (lo := lo) hlo bs
    simp [IP_strings_Builder_WriteByte, i_strings_Builder_WriteByte, BH, h0, e1, hlo, hb, h63]
    simp [BW]
theorem wstr_D (hlo : lo ≤ hp.length) (bs cs : List UInt8) (hc : cs ≠ []) (hb : bs.length + cs.length ≤ 140737488355328) : callD G0 IP n_strings_Builder_WriteString [.ptr hp.length 0, .str cs] (BH hp bs) lo false = some (.ret (.tup [.int .i64 cs.length, .nili]) (BH hp (bs ++ cs))) := by
  rw [callD_eq]
  have h63 : bs.length + cs.length ≤ 9223372036854775807 := by omega
  by_cases h0 : bs = []
  · subst h0
    have e1 := copy0_D (hp := hp) (lo := lo) hlo
    have hb' : cs.length ≤ 140737488355328 := by simpa using hb
    have h63' : cs.length ≤ 9223372036854775807 := by omega
    simp [IP_strings_Builder_WriteString, i_strings_Builder_WriteString, BH, e1, hlo, hc, hb', h63']
    simp [BW]
  · have e1 := copyW_D (hp := hp) (lo := lo) hlo bs
    simp [IP_strings_Builder_WriteString, i_strings_Builder_WriteString, BH, h0, hc, e1, hlo, hb, h63]
    simp [BW]
theorem bytesOf_bytes : ∀ bs : List UInt8, bytesOf (bytesA bs) = some bs
  | [] => rfl
  | b :: r => by
    have h := bytesOf_bytes r
    have h1 : (b.toNat : Int) < 256 := by have := b.toNat_lt; omega
    simp only [bytesA, List.map_cons, bytesOf]
    rw [if_pos ⟨by omega, h1⟩]
    simp only [bytesA] at h
    rw [h]; simp
theorem bstr_D (hlo : lo ≤ hp.length) (bs : List UInt8) (hb : bs.length ≤ 140737488355328) : callD G0 IP n_strings_Builder_String [.ptr hp.length 0] (BH hp bs) lo false = some (.ret (.str bs) (BH hp bs)) := by
  rw [callD_eq]
  have h63 : (bs.length : Int) ≤ 9223372036854775807 := by omega
  by_cases h0 : bs = []
  · subst h0
    simp [IP_strings_Builder_String, i_strings_Builder_String, BH]
  · have h1 := bytesOf_bytes bs
    simp only [bytesA] at h1
    simp [IP_strings_Builder_String, i_strings_Builder_String, BH, h0, Own.cp_own, Own.cp_view, h1, h63]
end
mutual
def S.text : S → List UInt8
  | .mk a _ l => if a = [] then 40 :: (S.texts true l ++ [41]) else a
def S.texts : Bool → List S → List UInt8
  | _, [] => []
  | b, t :: r => (if b then [] else [32]) ++ (t.text ++ S.texts false r)
end
theorem S.text_eq (t : S) : t.text = if t.atom = [] then 40 :: (S.texts true t.list ++ [41]) else t.atom := by cases t; rfl
theorem S.text_ne (t : S) : t.text ≠ [] := by
  rw [S.text_eq]; split <;> simp_all
theorem S.texts_app (b : Bool) : ∀ (l : List S) (t : S), S.texts b (l ++ [t]) = S.texts b l ++ ((if b && l.isEmpty then [] else [32]) ++ t.text)
  | [], t => by cases b <;> simp [S.texts]
  | u :: r, t => by
    rw [List.cons_append]
    simp only [S.texts]
    rw [S.texts_app false r t]
    simp
section
variable {hp : List HObj} {lo : Nat}
theorem texts_take_len {b : Bool} {l : List S} {i : Nat} (h : i < l.length) : S.texts b (l.take (i + 1)) = S.texts b (l.take i) ++ ((if b && decide (i = 0) then [] else [32]) ++ l[i].text) := by
  rw [List.take_succ_eq_append_getElem h, S.texts_app]
  have : (l.take i).isEmpty = decide (i = 0) := by
    cases i with
    | zero => simp
    | succ i => cases l with
      | nil => simp at h
      | cons x r => simp
  rw [this]
theorem texts_le {b : Bool} (l : List S) (i : Nat) : (S.texts b (l.take i)).length ≤ (S.texts b l).length := by
  have : ∀ (l : List S) (b : Bool) (i : Nat), (S.texts b (l.take i)).length ≤ (S.texts b l).length := by
    intro l
    induction l with
    | nil => intro b i; simp
    | cons x r ih =>
      intro b i
      cases i with
      | zero => simp [S.texts]
      | succ i =>
        simp only [List.take_succ_cons, S.texts, List.length_append]
        have := ih false i
        omega
  exact this l b i
theorem write_D (t : S) : t.wf → ∀ {hp : List HObj} {lo : Nat}, lo ≤ hp.length → ∀ (bs : List UInt8), bs.length + t.text.length ≤ 140737488355328 → callD G0 IP n_sexpr_write [.ptr hp.length 0, t.av] (BH hp bs) lo false = some (.ret (.tup []) (BH hp (bs ++ t.text))) := by
  induction t using S.ind with | h t ih =>
  intro hw hp lo hlo bs hb
  rw [S.wf_eq] at hw
  obtain ⟨_, hl, _, hws⟩ := hw
  rw [callD_eq]
  have ht := S.text_eq t
  by_cases ha : t.atom = []
  · rw [if_pos ha] at ht
    rw [ht] at hb ⊢
    simp only [List.length_cons, List.length_append, List.length_nil] at hb
    have e1 := wbyte_D (hp := hp) (lo := lo) hlo bs 40 (by omega)
    have e2 := wbyte_D (hp := hp) (lo := lo) hlo (bs ++ 40 :: S.texts true t.list) 41 (by simp; omega)
    have hloop := loop_iter (G := G0) (IP := IP) (lo := lo) (b := l_sexpr_write_0)
      (fun i => ⟨[(0, .ptr hp.length 0), (16, .list (S.avs t.list) (ownB t.o)), (17, .int .i64 t.list.length), (18, .int .i64 i)], BH hp (bs ++ 40 :: S.texts true (t.list.take i))⟩) t.list.length
      (r := (.exit 0, ⟨[(0, .ptr hp.length 0), (16, .list (S.avs t.list) (ownB t.o)), (17, .int .i64 t.list.length), (18, .int .i64 t.list.length), (19, .bool false)], BH hp (bs ++ 40 :: S.texts true t.list)⟩)) (fun i hi => by
        have hle := texts_le (b := true) t.list (i + 1)
        rw [texts_take_len hi] at hle
        simp only [List.length_append] at hle
        have hw := wrap_succ hi hl
        have hiI : (i : Int) < (t.list.length : Int) := by omega
        by_cases h0 : i = 0
        · subst h0
          have e3 := ih t.list[0] (List.getElem_mem hi) (hws _ (List.getElem_mem hi)) hlo (bs ++ [40]) (by simp at hle ⊢; omega)
          rw [S.av_eq] at e3
          rw [texts_take_len hi]
          simp [l_sexpr_write_0, hi, S.av_eq t.list[0], S.texts] at e3 ⊢
          simp [e3, show IntKind.wrap .i64 1 = 1 from rfl]
        · have h0' : 0 < i := by omega
          have hle2 : ((if true && decide (i = 0) then ([] : List UInt8) else [32])).length = 1 := by simp [h0]
          rw [hle2] at hle
          have e4 := wbyte_D (hp := hp) (lo := lo) hlo (bs ++ 40 :: S.texts true (t.list.take i)) 32 (by simp; omega)
          have e3 := ih t.list[i] (List.getElem_mem hi) (hws _ (List.getElem_mem hi)) hlo (bs ++ 40 :: S.texts true (t.list.take i) ++ [32]) (by simp; omega)
          rw [S.av_eq] at e3
          rw [texts_take_len hi, ← hw]
          simp at e3 e4
          simp [l_sexpr_write_0, hi, hiI, h0, h0', S.av_eq t.list[i], e3, e4])
      (by simp [l_sexpr_write_0]) (by simp)
    simp [S.texts] at hloop
    simp at e1 e2
    rw [S.av_eq t]
    simp [IP_sexpr_write, i_sexpr_write, ha, e1, e2, hloop]
  · rw [if_neg ha] at ht
    rw [ht] at hb ⊢
    have e1 := wstr_D (hp := hp) (lo := lo) hlo bs t.atom ha hb
    rw [S.av_eq t]
    simp [IP_sexpr_write, i_sexpr_write, ha, e1]
end
end Go.Proofs.YtkofimhnehkdoaaGreatDoor.Rf
end
section
/- Print and PrintAll, of the program and of the reference; the reference's weighing. -/
set_option linter.unusedSimpArgs false
set_option linter.unusedVariables false
namespace Go.Proofs.YtkofimhnehkdoaaGreatDoor.Rf

def allText : List S → List UInt8
  | [] => []
  | t :: r => t.text ++ (10 :: allText r)
theorem allText_app : ∀ (l : List S) (t : S), allText (l ++ [t]) = allText l ++ (t.text ++ [10])
  | [], t => by simp [allText]
  | u :: r, t => by simp [allText, allText_app r t]
theorem allText_take {l : List S} {i : Nat} (h : i < l.length) : allText (l.take (i + 1)) = allText (l.take i) ++ (l[i].text ++ [10]) := by
  rw [List.take_succ_eq_append_getElem h, allText_app]
theorem allText_le : ∀ (l : List S) (i : Nat), (allText (l.take i)).length ≤ (allText l).length
  | [], i => by simp
  | x :: r, 0 => by simp [allText]
  | x :: r, i + 1 => by
    have := allText_le r i
    simp only [List.take_succ_cons, allText, List.length_append, List.length_cons]; omega
section
variable {hp : List HObj} {lo : Nat}
theorem B0_fold (hp : List HObj) : hp ++ [.cells 110 [.nilp, .list [] .nil]] = BH hp [] := rfl
theorem print2_D {t : S} (hw : t.wf) (hb : t.text.length ≤ 140737488355328) (q : Bool) : callD G0 IP n_sexpr_Print [t.av] hp lo q = some (.ret (.str t.text) hp) := by
  rw [callD_eq]
  have e1 := write_D t hw (hp := hp) (lo := hp.length) (Nat.le_refl _) [] (by simpa using hb)
  have e2 := bstr_D (hp := hp) (lo := hp.length) (Nat.le_refl _) t.text hb
  rw [S.av_eq] at e1
  simp at e1
  rw [S.av_eq]
  simp [IP_sexpr_Print, i_sexpr_Print, B0_fold, e1, e2]
theorem print1_D (t : S) : t.wf → t.text.length ≤ 140737488355328 → ∀ (hp : List HObj) (lo : Nat) (q : Bool), callD G0 IP n_saturateref05_Print [t.av] hp lo q = some (.ret (.str t.text) hp) := by
  induction t using S.ind with | h t ih =>
  intro hw hb hp lo q
  rw [S.wf_eq] at hw
  obtain ⟨_, hl, _, hws⟩ := hw
  rw [callD_eq]
  have ht := S.text_eq t
  by_cases ha : t.atom = []
  · rw [if_pos ha] at ht
    rw [ht] at hb ⊢
    simp only [List.length_cons, List.length_append, List.length_nil] at hb
    have hloop := loop_iter (G := G0) (IP := IP) (lo := hp.length) (b := l_saturateref05_Print_0)
      (fun i => ⟨[(1, .box [.str t.atom, .list (S.avs t.list) (ownB t.o)]), (3, .str (40 :: S.texts true (t.list.take i))), (4, .int .i64 i)], hp⟩) t.list.length
      (r := (.exit 0, ⟨[(1, .box [.str t.atom, .list (S.avs t.list) (ownB t.o)]), (3, .str (40 :: S.texts true t.list)), (4, .int .i64 t.list.length), (14, .bool false)], hp⟩)) (fun i hi => by
        have hle := texts_le (b := true) t.list (i + 1)
        rw [texts_take_len hi] at hle
        simp only [List.length_append] at hle
        have hw := wrap_succ hi hl
        have hiI : (i : Int) < (t.list.length : Int) := by omega
        have e3 := ih t.list[i] (List.getElem_mem hi) (hws _ (List.getElem_mem hi)) (by omega) hp hp.length false
        rw [S.av_eq] at e3
        by_cases h0 : i = 0
        · subst h0
          rw [texts_take_len hi]
          have hb1 : t.list[0].text.length + 1 ≤ 9223372036854775807 := by omega
          have hb2 : 1 + t.list[0].text.length ≤ 9223372036854775807 := by omega
          simp [l_saturateref05_Print_0, hi, S.av_eq t.list[0], S.texts, e3, hb1, hb2, show IntKind.wrap .i64 1 = 1 from rfl]
        · have h0' : 0 < i := by omega
          have hle2 : ((if true && decide (i = 0) then ([] : List UInt8) else [32])).length = 1 := by simp [h0]
          rw [hle2] at hle
          rw [texts_take_len hi, ← hw]
          have hb1 : (S.texts true (List.take i t.list)).length + 1 + 1 ≤ 9223372036854775807 := by omega
          have hb2 : (S.texts true (List.take i t.list)).length + 1 + 1 + t.list[i].text.length ≤ 9223372036854775807 := by omega
          simp [l_saturateref05_Print_0, hi, hiI, h0, h0', S.av_eq t.list[i], e3, hb1, hb2])
      (by simp [l_saturateref05_Print_0]) (by simp)
    simp [S.texts, ha] at hloop
    have hb3 : (S.texts true t.list).length + 1 + 1 ≤ 9223372036854775807 := by omega
    rw [S.av_eq t]
    simp [IP_saturateref05_Print, i_saturateref05_Print, ha, hloop, hb3]
  · rw [if_neg ha] at ht
    rw [ht]
    rw [S.av_eq t]
    simp [IP_saturateref05_Print, i_saturateref05_Print, ha]
end
/-! weighing -/
mutual
def S.weigh : S → Int → Int
  | .mk a _ l, n => S.weighs l (n - 1 - (a.length : Int).tdiv 100)
def S.weighs : List S → Int → Int
  | [], n => n
  | t :: r, n => if 0 ≤ n then S.weighs r (t.weigh n) else n
end
mutual
def S.wt : S → Nat
  | .mk a _ l => 1 + a.length / 100 + S.wts l
def S.wts : List S → Nat
  | [] => 0
  | t :: r => t.wt + S.wts r
end
theorem S.weigh_eq (t : S) (n : Int) : t.weigh n = S.weighs t.list (n - 1 - (t.atom.length : Int).tdiv 100) := by cases t; rfl
theorem S.wt_eq (t : S) : t.wt = 1 + t.atom.length / 100 + S.wts t.list := by cases t; rfl
theorem tdiv100 (n : Nat) : (n : Int).tdiv 100 = ((n / 100 : Nat) : Int) := by rfl
theorem S.weighs_neg : ∀ (l : List S) (n : Int), n < 0 → S.weighs l n = n
  | [], n, _ => rfl
  | t :: r, n, h => by simp only [S.weighs]; rw [if_neg (by omega)]
theorem S.weigh_ge (t : S) : ∀ n : Int, 0 ≤ t.weigh n → t.weigh n = n - t.wt := by
  induction t using S.ind with | h t ih =>
  have hl : ∀ (l : List S), (∀ u, u ∈ l → ∀ n : Int, 0 ≤ u.weigh n → u.weigh n = n - u.wt) → ∀ n : Int, 0 ≤ S.weighs l n → S.weighs l n = n - S.wts l := by
    intro l
    induction l with
    | nil => intro _ n _; simp [S.weighs, S.wts]
    | cons x r ihr =>
      intro h n hn
      simp only [S.weighs] at hn ⊢
      split
      · rename_i h0
        rw [if_pos h0] at hn
        by_cases hx : 0 ≤ x.weigh n
        · rw [ihr (fun u hu => h u (by simp [hu])) _ hn, h x (by simp) n hx]; simp only [S.wts]; omega
        · rw [S.weighs_neg r _ (by omega)] at hn; exact absurd hn hx
      · rename_i h0; rw [if_neg h0] at hn; exact absurd hn h0
  intro n hn
  rw [S.weigh_eq] at hn ⊢
  rw [hl t.list ih _ hn, S.wt_eq, tdiv100]; omega
theorem S.text_len (t : S) : t.text.length + 1 ≤ 200 * t.wt := by
  induction t using S.ind with | h t ih =>
  have hl : ∀ (l : List S) (b : Bool), (∀ u, u ∈ l → u.text.length + 1 ≤ 200 * u.wt) → (S.texts b l).length ≤ 200 * S.wts l := by
    intro l
    induction l with
    | nil => intro b _; simp [S.texts, S.wts]
    | cons x r ihr =>
      intro b h
      have h1 := h x (by simp)
      have h2 := ihr false fun u hu => h u (by simp [hu])
      simp only [S.texts, S.wts, List.length_append]
      have h4 : (if b = true then ([] : List UInt8) else [32]).length ≤ 1 := by cases b <;> simp
      omega
  have h := hl t.list true ih
  rw [S.text_eq, S.wt_eq]
  split
  · simp; omega
  · omega
theorem allText_len : ∀ (l : List S) (n : Nat), (∀ t, t ∈ l → t.wt ≤ n) → (allText l).length ≤ 200 * n * l.length
  | [], n, _ => by simp [allText]
  | t :: r, n, h => by
    have h1 := allText_len r n fun u hu => h u (by simp [hu])
    have h2 := S.text_len t
    have h3 := h t (by simp)
    simp only [allText, List.length_append, List.length_cons, Nat.mul_add, Nat.mul_one]
    have : 200 * t.wt ≤ 200 * n := Nat.mul_le_mul_left _ h3
    omega
section
variable {lo : Nat}
theorem weigh_D (t : S) : t.wf → ∀ (n : Int), 0 ≤ n → n ≤ 1000 → ∀ (hp : List HObj) (lo : Nat) (q : Bool), callD G0 IP n_saturateref05_weigh [t.av, .int .i64 n] hp lo q = some (.ret (.int .i64 (t.weigh n)) hp) := by
  induction t using S.ind with | h t ih =>
  intro hw n h0 h1 hp lo q
  rw [S.wf_eq] at hw
  obtain ⟨hal, hl, _, hws⟩ := hw
  have hloop : ∀ (k i : Nat) (n : Int), i + k = t.list.length → n ≤ 1000 → ∃ j : Int, loopD G0 IP hp.length l_saturateref05_weigh_0 ⟨[(1, .int .i64 n), (2, .box [.str t.atom, .list (S.avs t.list) (ownB t.o)]), (5, .int .i64 i)], hp⟩ =
      some (.exit 0, ⟨[(1, .int .i64 (S.weighs (t.list.drop i) n)), (2, .box [.str t.atom, .list (S.avs t.list) (ownB t.o)]), (5, .int .i64 j), (21, .bool false)], hp⟩) := by
    intro k
    induction k with
    | zero =>
      intro i n hi _
      have hI : ¬ (i : Int) < (t.list.length : Int) := by omega
      refine ⟨i, ?_⟩
      rw [loopD_eq, loopBody, List.drop_eq_nil_of_le (by omega)]
      simp [l_saturateref05_weigh_0, hI, S.weighs]
    | succ k ihk =>
      intro i n hi hn
      have hlt : i < t.list.length := by omega
      have hI : (i : Int) < (t.list.length : Int) := by omega
      rw [List.drop_eq_getElem_cons hlt]
      simp only [S.weighs]
      by_cases hneg : 0 ≤ n
      · have e1 := ih t.list[i] (List.getElem_mem hlt) (hws _ (List.getElem_mem hlt)) n hneg hn hp hp.length false
        have hle : t.list[i].weigh n ≤ 1000 := by
          by_cases hx : 0 ≤ t.list[i].weigh n
          · have := S.weigh_ge _ _ hx; omega
          · omega
        obtain ⟨j, e2⟩ := ihk (i + 1) (t.list[i].weigh n) (by omega) hle
        have hw1 := wrap_succ hlt hl
        rw [S.av_eq] at e1
        refine ⟨j, ?_⟩
        rw [loopD_eq, loopBody, if_pos hneg]
        simp [l_saturateref05_weigh_0, hI, hlt, hneg, S.av_eq t.list[i], e1, hw1]
        exact e2
      · refine ⟨i, ?_⟩
        rw [loopD_eq, loopBody, if_neg hneg]
        simp [l_saturateref05_weigh_0, hI, hlt, hneg]
  have hd : (t.atom.length : Int).tdiv 100 = ((t.atom.length / 100 : Nat) : Int) := tdiv100 _
  have hdl : t.atom.length / 100 ≤ 92233720368547758 := by omega
  obtain ⟨j, e2⟩ := hloop t.list.length 0 (n - 1 - (t.atom.length : Int).tdiv 100) (by omega) (by rw [hd]; omega)
  have hwr : ∀ m : Int, -9223372036854775808 ≤ m → m ≤ 9223372036854775807 → IntKind.wrap .i64 m = m := fun m a b => by
    simp [IntKind.wrap, IntKind.signed, IntKind.bits]; omega
  have w1 : IntKind.wrap .i64 (n - 1) = n - 1 := hwr _ (by omega) (by omega)
  have w2 : IntKind.wrap .i64 ((t.atom.length : Int).tdiv 100) = (t.atom.length : Int).tdiv 100 := by rw [hd]; exact hwr _ (by omega) (by omega)
  have w3 : IntKind.wrap .i64 (n - 1 - (t.atom.length : Int).tdiv 100) = n - 1 - (t.atom.length : Int).tdiv 100 := by rw [hd]; exact hwr _ (by omega) (by omega)
  rw [callD_eq, S.weigh_eq, S.av_eq]
  have he : (t.atom.length : Int).tdiv 100 = (t.atom.length : Int) / 100 := by rw [hd]; omega
  rw [he] at w2 w3 e2 ⊢
  simp at e2
  simp [IP_saturateref05_weigh, i_saturateref05_weigh, w1, w2, w3, e2]
def fewB (t : S) (n : Int) : Bool := decide (0 ≤ t.weigh n)
theorem few_D {t : S} (hw : t.wf) {n : Int} (h0 : 0 ≤ n) (h1 : n ≤ 1000) {hp : List HObj} (q : Bool) : callD G0 IP n_saturateref05_Few [t.av, .int .i64 n] hp lo q = some (.ret (.bool (fewB t n)) hp) := by
  rw [callD_eq]
  have e1 := weigh_D t hw n h0 h1 hp hp.length false
  rw [S.av_eq] at e1 ⊢
  simp [IP_saturateref05_Few, i_saturateref05_Few, e1, fewB]
theorem few_wt {t : S} {n : Int} (h : fewB t n = true) : (t.wt : Int) ≤ n := by
  simp only [fewB, decide_eq_true_eq] at h
  have := S.weigh_ge t n h
  omega
end
end Go.Proofs.YtkofimhnehkdoaaGreatDoor.Rf
end
section
/- What is printed is parsed: the plain law. -/
set_option linter.unusedSimpArgs false
set_option linter.unusedVariables false
namespace Go.Proofs.YtkofimhnehkdoaaGreatDoor.Rf

theorem skipK_fuel (s : List UInt8) : ∀ (n m i : Nat), s.length - i ≤ n → s.length - i ≤ m → skipK s n i = skipK s m i
  | 0, 0, i, _, _ => rfl
  | 0, m + 1, i, h, _ => by simp only [skipK]; rw [if_neg (by omega)]
  | n + 1, 0, i, _, h => by simp only [skipK]; rw [if_neg (by omega)]
  | n + 1, m + 1, i, h1, h2 => by
    simp only [skipK]
    split
    · rename_i hi
      split
      · exact skipK_fuel s n m _ (by omega) (by omega)
      · split
        · rename_i h59
          have hgt : i < comK s (s.length - i) i := by
            obtain ⟨k, hk⟩ : ∃ k, s.length - i = k + 1 := ⟨s.length - i - 1, by omega⟩
            rw [hk]; simp only [comK, h59]
            have := comK_le s k (i + 1)
            simp; omega
          exact skipK_fuel s n m _ (by omega) (by omega)
        · rfl
    · rfl
theorem skipN_end {s : List UInt8} {i : Nat} (h : s.length ≤ i) : skipN s i = i := by
  unfold skipN
  cases hs : s.length with
  | zero => rfl
  | succ n => simp only [skipK]; rw [if_neg (by omega)]
theorem skipN_step {s : List UInt8} {i : Nat} (h : i < s.length) : skipN s i = if blankC (byt s i) then skipN s (i + 1) else if byt s i = 59 then skipN s (comK s (s.length - i) i) else i := by
  have h1 : skipN s i = skipK s (s.length + 1) i := skipK_fuel s _ _ i (by omega) (by omega)
  rw [h1]
  simp only [skipK, if_pos h]
  rfl
theorem byt_app {pre post : List UInt8} {c : UInt8} : byt (pre ++ c :: post) pre.length = (c.toNat : Int) := by
  simp [byt]
/-- a token begins -/
def tokC (c : UInt8) : Bool := !blankC (c.toNat : Int) && !decide ((c.toNat : Int) = 59)
theorem skipN_tok {pre post : List UInt8} {c : UInt8} (h : tokC c = true) : skipN (pre ++ c :: post) pre.length = pre.length := by
  simp only [tokC, Bool.and_eq_true, Bool.not_eq_true', decide_eq_false_iff_not] at h
  rw [skipN_step (by simp), byt_app, h.1]
  simp [h.2]
/-- what is skipped wherever it stands -/
def Gp (g : List UInt8) : Prop := ∀ pre post, skipN (pre ++ (g ++ post)) pre.length = skipN (pre ++ (g ++ post)) (pre.length + g.length)
theorem Gp.nil : Gp [] := fun pre post => by simp
theorem Gp.blank {c : UInt8} (h : blankC (c.toNat : Int) = true) : Gp [c] := fun pre post => by
  have : pre ++ ([c] ++ post) = pre ++ c :: post := by simp
  rw [this, skipN_step (by simp), byt_app, h]; simp
theorem Gp.app {a b : List UInt8} (ha : Gp a) (hb : Gp b) : Gp (a ++ b) := fun pre post => by
  have h1 := ha pre (b ++ post)
  have h2 := hb (pre ++ a) post
  simp only [List.append_assoc, List.length_append] at h1 h2 ⊢
  rw [h1, h2]; congr 1; omega
/-- the end of an atom -/
theorem atomK_all (s : List UInt8) : ∀ (a pre post : List UInt8) (k : Nat), s = pre ++ (a ++ post) → (∀ c, c ∈ a → plainC (c.toNat : Int) = true) → (∀ c r, post = c :: r → plainC (c.toNat : Int) = false) → a.length + post.length = k → atomK s k pre.length = pre.length + a.length
  | [], pre, post, k, hs, ha, hp, hk => by
    cases post with
    | nil => simp at hk; subst hk; rfl
    | cons c r =>
      obtain ⟨k', rfl⟩ : ∃ k', k = k' + 1 := ⟨k - 1, by simp at hk; omega⟩
      have hb : byt s pre.length = (c.toNat : Int) := by rw [hs]; exact byt_app
      simp only [atomK, hb, hp c r rfl]; simp
  | c :: a, pre, post, k, hs, ha, hp, hk => by
    obtain ⟨k', rfl⟩ : ∃ k', k = k' + 1 := ⟨k - 1, by simp at hk; omega⟩
    have hb : byt s pre.length = (c.toNat : Int) := by rw [hs]; exact byt_app
    have ih := atomK_all s a (pre ++ [c]) post k' (by rw [hs]; simp) (fun x hx => ha x (by simp [hx])) hp (by simp at hk; omega)
    simp only [atomK, hb, ha c (by simp), if_true]
    simp at ih
    rw [ih]; simp; omega
theorem plain_tok {c : UInt8} (h : plainC (c.toNat : Int) = true) : tokC c = true ∧ ¬ (c.toNat : Int) = 40 ∧ ¬ (c.toNat : Int) = 41 := by
  simp only [plainC, Bool.and_eq_true, decide_eq_true_eq, Bool.not_eq_true', decide_eq_false_iff_not] at h
  obtain ⟨h1, h2, h3, h4, h5⟩ := h
  refine ⟨?_, h3, h4⟩
  simp only [tokC, blankC, Bool.and_eq_true, Bool.not_eq_true', decide_eq_false_iff_not, Bool.or_eq_false_iff]
  exact ⟨⟨by omega, by omega, by omega, by omega⟩, h5⟩

/-! texts of an s-expression, with whatever may be skipped between its tokens -/
mutual
inductive Enc : S → List UInt8 → Prop
  | atom {a : List UInt8} {o : Bool} : a ≠ [] → (∀ c, c ∈ a → plainC (c.toNat : Int) = true) → Enc (.mk a o []) a
  | list {o : Bool} {l : List S} {b : List UInt8} : EncL l b → Enc (.mk [] o l) (40 :: (b ++ [41]))
inductive EncL : List S → List UInt8 → Prop
  | nil {g : List UInt8} : Gp g → EncL [] g
  | cons {g e b : List UInt8} {t : S} {r : List S} : Gp g → Enc t e → EncL r b → (t.atom ≠ [] → ∀ c r, b = c :: r → plainC (c.toNat : Int) = false) → EncL (t :: r) (g ++ (e ++ b))
end
mutual
def S.depth : S → Nat
  | .mk a _ l => if a = [] then S.depths l + 1 else 1
def S.depths : List S → Nat
  | [] => 0
  | t :: r => max t.depth (S.depths r)
end
theorem S.depth_eq (t : S) : t.depth = if t.atom = [] then S.depths t.list + 1 else 1 := by cases t; rfl
theorem S.sames_app : ∀ (a b : List S) (x y : S), S.sames a b = true → x.same y = true → S.sames (a ++ [x]) (b ++ [y]) = true
  | [], [], x, y, _, h => by simp [S.sames, h]
  | t :: r, u :: s, x, y, h, k => by
    simp only [S.sames, Bool.and_eq_true] at h
    simp only [List.cons_append, S.sames, Bool.and_eq_true]
    exact ⟨h.1, S.sames_app r s x y h.2 k⟩
  | [], _ :: _, _, _, h, _ => by simp [S.sames] at h
  | _ :: _, [], _, _, h, _ => by simp [S.sames] at h
theorem Enc.head {t : S} {e : List UInt8} (h : Enc t e) : ∃ c r, e = c :: r ∧ tokC c = true ∧ ¬ (c.toNat : Int) = 41 := by
  cases h with
  | atom h1 h2 =>
    cases e with
    | nil => exact absurd rfl h1
    | cons c r => exact ⟨c, r, rfl, (plain_tok (h2 c (by simp))).1, (plain_tok (h2 c (by simp))).2.2⟩
  | list h1 => exact ⟨40, _, rfl, by decide, by decide⟩
theorem enc_both (n : Nat) : (∀ (t : S) (e pre post : List UInt8) (d : Nat), Enc t e → t.depth + d ≤ 64 → (t.atom ≠ [] → ∀ c r, post = c :: r → plainC (c.toNat : Int) = false) → 2 * (e.length + post.length) ≤ n →
      ∃ x, pOne (pre ++ (e ++ post)) n pre.length d = .ok x (pre.length + e.length) ∧ x.same t = true) ∧
    (∀ (l : List S) (b pre post : List UInt8) (d : Nat) (acc base : List S), EncL l b → S.depths l + d + 1 ≤ 64 → S.sames acc base = true → 2 * (b.length + (post.length + 1)) + 1 ≤ n →
      ∃ acc', pLoop (pre ++ (b ++ (41 :: post))) n (skipN (pre ++ (b ++ (41 :: post))) pre.length) d acc = .stop (pre.length + b.length) acc' ∧ S.sames acc' (base ++ l) = true) := by
  induction n with
  | zero =>
    refine ⟨fun t e pre post d he _ _ hn => ?_, fun l b pre post d acc base _ _ _ hn => absurd hn (by omega)⟩
    obtain ⟨c, r, rfl, _⟩ := he.head
    simp at hn
    omega
  | succ n ih =>
    obtain ⟨ih1, ih2⟩ := ih
    refine ⟨fun t e pre post d he hd hp hn => ?_, fun l b pre post d acc base hl hd hs hn => ?_⟩
    · cases he with
      | atom h1 h2 =>
        rename_i o
        cases hee : e with
        | nil => exact absurd hee h1
        | cons c r =>
          have hb : byt (pre ++ (e ++ post)) pre.length = (c.toNat : Int) := by rw [hee]; exact byt_app
          obtain ⟨k1, k2, k3⟩ := plain_tok (h2 c (by rw [hee]; simp))
          have hpl := h2 c (by rw [hee]; simp)
          have ha := atomK_all (pre ++ (e ++ post)) e pre post (e.length + post.length) rfl h2 (hp h1) rfl
          have hd' : ¬ d ≥ 64 := by
            have : (S.mk e o []).depth = 1 := by simp [S.depth, h1]
            rw [this] at hd; omega
          have hN : atomN (pre ++ (e ++ post)) pre.length = pre.length + e.length := by
            unfold atomN
            rw [show (pre ++ (e ++ post)).length - pre.length = e.length + post.length by simp]
            exact ha
          rw [← hee]
          refine ⟨.mk (((pre ++ (e ++ post)).take (pre.length + e.length)).drop pre.length) true [], ?_, ?_⟩
          · simp only [pOne, hb, if_neg k2, hpl, if_true, if_neg hd', hN]
          · simp [S.same, S.sames, List.take_append]
      | list h1 =>
        rename_i o l b
        have hb : byt (pre ++ ((40 :: (b ++ [41])) ++ post)) pre.length = ((40 : UInt8).toNat : Int) := byt_app
        have hd0 : S.depths l + 1 + d ≤ 64 := by rw [S.depth_eq] at hd; simpa [S.atom, S.list] using hd
        have hd' : ¬ d ≥ 64 := by omega
        have e0 : pre ++ ((40 :: (b ++ [41])) ++ post) = (pre ++ [40]) ++ (b ++ (41 :: post)) := by simp
        obtain ⟨acc', e1, e2⟩ := ih2 l b (pre ++ [40]) post d [] [] h1 (by omega) rfl (by simp at hn ⊢; omega)
        have hlen : (pre ++ [40]).length = pre.length + 1 := by simp
        rw [← e0, hlen] at e1
        have hne : ¬ pre.length + 1 + b.length = (pre ++ ((40 :: (b ++ [41])) ++ post)).length := by simp; omega
        refine ⟨.mk [] acc'.isEmpty acc', ?_, ?_⟩
        · simp only [pOne, hb, show (((40 : UInt8).toNat : Int) = 40) from rfl, if_true, if_neg hd', e1, if_neg hne]
          simp; omega
        · simp only [List.nil_append] at e2
          simp [S.same, e2]
    · cases hl with
      | nil hg =>
        have h1 := hg pre (41 :: post)
        have h2 := skipN_tok (pre := pre ++ b) (post := post) (c := 41) (by decide)
        rw [List.append_assoc, List.length_append] at h2
        rw [h1, h2]
        have hb : byt (pre ++ (b ++ 41 :: post)) (pre.length + b.length) = ((41 : UInt8).toNat : Int) := by
          have := byt_app (pre := pre ++ b) (post := post) (c := 41)
          rwa [List.append_assoc, List.length_append] at this
        refine ⟨acc, ?_, by simpa using hs⟩
        simp only [pLoop, hb]
        rw [if_pos (by simp), if_pos (show ((41 : UInt8).toNat : Int) = 41 from rfl)]
      | cons hg he hr hsep =>
        rename_i g e b t r
        obtain ⟨c, er, hce, k1, k2⟩ := he.head
        have e0 : pre ++ ((g ++ (e ++ b)) ++ (41 :: post)) = (pre ++ g) ++ (e ++ (b ++ (41 :: post))) := by simp
        have h1 := hg pre (e ++ (b ++ (41 :: post)))
        have e0' : pre ++ (g ++ (e ++ (b ++ (41 :: post)))) = (pre ++ g) ++ (e ++ (b ++ (41 :: post))) := by simp
        rw [e0'] at h1
        have h2 : skipN ((pre ++ g) ++ (e ++ (b ++ (41 :: post)))) (pre ++ g).length = (pre ++ g).length := by
          rw [hce]; exact skipN_tok k1
        rw [List.length_append] at h2
        rw [e0, h1, h2]
        have hb : byt ((pre ++ g) ++ (e ++ (b ++ (41 :: post)))) (pre.length + g.length) = (c.toNat : Int) := by
          rw [hce]
          have := byt_app (pre := pre ++ g) (post := er ++ (b ++ (41 :: post))) (c := c)
          rwa [List.length_append] at this
        simp only [S.depths] at hd
        obtain ⟨x, e1, e2⟩ := ih1 t e (pre ++ g) (b ++ (41 :: post)) (d + 1) he (by omega) (fun ha c r hc => by
          cases b with
          | nil => simp at hc; rw [← hc.1]; rfl
          | cons c' b' => simp at hc; rw [← hc.1]; exact hsep ha c' b' rfl) (by simp at hn ⊢; omega)
        rw [List.length_append] at e1
        have hce' : 1 ≤ e.length := by rw [hce]; simp
        obtain ⟨acc', e3, e4⟩ := ih2 r b ((pre ++ g) ++ e) post d (acc ++ [x]) (base ++ [t]) hr (by omega) (S.sames_app _ _ _ _ hs e2) (by simp at hn ⊢; omega)
        have e5 : ((pre ++ g) ++ e) ++ (b ++ (41 :: post)) = (pre ++ g) ++ (e ++ (b ++ (41 :: post))) := by simp
        rw [e5, List.length_append, List.length_append] at e3
        refine ⟨acc', ?_, by simpa using e4⟩
        simp only [pLoop, hb]
        rw [if_pos (by simp; omega), if_neg k2, e1]
        simp only
        rw [e3]; simp; omega
end Go.Proofs.YtkofimhnehkdoaaGreatDoor.Rf
end
section
/- Valid, right, Depth. -/
set_option linter.unusedSimpArgs false
set_option linter.unusedVariables false
namespace Go.Proofs.YtkofimhnehkdoaaGreatDoor.Rf

def allPlain (a : List UInt8) : Bool := a.all fun c => plainC (c.toNat : Int)
mutual
def S.right : S → Bool
  | .mk a _ l => if a = [] then S.rights l else l.isEmpty && allPlain a
def S.rights : List S → Bool
  | [] => true
  | t :: r => t.right && S.rights r
end
mutual
def S.valid : S → Nat → Bool
  | .mk a _ l, d => decide (d < 64) && (if a = [] then S.valids l (d + 1) else allPlain a && l.isEmpty)
def S.valids : List S → Nat → Bool
  | [], _ => true
  | t :: r, d => t.valid d && S.valids r d
end
theorem S.right_eq (t : S) : t.right = if t.atom = [] then S.rights t.list else t.list.isEmpty && allPlain t.atom := by cases t; rfl
theorem S.valid_eq (t : S) (d : Nat) : t.valid d = (decide (d < 64) && (if t.atom = [] then S.valids t.list (d + 1) else allPlain t.atom && t.list.isEmpty)) := by cases t; rfl
theorem S.rights_any : ∀ l : List S, S.rights l = !(List.range l.length).any fun i => !(l.getD i (.mk [] true [])).right
  | [] => rfl
  | t :: r => by
    rw [S.rights, S.rights_any r, List.length_cons, List.range_succ_eq_map]
    simp [List.any_map, Function.comp_def]
theorem S.valids_any (d : Nat) : ∀ l : List S, S.valids l d = !(List.range l.length).any fun i => !(l.getD i (.mk [] true [])).valid d
  | [] => rfl
  | t :: r => by
    rw [S.valids, S.valids_any d r, List.length_cons, List.range_succ_eq_map]
    simp [List.any_map, Function.comp_def]
theorem S.rights_iff : ∀ l : List S, S.rights l = true ↔ ∀ t, t ∈ l → t.right = true
  | [] => by simp [S.rights]
  | t :: r => by simp [S.rights, S.rights_iff r]
theorem S.valid_iff (t : S) : ∀ d, t.valid d = (t.right && decide (t.depth + d ≤ 64)) := by
  induction t using S.ind with | h t ih =>
  have hl : ∀ (l : List S), (∀ u, u ∈ l → ∀ d, u.valid d = (u.right && decide (u.depth + d ≤ 64))) → ∀ d, S.valids l d = (S.rights l && decide (S.depths l + d ≤ 64 ∨ l = [])) := by
    intro l
    induction l with
    | nil => intro _ d; simp [S.valids, S.rights]
    | cons x r ihr =>
      intro h d
      rw [S.valids, S.rights, h x (by simp), ihr (fun u hu => h u (by simp [hu]))]
      have hx : 1 ≤ x.depth := by rw [S.depth_eq]; split <;> omega
      cases hr : r with
      | nil => simp [S.rights, S.depths]
      | cons y s =>
        rw [← hr]
        have hne : r ≠ [] := by rw [hr]; simp
        simp only [S.depths, hne, or_false, reduceCtorEq]
        cases x.right <;> cases S.rights r <;> simp
        rw [← Bool.decide_and, decide_eq_decide]; omega
  intro d
  rw [S.valid_eq, S.right_eq, S.depth_eq]
  by_cases ha : t.atom = []
  · simp only [if_pos ha]
    rw [hl t.list ih (d + 1)]
    cases hle : t.list with
    | nil => simp [S.rights, S.depths]; omega
    | cons y s =>
      rw [← hle]
      have hne : t.list ≠ [] := by rw [hle]; simp
      simp only [hne, or_false]
      cases S.rights t.list
      · simp
      · simp only [Bool.true_and]
        rw [← Bool.decide_and, decide_eq_decide]; omega
  · simp only [if_neg ha]
    cases allPlain t.atom <;> cases t.list.isEmpty <;> simp <;> omega
theorem atomK_lt (s : List UInt8) : ∀ (k i : Nat), i + k = s.length → (atomK s k i = s.length ↔ ∀ j, i ≤ j → j < s.length → plainC (byt s j) = true)
  | 0, i, h => by simp [atomK]; exact ⟨fun _ j h1 h2 => absurd h2 (by omega), fun _ => by omega⟩
  | k + 1, i, h => by
    simp only [atomK]
    cases hc : plainC (byt s i)
    · simp
      exact ⟨fun e => absurd e (by omega), fun hh => by have := hh i (Nat.le_refl _) (by omega); rw [hc] at this; cases this⟩
    · simp only [if_true]
      rw [atomK_lt s k (i + 1) (by omega)]
      exact ⟨fun hh j h1 h2 => by
        by_cases e : i = j
        · subst e; exact hc
        · exact hh j (by omega) h2, fun hh j h1 h2 => hh j (by omega) h2⟩
theorem atomN_all (a : List UInt8) : decide (atomN a 0 = a.length) = allPlain a := by
  have h := atomK_lt a a.length 0 (by omega)
  have e : (atomN a 0 = a.length) ↔ allPlain a = true := by
    unfold atomN
    rw [Nat.sub_zero, h]
    simp only [allPlain, List.all_eq_true]
    constructor
    · intro hh c hc
      obtain ⟨i, hi, rfl⟩ := List.getElem_of_mem hc
      have := hh i (Nat.zero_le _) hi
      simpa [byt, hi] using this
    · intro hh j _ hj
      have := hh a[j] (List.getElem_mem hj)
      simpa [byt, hj] using this
  cases hc : allPlain a
  · simp; rw [e, hc]; simp
  · simp; rw [e, hc]
section
variable {hp : List HObj} {lo : Nat}
end
end Go.Proofs.YtkofimhnehkdoaaGreatDoor.Rf
end
section
/- Valid of the program and of the reference. -/
set_option linter.unusedSimpArgs false
set_option linter.unusedVariables false
namespace Go.Proofs.YtkofimhnehkdoaaGreatDoor.Rf

theorem S.depth_pos (t : S) : 1 ≤ t.depth := by rw [S.depth_eq]; split <;> omega
theorem S.depth_wt (t : S) : t.depth ≤ t.wt := by
  induction t using S.ind with | h t ih =>
  have hl : ∀ (l : List S), (∀ u, u ∈ l → u.depth ≤ u.wt) → S.depths l ≤ S.wts l := by
    intro l
    induction l with
    | nil => intro _; simp [S.depths, S.wts]
    | cons x r ihr =>
      intro h
      have h1 := h x (by simp)
      have h2 := ihr fun u hu => h u (by simp [hu])
      simp only [S.depths, S.wts]; omega
  have := hl t.list ih
  rw [S.depth_eq, S.wt_eq]; split <;> omega
theorem S.depths_app : ∀ (l : List S) (t : S), S.depths (l ++ [t]) = max (S.depths l) t.depth
  | [], t => by simp [S.depths]
  | x :: r, t => by simp only [List.cons_append, S.depths, S.depths_app r t]; omega
theorem S.depths_take {l : List S} {i : Nat} (h : i < l.length) : S.depths (l.take (i + 1)) = max (S.depths (l.take i)) l[i].depth := by
  rw [List.take_succ_eq_append_getElem h, S.depths_app]
theorem S.wts_mem : ∀ (l : List S) (t : S), t ∈ l → t.wt ≤ S.wts l
  | [], t, h => by simp at h
  | x :: r, t, h => by
    simp only [S.wts]
    rcases List.mem_cons.1 h with rfl | h
    · omega
    · have := S.wts_mem r t h; omega
section
variable {hp : List HObj} {lo : Nat}
def S.okB (t : S) : Bool := t.right && decide (t.depth ≤ 64)
theorem plain_any (a : List UInt8) : allPlain a = !(List.range a.length).any fun i => !plainC (byt a i) := by
  induction a with
  | nil => rfl
  | cons c r ih =>
    rw [allPlain, List.all_cons, show (r.all fun c => plainC (c.toNat : Int)) = allPlain r from rfl, ih, List.length_cons, List.range_succ_eq_map]
    simp [List.any_map, Function.comp_def, byt]
end
end Go.Proofs.YtkofimhnehkdoaaGreatDoor.Rf
end
section
/- Printing and parsing undo one another. -/
set_option linter.unusedSimpArgs false
set_option linter.unusedVariables false
namespace Go.Proofs.YtkofimhnehkdoaaGreatDoor.Rf

theorem top_enc (s : List UInt8) : ∀ (l : List S) (b pre : List UInt8) (acc base : List S) (st : List Nat) (n : Nat), EncL l b → (∀ t, t ∈ l → t.depth ≤ 64) → S.sames acc base = true → s = pre ++ b → b.length < n →
    ∃ acc' st', pTop s n (skipN s pre.length) acc st = .ok acc' st' ∧ S.sames acc' (base ++ l) = true
  | l, b, pre, acc, base, st, 0, _, _, _, _, hn => absurd hn (by omega)
  | l, b, pre, acc, base, st, n + 1, he, hd, hs, hsb, hn => by
    cases he with
    | nil hg =>
      have h1 := hg pre []
      simp only [List.append_nil] at h1
      rw [← hsb] at h1
      have h2 : skipN s (pre.length + b.length) = pre.length + b.length := skipN_end (by rw [hsb]; simp)
      refine ⟨acc, st, ?_, by simpa using hs⟩
      simp only [pTop]
      rw [h1, h2, if_neg (by rw [hsb]; simp)]
    | cons hg he hr hsep =>
      rename_i g e b t r
      obtain ⟨c, er, hce, k1, k2⟩ := he.head
      have e0 : s = (pre ++ g) ++ (e ++ b) := by rw [hsb]; simp
      have h1 := hg pre (e ++ b)
      rw [← hsb] at h1
      have h2 : skipN s (pre.length + g.length) = pre.length + g.length := by
        have := skipN_tok (pre := pre ++ g) (post := er ++ b) (c := c) k1
        rw [List.length_append] at this
        rwa [show (pre ++ g) ++ c :: (er ++ b) = s by rw [e0, hce]; simp] at this
      obtain ⟨x, e1, e2⟩ := (enc_both (2 * s.length)).1 t e (pre ++ g) b 0 he (by have := hd t (by simp); omega) hsep (by rw [e0]; simp; omega)
      rw [← e0, List.length_append] at e1
      obtain ⟨acc', st', e3, e4⟩ := top_enc s r b ((pre ++ g) ++ e) (acc ++ [x]) (base ++ [t]) (st ++ [pre.length + g.length]) n hr (fun u hu => hd u (by simp [hu])) (S.sames_app _ _ _ _ hs e2) (by rw [e0]; simp) (by rw [hce] at hn; simp at hn; omega)
      rw [List.length_append, List.length_append] at e3
      refine ⟨acc', st', ?_, by simpa using e4⟩
      simp only [pTop]
      rw [h1, h2, if_pos (by rw [e0, hce]; simp), e1]
      exact e3
theorem pAll_enc {l : List S} {b : List UInt8} (he : EncL l b) (hd : ∀ t, t ∈ l → t.depth ≤ 64) (hb : b.length ≤ 65536) : ∃ l' st, pAll b = .ok l' st ∧ S.sames l' l = true := by
  obtain ⟨l', st, h1, h2⟩ := top_enc b l b [] [] [] [] (b.length + 1) he hd rfl rfl (by omega)
  refine ⟨l', st, ?_, by simpa using h2⟩
  unfold pAll
  rw [if_neg (by omega)]
  exact h1
theorem sames_one {l : List S} {t : S} (h : S.sames l [t] = true) : ∃ x, l = [x] ∧ x.same t = true := by
  match l, h with
  | [x], h => exact ⟨x, rfl, by simpa [S.sames] using h⟩
  | [], h => simp [S.sames] at h
  | x :: y :: r, h => simp [S.sames] at h
theorem enc_text (t : S) : t.right = true → Enc t t.text := by
  induction t using S.ind with | h t ih =>
  intro hr
  have hl : ∀ (l : List S) (b : Bool), (∀ u, u ∈ l → Enc u u.text) → EncL l (S.texts b l) := by
    intro l
    induction l with
    | nil => intro b _; exact .nil Gp.nil
    | cons x r ihr =>
      intro b h
      refine .cons ?_ (h x (by simp)) (ihr false fun u hu => h u (by simp [hu])) ?_
      · cases b
        · exact Gp.blank (by decide)
        · exact Gp.nil
      · intro _ c r' hc
        cases r with
        | nil => simp [S.texts] at hc
        | cons y s => simp [S.texts] at hc; rw [← hc.1]; rfl
  cases t with
  | mk a o l =>
    simp only [S.list] at ih
    simp only [S.right] at hr
    by_cases ha : a = []
    · subst ha
      simp only [if_true] at hr
      have := hl l true fun u hu => ih u hu ((S.rights_iff l).1 hr u hu)
      simp only [S.text, if_true]
      exact .list this
    · rw [if_neg ha] at hr
      simp only [Bool.and_eq_true, List.isEmpty_iff] at hr
      obtain ⟨rfl, hp⟩ := hr
      simp only [S.text, if_neg ha]
      exact .atom ha fun c hc => by simp only [allPlain, List.all_eq_true] at hp; exact hp c hc
theorem enc_all : ∀ (l : List S) (g : List UInt8), Gp g → (∀ t, t ∈ l → t.right = true) → EncL l (g ++ allText l)
  | [], g, hg, _ => by simpa [allText] using EncL.nil hg
  | t :: r, g, hg, h => by
    have := enc_all r [10] (Gp.blank (by decide)) fun u hu => h u (by simp [hu])
    exact .cons hg (enc_text t (h t (by simp))) this fun _ c r' hc => by simp at hc; rw [← hc.1]; rfl
theorem S.text_len2 (t : S) : t.text.length + 1 ≤ 100 * t.wt := by
  induction t using S.ind with | h t ih =>
  have hl : ∀ (l : List S) (b : Bool), (∀ u, u ∈ l → u.text.length + 1 ≤ 100 * u.wt) → (S.texts b l).length ≤ 100 * S.wts l := by
    intro l
    induction l with
    | nil => intro b _; simp [S.texts, S.wts]
    | cons x r ihr =>
      intro b h
      have h1 := h x (by simp)
      have h2 := ihr false fun u hu => h u (by simp [hu])
      simp only [S.texts, S.wts, List.length_append]
      have h4 : (if b = true then ([] : List UInt8) else [32]).length ≤ 1 := by cases b <;> simp
      omega
  have h := hl t.list true ih
  rw [S.text_eq, S.wt_eq]
  split
  · simp; omega
  · omega
end Go.Proofs.YtkofimhnehkdoaaGreatDoor.Rf
end
