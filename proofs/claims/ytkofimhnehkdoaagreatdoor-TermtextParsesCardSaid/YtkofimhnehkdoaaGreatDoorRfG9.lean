/- Widths of operators: the reference's. -/
import Derived.Test.YtkofimhnehkdoaaGreatDoorRfG8
import Derived.Test.YtkofimhnehkdoaaGreatDoorRfG6
section
set_option linter.unusedSimpArgs false
set_option linter.unusedVariables false
namespace Go.Proofs.YtkofimhnehkdoaaGreatDoor.Rf
section
variable {hp : List HObj} {lo : Nat} (q : Bool)
def wfr4 (op w v : Int) (as : List Int) (o : Own) (i : Nat) : Fr := [(0, .int .i64 op), (1, .int .i64 w), (2, .int .u64 v), (3, .list (as.map (AV.int .i64)) o), (22, .int .i64 as.length), (23, .int .i64 i)]
theorem width4_loop (op w v : Int) (as : List Int) (o : Own) (ha : as.length ≤ 9223372036854775807) (hp : List HObj) (lo : Nat) : loopD G0 IP lo l_saturateref04_Width_0 ⟨wfr4 op w v as o 0, hp⟩ =
    some (if as.all insE = false then (.ret, ⟨[(8, .int .i64 0), (9, .int .i64 3)], hp⟩) else (.exit 0, ⟨wfr4 op w v as o as.length ++ [(24, .bool false)], hp⟩)) := by
  have hloop := loop_find (G := G0) (IP := IP) (lo := lo) (b := l_saturateref04_Width_0)
    (fun i => ⟨wfr4 op w v as o i, hp⟩) as.length (fun i => !insE (as.getD i 0))
    (.ret, ⟨[(8, .int .i64 0), (9, .int .i64 3)], hp⟩)
    (.exit 0, ⟨wfr4 op w v as o as.length ++ [(24, .bool false)], hp⟩)
    (fun i hi hp => by
      have hw := wrap_succ hi ha
      simp [List.getD, hi] at hp
      simp only [wfr4]
      rw [← hw]
      simp [l_saturateref04_Width_0, hi, wid4_D, hp])
    (fun i hi hp => by
      simp [List.getD, hi] at hp
      simp [l_saturateref04_Width_0, wfr4, hi, wid4_D, hp])
    (by simp) (by simp [l_saturateref04_Width_0, wfr4]) (by simp)
  rw [any_ins] at hloop
  rw [hloop]
  cases as.all insE <;> rfl
theorem width4_bad (op w v : Int) (as : List Int) (o : Own) (h : opOk op = false ∨ (as.length : Int) ≠ arE op) : callD G0 IP n_saturateref04_Width [.int .i64 op, .int .i64 w, .int .u64 v, .list (as.map (AV.int .i64)) o] hp lo q = some (.ret (.tup [.int .i64 0, .int .i64 4]) hp) := by
  rw [callD_eq]
  by_cases hl : arE op < 0
  · simp [IP_saturateref04_Width, i_saturateref04_Width, arity4_D, hl]
  · have hl2 : ¬ (as.length : Int) = arE op := by
      rcases h with h | h
      · exact absurd (by simp [arE, h]) hl
      · exact h
    simp [IP_saturateref04_Width, i_saturateref04_Width, arity4_D, hl, hl2]
theorem width4_out (op w v : Int) (as : List Int) (o : Own) (ha : as.length ≤ 9223372036854775807) (hl : (as.length : Int) = arE op) (hall : as.all insE = false) : callD G0 IP n_saturateref04_Width [.int .i64 op, .int .i64 w, .int .u64 v, .list (as.map (AV.int .i64)) o] hp lo q = some (.ret (.tup [.int .i64 0, .int .i64 3]) hp) := by
  rw [callD_eq]
  have hloop := width4_loop op w v as o ha hp hp.length
  rw [if_pos hall] at hloop
  simp only [wfr4, Int.natCast_zero, hl] at hloop
  have hn : ¬ arE op < 0 := by omega
  simp [IP_saturateref04_Width, i_saturateref04_Width, arity4_D, hl, hn, hloop]
theorem width4_1 (w v : Int) (hv : v < 18446744073709551616)  (o : Own) (hall : List.all ([] : List Int) insE = true) : callD G0 IP n_saturateref04_Width [.int .i64 1, .int .i64 w, .int .u64 v, .list (([] : List Int).map (AV.int .i64)) o] hp lo q =
    some (.ret (.tup [.int .i64 (leafE 1 w v).1, .int .i64 (leafE 1 w v).2]) hp) := by
  rw [callD_eq]
  have hloop := width4_loop 1 w v [] o (by simp) hp hp.length
  rw [if_neg (by simp [hall])] at hloop
  simp [wfr4] at hloop
  have hb : arE 1 = 0 := rfl
  have hL : leafB 1 = true := rfl
  have e := fun (hp : List HObj) (lo : Nat) (q : Bool) => leafW4_D (hp := hp) (lo := lo) q 1 w v hv
  simp [IP_saturateref04_Width, i_saturateref04_Width, arity4_D, leaf4_D, hb, hL, hloop, e]
theorem width4_2 (w v : Int) (hv : v < 18446744073709551616)  (o : Own) (hall : List.all ([] : List Int) insE = true) : callD G0 IP n_saturateref04_Width [.int .i64 2, .int .i64 w, .int .u64 v, .list (([] : List Int).map (AV.int .i64)) o] hp lo q =
    some (.ret (.tup [.int .i64 (leafE 2 w v).1, .int .i64 (leafE 2 w v).2]) hp) := by
  rw [callD_eq]
  have hloop := width4_loop 2 w v [] o (by simp) hp hp.length
  rw [if_neg (by simp [hall])] at hloop
  simp [wfr4] at hloop
  have hb : arE 2 = 0 := rfl
  have hL : leafB 2 = true := rfl
  have e := fun (hp : List HObj) (lo : Nat) (q : Bool) => leafW4_D (hp := hp) (lo := lo) q 2 w v hv
  simp [IP_saturateref04_Width, i_saturateref04_Width, arity4_D, leaf4_D, hb, hL, hloop, e]
theorem width4_24 (w v : Int) (hv : v < 18446744073709551616)  (o : Own) (hall : List.all ([] : List Int) insE = true) : callD G0 IP n_saturateref04_Width [.int .i64 24, .int .i64 w, .int .u64 v, .list (([] : List Int).map (AV.int .i64)) o] hp lo q =
    some (.ret (.tup [.int .i64 (leafE 24 w v).1, .int .i64 (leafE 24 w v).2]) hp) := by
  rw [callD_eq]
  have hloop := width4_loop 24 w v [] o (by simp) hp hp.length
  rw [if_neg (by simp [hall])] at hloop
  simp [wfr4] at hloop
  have hb : arE 24 = 0 := rfl
  have hL : leafB 24 = true := rfl
  have e := fun (hp : List HObj) (lo : Nat) (q : Bool) => leafW4_D (hp := hp) (lo := lo) q 24 w v hv
  simp [IP_saturateref04_Width, i_saturateref04_Width, arity4_D, leaf4_D, hb, hL, hloop, e]
theorem width4_25 (w v : Int) (hv : v < 18446744073709551616)  (o : Own) (hall : List.all ([] : List Int) insE = true) : callD G0 IP n_saturateref04_Width [.int .i64 25, .int .i64 w, .int .u64 v, .list (([] : List Int).map (AV.int .i64)) o] hp lo q =
    some (.ret (.tup [.int .i64 (leafE 25 w v).1, .int .i64 (leafE 25 w v).2]) hp) := by
  rw [callD_eq]
  have hloop := width4_loop 25 w v [] o (by simp) hp hp.length
  rw [if_neg (by simp [hall])] at hloop
  simp [wfr4] at hloop
  have hb : arE 25 = 0 := rfl
  have hL : leafB 25 = true := rfl
  have e := fun (hp : List HObj) (lo : Nat) (q : Bool) => leafW4_D (hp := hp) (lo := lo) q 25 w v hv
  simp [IP_saturateref04_Width, i_saturateref04_Width, arity4_D, leaf4_D, hb, hL, hloop, e]
theorem width4_21 (w v : Int) (hv : v < 18446744073709551616) (a : Int) (o : Own) (hall : List.all ([a] : List Int) insE = true) : callD G0 IP n_saturateref04_Width [.int .i64 21, .int .i64 w, .int .u64 v, .list (([a] : List Int).map (AV.int .i64)) o] hp lo q =
    some (.ret (.tup [.int .i64 (resE 21 w v a).1, .int .i64 (resE 21 w v a).2]) hp) := by
  rw [callD_eq]
  have hloop := width4_loop 21 w v [a] o (by simp) hp hp.length
  rw [if_neg (by simp [hall])] at hloop
  simp [wfr4] at hloop
  have hb : arE 21 = 1 := rfl
  have hL : leafB 21 = false := rfl
  have ha : a ≤ 64 := by simp [insE] at hall; omega
  have e := fun (hp : List HObj) (lo : Nat) (q : Bool) => parts4_D (hp := hp) (lo := lo) q 21 w v a ha
  simp [IP_saturateref04_Width, i_saturateref04_Width, arity4_D, leaf4_D, hb, hL, hloop, e]
theorem width4_22 (w v : Int) (hv : v < 18446744073709551616) (a : Int) (o : Own) (hall : List.all ([a] : List Int) insE = true) : callD G0 IP n_saturateref04_Width [.int .i64 22, .int .i64 w, .int .u64 v, .list (([a] : List Int).map (AV.int .i64)) o] hp lo q =
    some (.ret (.tup [.int .i64 (resE 22 w v a).1, .int .i64 (resE 22 w v a).2]) hp) := by
  rw [callD_eq]
  have hloop := width4_loop 22 w v [a] o (by simp) hp hp.length
  rw [if_neg (by simp [hall])] at hloop
  simp [wfr4] at hloop
  have hb : arE 22 = 1 := rfl
  have hL : leafB 22 = false := rfl
  have ha : a ≤ 64 := by simp [insE] at hall; omega
  have e := fun (hp : List HObj) (lo : Nat) (q : Bool) => parts4_D (hp := hp) (lo := lo) q 22 w v a ha
  simp [IP_saturateref04_Width, i_saturateref04_Width, arity4_D, leaf4_D, hb, hL, hloop, e]
theorem width4_23 (w v : Int) (hv : v < 18446744073709551616) (a : Int) (o : Own) (hall : List.all ([a] : List Int) insE = true) : callD G0 IP n_saturateref04_Width [.int .i64 23, .int .i64 w, .int .u64 v, .list (([a] : List Int).map (AV.int .i64)) o] hp lo q =
    some (.ret (.tup [.int .i64 (resE 23 w v a).1, .int .i64 (resE 23 w v a).2]) hp) := by
  rw [callD_eq]
  have hloop := width4_loop 23 w v [a] o (by simp) hp hp.length
  rw [if_neg (by simp [hall])] at hloop
  simp [wfr4] at hloop
  have hb : arE 23 = 1 := rfl
  have hL : leafB 23 = false := rfl
  have ha : a ≤ 64 := by simp [insE] at hall; omega
  have e := fun (hp : List HObj) (lo : Nat) (q : Bool) => parts4_D (hp := hp) (lo := lo) q 23 w v a ha
  simp [IP_saturateref04_Width, i_saturateref04_Width, arity4_D, leaf4_D, hb, hL, hloop, e]
theorem width4_one (op : Int) (w v : Int) (hv : v < 18446744073709551616) (a : Int) (o : Own) (hall : List.all ([a] : List Int) insE = true) (hb : arE op = 1) (hL : leafB op = false) (h21 : ¬ op = 21) (h22 : ¬ op = 22) (h23 : ¬ op = 23) : callD G0 IP n_saturateref04_Width [.int .i64 op, .int .i64 w, .int .u64 v, .list (([a] : List Int).map (AV.int .i64)) o] hp lo q =
    some (.ret (.tup [.int .i64 (((a, 0) : Int × Int)).1, .int .i64 (((a, 0) : Int × Int)).2]) hp) := by
  rw [callD_eq]
  have hloop := width4_loop op w v [a] o (by simp) hp hp.length
  rw [if_neg (by simp [hall])] at hloop
  simp [wfr4] at hloop
  simp [IP_saturateref04_Width, i_saturateref04_Width, arity4_D, leaf4_D, hb, hL, hloop, h21, h22, h23]
theorem width4_20 (w v : Int) (hv : v < 18446744073709551616) (a : Int) (b : Int) (o : Own) (hall : List.all ([a, b] : List Int) insE = true) : callD G0 IP n_saturateref04_Width [.int .i64 20, .int .i64 w, .int .u64 v, .list (([a, b] : List Int).map (AV.int .i64)) o] hp lo q =
    some (.ret (.tup [.int .i64 (if 1 ≤ a ∧ 1 ≤ b ∧ a + b ≤ 64 then ((a + b, 0) : Int × Int) else (0, 3)).1, .int .i64 (if 1 ≤ a ∧ 1 ≤ b ∧ a + b ≤ 64 then ((a + b, 0) : Int × Int) else (0, 3)).2]) hp) := by
  rw [callD_eq]
  have hloop := width4_loop 20 w v [a, b] o (by simp) hp hp.length
  rw [if_neg (by simp [hall])] at hloop
  simp [wfr4] at hloop
  have hb : arE 20 = 2 := rfl
  have hL : leafB 20 = false := rfl
  have ha : 0 ≤ a ∧ a ≤ 64 ∧ 0 ≤ b ∧ b ≤ 64 := by simp [insE] at hall; omega
  have e1 : IntKind.wrap .i64 (a + b) = a + b := wrap_small (by omega) (by omega)
  by_cases h1 : a < 1
  · have g : ¬ (1 ≤ a ∧ 1 ≤ b ∧ a + b ≤ 64) := by omega
    simp only [if_neg g]
    simp [IP_saturateref04_Width, i_saturateref04_Width, arity4_D, leaf4_D, hb, hL, hloop, h1]
  · by_cases h2 : b < 1
    · have g : ¬ (1 ≤ a ∧ 1 ≤ b ∧ a + b ≤ 64) := by omega
      simp only [if_neg g]
      simp [IP_saturateref04_Width, i_saturateref04_Width, arity4_D, leaf4_D, hb, hL, hloop, h1, h2]
    · by_cases h3 : 64 < a + b
      · have g : ¬ (1 ≤ a ∧ 1 ≤ b ∧ a + b ≤ 64) := by omega
        simp only [if_neg g]
        simp [IP_saturateref04_Width, i_saturateref04_Width, arity4_D, leaf4_D, hb, hL, hloop, h1, h2, h3, e1]
      · have g : 1 ≤ a ∧ 1 ≤ b ∧ a + b ≤ 64 := by omega
        simp only [if_pos g]
        simp [IP_saturateref04_Width, i_saturateref04_Width, arity4_D, leaf4_D, hb, hL, hloop, h1, h2, h3, e1]
theorem width4_19 (w v : Int) (hv : v < 18446744073709551616) (a : Int) (b : Int) (c : Int) (o : Own) (hall : List.all ([a, b, c] : List Int) insE = true) : callD G0 IP n_saturateref04_Width [.int .i64 19, .int .i64 w, .int .u64 v, .list (([a, b, c] : List Int).map (AV.int .i64)) o] hp lo q =
    some (.ret (.tup [.int .i64 (if a = 1 ∧ b = c then ((b, 0) : Int × Int) else (0, 3)).1, .int .i64 (if a = 1 ∧ b = c then ((b, 0) : Int × Int) else (0, 3)).2]) hp) := by
  rw [callD_eq]
  have hloop := width4_loop 19 w v [a, b, c] o (by simp) hp hp.length
  rw [if_neg (by simp [hall])] at hloop
  simp [wfr4] at hloop
  have hb : arE 19 = 3 := rfl
  have hL : leafB 19 = false := rfl
  by_cases h1 : a = 1
  · subst h1
    by_cases h2 : b = c
    · subst h2
      simp [IP_saturateref04_Width, i_saturateref04_Width, arity4_D, leaf4_D, hb, hL, hloop]
    · simp [IP_saturateref04_Width, i_saturateref04_Width, arity4_D, leaf4_D, hb, hL, hloop, h2]
  · simp [IP_saturateref04_Width, i_saturateref04_Width, arity4_D, leaf4_D, hb, hL, hloop, h1]
theorem width4_16 (w v : Int) (hv : v < 18446744073709551616) (a : Int) (b : Int) (o : Own) (hall : List.all ([a, b] : List Int) insE = true) : callD G0 IP n_saturateref04_Width [.int .i64 16, .int .i64 w, .int .u64 v, .list (([a, b] : List Int).map (AV.int .i64)) o] hp lo q =
    some (.ret (.tup [.int .i64 (if a = b then ((1, 0) : Int × Int) else (0, 3)).1, .int .i64 (if a = b then ((1, 0) : Int × Int) else (0, 3)).2]) hp) := by
  rw [callD_eq]
  have hloop := width4_loop 16 w v [a, b] o (by simp) hp hp.length
  rw [if_neg (by simp [hall])] at hloop
  simp [wfr4] at hloop
  have hb : arE 16 = 2 := rfl
  have hL : leafB 16 = false := rfl
  by_cases h1 : a = b
  · subst h1
    simp [IP_saturateref04_Width, i_saturateref04_Width, arity4_D, leaf4_D, hb, hL, hloop]
  · simp [IP_saturateref04_Width, i_saturateref04_Width, arity4_D, leaf4_D, hb, hL, hloop, h1]
theorem width4_17 (w v : Int) (hv : v < 18446744073709551616) (a : Int) (b : Int) (o : Own) (hall : List.all ([a, b] : List Int) insE = true) : callD G0 IP n_saturateref04_Width [.int .i64 17, .int .i64 w, .int .u64 v, .list (([a, b] : List Int).map (AV.int .i64)) o] hp lo q =
    some (.ret (.tup [.int .i64 (if a = b then ((1, 0) : Int × Int) else (0, 3)).1, .int .i64 (if a = b then ((1, 0) : Int × Int) else (0, 3)).2]) hp) := by
  rw [callD_eq]
  have hloop := width4_loop 17 w v [a, b] o (by simp) hp hp.length
  rw [if_neg (by simp [hall])] at hloop
  simp [wfr4] at hloop
  have hb : arE 17 = 2 := rfl
  have hL : leafB 17 = false := rfl
  by_cases h1 : a = b
  · subst h1
    simp [IP_saturateref04_Width, i_saturateref04_Width, arity4_D, leaf4_D, hb, hL, hloop]
  · simp [IP_saturateref04_Width, i_saturateref04_Width, arity4_D, leaf4_D, hb, hL, hloop, h1]
theorem width4_18 (w v : Int) (hv : v < 18446744073709551616) (a : Int) (b : Int) (o : Own) (hall : List.all ([a, b] : List Int) insE = true) : callD G0 IP n_saturateref04_Width [.int .i64 18, .int .i64 w, .int .u64 v, .list (([a, b] : List Int).map (AV.int .i64)) o] hp lo q =
    some (.ret (.tup [.int .i64 (if a = b then ((1, 0) : Int × Int) else (0, 3)).1, .int .i64 (if a = b then ((1, 0) : Int × Int) else (0, 3)).2]) hp) := by
  rw [callD_eq]
  have hloop := width4_loop 18 w v [a, b] o (by simp) hp hp.length
  rw [if_neg (by simp [hall])] at hloop
  simp [wfr4] at hloop
  have hb : arE 18 = 2 := rfl
  have hL : leafB 18 = false := rfl
  by_cases h1 : a = b
  · subst h1
    simp [IP_saturateref04_Width, i_saturateref04_Width, arity4_D, leaf4_D, hb, hL, hloop]
  · simp [IP_saturateref04_Width, i_saturateref04_Width, arity4_D, leaf4_D, hb, hL, hloop, h1]
theorem width4_two (op : Int) (w v : Int) (hv : v < 18446744073709551616) (a : Int) (b : Int) (o : Own) (hall : List.all ([a, b] : List Int) insE = true) (hb : arE op = 2) (hL : leafB op = false) (h21 : ¬ op = 21) (h22 : ¬ op = 22) (h23 : ¬ op = 23) (h20 : ¬ op = 20) (h19 : ¬ op = 19) (h16 : ¬ op = 16) (h17 : ¬ op = 17) (h18 : ¬ op = 18) : callD G0 IP n_saturateref04_Width [.int .i64 op, .int .i64 w, .int .u64 v, .list (([a, b] : List Int).map (AV.int .i64)) o] hp lo q =
    some (.ret (.tup [.int .i64 (if a = b then ((a, 0) : Int × Int) else (0, 3)).1, .int .i64 (if a = b then ((a, 0) : Int × Int) else (0, 3)).2]) hp) := by
  rw [callD_eq]
  have hloop := width4_loop op w v [a, b] o (by simp) hp hp.length
  rw [if_neg (by simp [hall])] at hloop
  simp [wfr4] at hloop
  by_cases h1 : a = b
  · subst h1
    simp [IP_saturateref04_Width, i_saturateref04_Width, arity4_D, leaf4_D, hb, hL, hloop, h21, h22, h23, h20, h19, h16, h17, h18]
  · simp [IP_saturateref04_Width, i_saturateref04_Width, arity4_D, leaf4_D, hb, hL, hloop, h21, h22, h23, h20, h19, h16, h17, h18, h1]
theorem width4_D (op w v : Int) (hv : v < 18446744073709551616) (as : List Int) (o : Own) (ha : as.length ≤ 9223372036854775807) : callD G0 IP n_saturateref04_Width [.int .i64 op, .int .i64 w, .int .u64 v, .list (as.map (AV.int .i64)) o] hp lo q =
    some (.ret (.tup [.int .i64 (widE op w v as).1, .int .i64 (widE op w v as).2]) hp) := by
  by_cases h : opOk op = false ∨ (as.length : Int) ≠ arE op
  · rw [width4_bad q op w v as o h, widE, if_pos h]
  · have hk : opOk op = true := by cases hk : opOk op <;> simp_all
    have hl : (as.length : Int) = arE op := Decidable.byContradiction fun e => h (.inr e)
    cases hall : as.all insE with
    | false => rw [width4_out q op w v as o ha hl hall, widE, if_neg h, if_pos hall]
    | true =>
      rw [widE_in h hall]
      rcases opOk_cases hk with rfl | rfl | rfl | rfl | rfl | rfl | rfl | rfl | rfl | rfl | rfl | rfl | rfl | rfl | rfl | rfl | rfl | rfl | rfl | rfl | rfl | rfl | rfl | rfl | rfl | rfl
      · obtain rfl := len0 hl; exact width4_1 q w v hv o hall
      · obtain rfl := len0 hl; exact width4_2 q w v hv o hall
      · obtain ⟨a, rfl⟩ := len1 hl; exact width4_one q 3 w v hv a o hall rfl rfl (by decide) (by decide) (by decide)
      · obtain ⟨a, rfl⟩ := len1 hl; exact width4_one q 4 w v hv a o hall rfl rfl (by decide) (by decide) (by decide)
      · obtain ⟨a, b, rfl⟩ := len2 hl; exact width4_two q 5 w v hv a b o hall rfl rfl (by decide) (by decide) (by decide) (by decide) (by decide) (by decide) (by decide) (by decide)
      · obtain ⟨a, b, rfl⟩ := len2 hl; exact width4_two q 6 w v hv a b o hall rfl rfl (by decide) (by decide) (by decide) (by decide) (by decide) (by decide) (by decide) (by decide)
      · obtain ⟨a, b, rfl⟩ := len2 hl; exact width4_two q 7 w v hv a b o hall rfl rfl (by decide) (by decide) (by decide) (by decide) (by decide) (by decide) (by decide) (by decide)
      · obtain ⟨a, b, rfl⟩ := len2 hl; exact width4_two q 8 w v hv a b o hall rfl rfl (by decide) (by decide) (by decide) (by decide) (by decide) (by decide) (by decide) (by decide)
      · obtain ⟨a, b, rfl⟩ := len2 hl; exact width4_two q 9 w v hv a b o hall rfl rfl (by decide) (by decide) (by decide) (by decide) (by decide) (by decide) (by decide) (by decide)
      · obtain ⟨a, b, rfl⟩ := len2 hl; exact width4_two q 10 w v hv a b o hall rfl rfl (by decide) (by decide) (by decide) (by decide) (by decide) (by decide) (by decide) (by decide)
      · obtain ⟨a, b, rfl⟩ := len2 hl; exact width4_two q 11 w v hv a b o hall rfl rfl (by decide) (by decide) (by decide) (by decide) (by decide) (by decide) (by decide) (by decide)
      · obtain ⟨a, b, rfl⟩ := len2 hl; exact width4_two q 12 w v hv a b o hall rfl rfl (by decide) (by decide) (by decide) (by decide) (by decide) (by decide) (by decide) (by decide)
      · obtain ⟨a, b, rfl⟩ := len2 hl; exact width4_two q 13 w v hv a b o hall rfl rfl (by decide) (by decide) (by decide) (by decide) (by decide) (by decide) (by decide) (by decide)
      · obtain ⟨a, b, rfl⟩ := len2 hl; exact width4_two q 14 w v hv a b o hall rfl rfl (by decide) (by decide) (by decide) (by decide) (by decide) (by decide) (by decide) (by decide)
      · obtain ⟨a, b, rfl⟩ := len2 hl; exact width4_two q 15 w v hv a b o hall rfl rfl (by decide) (by decide) (by decide) (by decide) (by decide) (by decide) (by decide) (by decide)
      · obtain ⟨a, b, rfl⟩ := len2 hl; exact width4_16 q w v hv a b o hall
      · obtain ⟨a, b, rfl⟩ := len2 hl; exact width4_17 q w v hv a b o hall
      · obtain ⟨a, b, rfl⟩ := len2 hl; exact width4_18 q w v hv a b o hall
      · obtain ⟨a, b, c, rfl⟩ := len3 hl; exact width4_19 q w v hv a b c o hall
      · obtain ⟨a, b, rfl⟩ := len2 hl; exact width4_20 q w v hv a b o hall
      · obtain ⟨a, rfl⟩ := len1 hl; exact width4_21 q w v hv a o hall
      · obtain ⟨a, rfl⟩ := len1 hl; exact width4_22 q w v hv a o hall
      · obtain ⟨a, rfl⟩ := len1 hl; exact width4_23 q w v hv a o hall
      · obtain rfl := len0 hl; exact width4_24 q w v hv o hall
      · obtain rfl := len0 hl; exact width4_25 q w v hv o hall
      · obtain ⟨a, rfl⟩ := len1 hl; exact width4_one q 26 w v hv a o hall rfl rfl (by decide) (by decide) (by decide)
end
end Go.Proofs.YtkofimhnehkdoaaGreatDoor.Rf
end
section
/- Numbers read: errors, the program's own functions. -/
set_option linter.unusedSimpArgs false
set_option linter.unusedVariables false
namespace Go.Proofs.YtkofimhnehkdoaaGreatDoor.Rf
section
variable {hp : List HObj} {lo : Nat} (q : Bool)
theorem bytesOf_map : ∀ s : List UInt8, bytesOf (s.map fun b => AV.int .u8 b.toNat) = some s
  | [] => rfl
  | b :: r => by
    have h := bytesOf_map r
    have h1 : (b.toNat : Int) < 256 := by have := b.toNat_lt; omega
    simp only [List.map_cons, bytesOf]
    rw [if_pos ⟨by omega, h1⟩, h]
    simp
theorem clone_D (s : List UInt8) (hs : s.length ≤ 140737488355328) : callD G0 IP n_internal_stringslite_Clone [.str s] hp lo q = some (.ret (.str s) hp) := by
  rw [callD_eq]
  by_cases h0 : s = []
  · subst h0
    simp [IP_internal_stringslite_Clone, i_internal_stringslite_Clone]
  · have hl : s.length ≠ 0 := fun e => h0 (List.length_eq_zero_iff.1 e)
    have h1 : (0 : Int) < (s.length : Int) := by omega
    have h2 : (s.length : Int) ≤ 9223372036854775807 := by omega
    have h3 : s.length ≤ s.length := Nat.le_refl _
    have hb := bytesOf_map s
    have htk : List.take s.length (s.map fun b => AV.int .u8 b.toNat) = s.map fun b => AV.int .u8 b.toNat := List.take_of_length_le (by simp)
    simp [IP_internal_stringslite_Clone, i_internal_stringslite_Clone, h0, hl, h1, h2, hs, hb, htk, Nat.pos_of_ne_zero hl]
theorem rangeError_D (f s : List UInt8) (hs : s.length ≤ 140737488355328) : callD G0 IP n_strconv_rangeError [.str f, .str s] hp lo false = some (.ret (.ptr hp.length 0) (hp ++ [.cells 0 [.str f, .str s, .iface 222 .none]])) := by
  rw [callD_eq]
  have e := fun (hp : List HObj) (lo : Nat) (q : Bool) => clone_D (hp := hp) (lo := lo) q s hs
  simp [IP_strconv_rangeError, i_strconv_rangeError, e, G0_7, g_7]
theorem toError_D (f s : List UInt8) (hs : s.length ≤ 140737488355328) (b c : Int) : callD G0 IP n_strconv_toError [.str f, .str s, .int .i64 b, .int .i64 c, .iface 211 (.int .i64 1)] hp lo false = some (.ret (.iface 213 (.ptr hp.length 0)) (hp ++ [.cells 0 [.str f, .str s, .iface 222 .none]])) := by
  rw [callD_eq]
  have e := fun (hp : List HObj) (lo : Nat) => rangeError_D (hp := hp) (lo := lo) f s hs
  simp [IP_strconv_toError, i_strconv_toError, e]
theorem parseUint_D (s : List UInt8) (hs : s.length ≤ 140737488355328) (h0 : s ≠ []) (hd : s.all isDig = true) : ∃ hp', callD G0 IP n_strconv_ParseUint [.str s, .int .i64 10, .int .i64 64] hp lo false =
    some (.ret (if 18446744073709551616 ≤ digVal s then .tup [.int .u64 18446744073709551615, .iface 213 (.ptr hp.length 0)] else .tup [.int .u64 (digVal s), .nili]) hp') := by
  have e := fun (hp : List HObj) (lo : Nat) => parseUintI_D (hp := hp) (lo := lo) s hs h0 hd
  have e2 := fun (f : List UInt8) (hp : List HObj) (lo : Nat) (b c : Int) => toError_D (hp := hp) (lo := lo) f s hs b c
  by_cases hv : 18446744073709551616 ≤ digVal s
  · refine ⟨hp ++ [.cells 0 [.str [80, 97, 114, 115, 101, 85, 105, 110, 116], .str s, .iface 222 .none]], ?_⟩
    rw [callD_eq]
    simp only [pU, if_pos hv] at e ⊢
    simp [IP_strconv_ParseUint, i_strconv_ParseUint, e, e2]
  · refine ⟨hp, ?_⟩
    rw [callD_eq]
    simp only [pU, if_neg hv] at e ⊢
    simp [IP_strconv_ParseUint, i_strconv_ParseUint, e, e2]
theorem digitsParse_D (s : List UInt8) (hs : s.length ≤ 140737488355328) (hx : hasPre s [48, 120] = false) : callD G0 IP n_digits_Parse [.str s] hp lo q = some (.ret (.tup [.int .u64 (numE s).1, .int .i64 (numE s).2]) hp) := by
  rw [callD_eq]
  have e1 := fun (hp : List HObj) (lo : Nat) (q : Bool) => numeral_D (hp := hp) (lo := lo) q s (by omega)
  cases hn : numOk s with
  | false => simp [IP_digits_Parse, i_digits_Parse, cutPre_D, hx, e1, hn, numE]
  | true =>
    obtain ⟨h0, hd⟩ := numE_nonempty hn
    obtain ⟨hp', e2⟩ := parseUint_D (hp := hp) (lo := hp.length) s hs h0 hd
    by_cases hv : 18446744073709551616 ≤ digVal s
    · rw [if_pos hv] at e2
      simp [IP_digits_Parse, i_digits_Parse, cutPre_D, hx, e1, hn, numE, e2, hv]
    · rw [if_neg hv] at e2
      simp [IP_digits_Parse, i_digits_Parse, cutPre_D, hx, e1, hn, numE, e2, hv]
theorem numOk_0x {s : List UInt8} (h : hasPre s [48, 120] = true) : numOk s = false := by
  simp only [hasPre, Bool.and_eq_true, decide_eq_true_eq] at h
  match s, h with
  | a :: b :: r, ⟨_, h⟩ =>
    simp at h
    obtain ⟨rfl, rfl⟩ := h
    simp [numOk]
theorem ttNumeral_D (s : List UInt8) (hs : s.length ≤ 140737488355328) : callD G0 IP n_termtext_numeral [.str s] hp lo q = some (.ret (.tup [.int .u64 (numE s).1, .int .i64 (numE s).2]) hp) := by
  rw [callD_eq]
  cases hx : hasPre s [48, 120] with
  | true => simp [IP_termtext_numeral, i_termtext_numeral, hasPre_D, hx, numE, numOk_0x hx]
  | false =>
    have e := fun (hp : List HObj) (lo : Nat) (q : Bool) => digitsParse_D (hp := hp) (lo := lo) q s hs hx
    simp [IP_termtext_numeral, i_termtext_numeral, hasPre_D, hx, e]
/-! ## the reference -/
theorem digit2_D (c : UInt8) : callD G0 IP n_saturateref02_digit [.int .u8 c.toNat, .int .u64 10] hp lo q = some (.ret (.int .i64 (if isDig c then (c.toNat : Int) - 48 else -1)) hp) := by
  rw [callD_eq]
  have hlt := c.toNat_lt
  by_cases h1 : (48 : Int) ≤ (c.toNat : Int)
  · by_cases h2 : (c.toNat : Int) ≤ 57
    · have h3 : isDig c = true := by simp [isDig]; omega
      have e1 : IntKind.wrap .u8 ((c.toNat : Int) - 48) = (c.toNat : Int) - 48 := wrap8_small (by omega) (by omega)
      have e2 : IntKind.wrap .i64 ((c.toNat : Int) - 48) = (c.toNat : Int) - 48 := wrap_small (by omega) (by omega)
      simp [IP_saturateref02_digit, i_saturateref02_digit, h1, h2, h3, e1, e2]
    · have h3 : isDig c = false := by simp [isDig]; omega
      simp [IP_saturateref02_digit, i_saturateref02_digit, h1, h2, h3]
  · have h3 : isDig c = false := by simp [isDig]; omega
    simp [IP_saturateref02_digit, i_saturateref02_digit, h1, h3]
theorem over_step {V d : Nat} (hd : d ≤ 9) : (decide (18446744073709551616 ≤ V) || decide (((V : Int) % 18446744073709551616) > (18446744073709551615 - (d : Int)).tdiv 10)) = decide (18446744073709551616 ≤ 10 * V + d) := by
  rw [Int.tdiv_eq_ediv_of_nonneg (by omega)]
  by_cases h : 18446744073709551616 ≤ V
  · have h2 : 18446744073709551616 ≤ 10 * V + d := by omega
    simp only [h, h2, decide_true, Bool.true_or]
  · have h1 : (V : Int) % 18446744073709551616 = V := by omega
    rw [h1]
    by_cases h2 : 18446744073709551616 ≤ 10 * V + d
    · have h3 : (V : Int) > (18446744073709551615 - (d : Int)) / 10 := by omega
      simp only [h, h2, h3, decide_true, decide_false, Bool.or_true]
    · have h3 : ¬ (V : Int) > (18446744073709551615 - (d : Int)) / 10 := by omega
      simp only [h, h2, h3, decide_false, Bool.or_self]
theorem number2_D (s : List UInt8) (hs : s.length ≤ 9223372036854775807) : callD G0 IP n_saturateref02_number [.str s, .int .u64 10] hp lo q = some (.ret (.tup [.int .u64 (numE s).1, .int .i64 (numE s).2]) hp) := by
  rw [callD_eq]
  cases s with
  | nil => simp [IP_saturateref02_number, i_saturateref02_number, numE, numOk]
  | cons a r =>
    generalize hse : a :: r = s at *
    have hne : s ≠ [] := by rw [← hse]; simp
    have h0 : s[0]? = some a := by rw [← hse]; rfl
    have hh : s.head? = some a := by rw [← hse]; rfl
    have hemp : s.isEmpty = false := by rw [← hse]; rfl
    have hloop := loop_find (G := G0) (IP := IP) (lo := hp.length) (b := l_saturateref02_number_0)
      (fun i => ⟨[(0, .str s), (1, .int .u64 10), (6, .int .u64 ((digVal (s.take i) : Int) % 18446744073709551616)), (7, .bool (decide (18446744073709551616 ≤ digVal (s.take i)))), (8, .int .i64 i)], hp⟩) s.length (fun i => !isDig (s.getD i 0))
      (.ret, ⟨[(4, .int .u64 0), (5, .int .i64 6)], hp⟩) (.exit 0, ⟨[(0, .str s), (1, .int .u64 10), (6, .int .u64 ((digVal s : Int) % 18446744073709551616)), (7, .bool (decide (18446744073709551616 ≤ digVal s))), (8, .int .i64 s.length), (25, .bool false)], hp⟩)
      (fun i hi hp => by
        have hw := wrap_succ hi hs
        simp [List.getD, hi] at hp
        have hd : 48 ≤ s[i].toNat ∧ s[i].toNat ≤ 57 := by simpa [isDig] using hp
        have ht := digVal_take hi
        obtain ⟨d, hdd, hd9⟩ : ∃ d : Nat, s[i].toNat = d + 48 ∧ d ≤ 9 := ⟨s[i].toNat - 48, by omega, by omega⟩
        have ht' : digVal (s.take (i + 1)) = 10 * digVal (s.take i) + d := by omega
        have hD : ((s[i].toNat : Int) - 48) = (d : Int) := by omega
        have e0 := digit2_D (hp := ‹List HObj›) (lo := (‹List HObj›).length) false s[i]
        rw [if_pos hp, hD] at e0
        have e1 : ¬ ((d : Int) < 0) := by omega
        have e2 : IntKind.wrap .u64 (d : Int) = d := wrapU_small (by omega) (by omega)
        have e3 : IntKind.wrap .u64 (18446744073709551615 - (d : Int)) = 18446744073709551615 - (d : Int) := wrapU_small (by omega) (by omega)
        have e4 : IntKind.wrap .u64 ((18446744073709551615 - (d : Int)).tdiv 10) = (18446744073709551615 - (d : Int)).tdiv 10 := by
          rw [Int.tdiv_eq_ediv_of_nonneg (by omega)]; exact wrapU_small (by omega) (by omega)
        have e5 := over_step (V := digVal (s.take i)) hd9
        have e6 : IntKind.wrap .u64 (IntKind.wrap .u64 (10 * ((digVal (s.take i) : Int) % 18446744073709551616)) + (d : Int)) = ((digVal (s.take (i + 1)) : Int) % 18446744073709551616) := by
          rw [wrapU, wrapU, ht']; omega
        rw [← hw, ← e6, show decide (18446744073709551616 ≤ digVal (s.take (i + 1))) = decide (18446744073709551616 ≤ 10 * digVal (s.take i) + d) by rw [ht'], ← e5]
        cases hv : decide (18446744073709551616 ≤ digVal (s.take i)) with
        | true =>
          generalize ((digVal (s.take i) : Int) % 18446744073709551616) = X at *
          simp [l_saturateref02_number_0, hi, show (i : Int) < (s.length : Int) by omega, e0, e1, e2]
        | false =>
          generalize ((digVal (s.take i) : Int) % 18446744073709551616) = X at *
          simp [l_saturateref02_number_0, hi, show (i : Int) < (s.length : Int) by omega, e0, e1, e2, e3, e4])
      (fun i hi hp => by
        simp [List.getD, hi] at hp
        have e0 := digit2_D (hp := ‹List HObj›) (lo := (‹List HObj›).length) false s[i]
        rw [if_neg (by simp [hp])] at e0
        simp [l_saturateref02_number_0, hi, show (i : Int) < (s.length : Int) by omega, e0])
      (by simp) (by simp [l_saturateref02_number_0]) (by simp)
    rw [any_range_isDig] at hloop
    have z1 : decide (18446744073709551616 ≤ digVal (s.take 0)) = false := by
      have : digVal (s.take 0) = 0 := rfl
      rw [this]; exact decide_eq_false (by omega)
    have z2 : ((digVal (s.take 0) : Int) % 18446744073709551616) = 0 := rfl
    simp only [z1, z2, Int.natCast_zero] at hloop
    by_cases ha : a = 48
    · subst ha
      by_cases hl : (1 : Int) < (s.length : Int)
      · have hl' : 1 < s.length := by omega
        simp [IP_saturateref02_number, i_saturateref02_number, numE, numOk, hne, h0, hl, hl', hh, hemp]
      · have hl' : ¬ 1 < s.length := by omega
        cases hd : s.all isDig with
        | false => simp [IP_saturateref02_number, i_saturateref02_number, numE, numOk, hne, h0, hl, hl', hh, hemp, hloop, hd]
        | true =>
          by_cases hv : 18446744073709551616 ≤ digVal s
          · simp [IP_saturateref02_number, i_saturateref02_number, numE, numOk, hne, h0, hl, hl', hh, hemp, hloop, hd, hv]
          · have hm : ((digVal s : Int) % 18446744073709551616) = digVal s := by omega
            simp [IP_saturateref02_number, i_saturateref02_number, numE, numOk, hne, h0, hl, hl', hh, hemp, hloop, hd, hv, hm]
    · have ha' : ¬ (a.toNat : Int) = 48 := by intro e; apply ha; apply UInt8.toNat_inj.1; simp; omega
      cases hd : s.all isDig with
      | false => simp [IP_saturateref02_number, i_saturateref02_number, numE, numOk, hne, h0, ha, ha', hh, hemp, hloop, hd]
      | true =>
        by_cases hv : 18446744073709551616 ≤ digVal s
        · simp [IP_saturateref02_number, i_saturateref02_number, numE, numOk, hne, h0, ha, ha', hh, hemp, hloop, hd, hv]
        · have hm : ((digVal s : Int) % 18446744073709551616) = digVal s := by omega
          simp [IP_saturateref02_number, i_saturateref02_number, numE, numOk, hne, h0, ha, ha', hh, hemp, hloop, hd, hv, hm]
theorem parse2x_D (s : List UInt8) (hs : s.length ≤ 9223372036854775807) (hx : hasPre s [48, 120] = false) : callD G0 IP n_saturateref02_Parse [.str s] hp lo q = some (.ret (.tup [.int .u64 (numE s).1, .int .i64 (numE s).2]) hp) := by
  rw [callD_eq]
  have e := fun (hp : List HObj) (lo : Nat) (q : Bool) => number2_D (hp := hp) (lo := lo) q s hs
  by_cases hl : (2 : Int) < (s.length : Int)
  · have hl' : 2 ≤ s.length := by omega
    have hx' : ¬ s.take 2 = [48, 120] := by
      intro h; simp [hasPre, h] at hx; omega
    simp [IP_saturateref02_Parse, i_saturateref02_Parse, hl, hl', hx', e]
  · simp [IP_saturateref02_Parse, i_saturateref02_Parse, hl, e]
theorem number7_D (s : List UInt8) (hs : s.length ≤ 9223372036854775807) : callD G0 IP n_saturateref07_Number [.str s] hp lo q = some (.ret (.tup [.int .u64 (numE s).1, .int .i64 (numE s).2]) hp) := by
  rw [callD_eq]
  cases s with
  | nil => simp [IP_saturateref07_Number, i_saturateref07_Number, numE, numOk]
  | cons a r =>
    generalize hse : a :: r = s at *
    have hne : s ≠ [] := by rw [← hse]; simp
    have hnl : s.length ≠ 0 := by rw [← hse]; simp
    have h0 : s[0]? = some a := by rw [← hse]; rfl
    have hh : s.head? = some a := by rw [← hse]; rfl
    have hemp : s.isEmpty = false := by rw [← hse]; rfl
    have hloop := loop_find (G := G0) (IP := IP) (lo := hp.length) (b := l_saturateref07_Number_0)
      (fun i => ⟨[(0, .str s), (4, .int .i64 i)], hp⟩) s.length (fun i => !isDig (s.getD i 0))
      (.ret, ⟨[(2, .int .u64 0), (3, .int .i64 6)], hp⟩) (.exit 0, ⟨[(0, .str s), (4, .int .i64 s.length), (21, .bool false)], hp⟩)
      (fun i hi hp => by
        have hw := wrap_succ hi hs
        simp [List.getD, hi] at hp
        have hd : 48 ≤ s[i].toNat ∧ s[i].toNat ≤ 57 := by simpa [isDig] using hp
        rw [← hw]
        simp [l_saturateref07_Number_0, hi, show (i : Int) < (s.length : Int) by omega, show ¬ ((s[i].toNat : Int) < 48) by omega, show ¬ (57 : Int) < (s[i].toNat : Int) by omega])
      (fun i hi hp => by
        simp [List.getD, hi] at hp
        by_cases h1 : (s[i].toNat : Int) < 48
        · simp [l_saturateref07_Number_0, hi, show (i : Int) < (s.length : Int) by omega, h1]
        · have h2 : (57 : Int) < (s[i].toNat : Int) := by simp [isDig] at hp; omega
          simp [l_saturateref07_Number_0, hi, show (i : Int) < (s.length : Int) by omega, h1, h2])
      (by simp) (by simp [l_saturateref07_Number_0]) (by simp)
    rw [any_range_isDig] at hloop
    simp only [Int.natCast_zero] at hloop
    have tail : s.all isDig = true → ∀ (hp : List HObj) (lo : Nat) (q : Bool), callD G0 IP n_saturateref02_Parse [.str s] hp lo q = some (.ret (.tup [.int .u64 (numE s).1, .int .i64 (numE s).2]) hp) := fun hd hp lo q => by
      refine parse2x_D q s hs ?_
      cases hx : hasPre s [48, 120] with
      | false => rfl
      | true =>
        exfalso
        have h1 := numOk_0x hx
        simp only [hasPre, Bool.and_eq_true, decide_eq_true_eq] at hx
        have h2 : (120 : UInt8) ∈ s := by
          have : (120 : UInt8) ∈ s.take 2 := by
            have := hx.2; simp at this; rw [this]; simp
          exact List.mem_of_mem_take this
        have := List.all_eq_true.1 hd _ h2
        simp [isDig] at this
    by_cases hl : (1 : Int) < (s.length : Int)
    · have hl' : 1 < s.length := by omega
      by_cases ha : a = 48
      · subst ha
        simp [IP_saturateref07_Number, i_saturateref07_Number, numE, numOk, hne, hnl, h0, hl, hl', hh, hemp]
      · have ha' : ¬ (a.toNat : Int) = 48 := by intro e; apply ha; apply UInt8.toNat_inj.1; simp; omega
        cases hd : s.all isDig with
        | false => simp [IP_saturateref07_Number, i_saturateref07_Number, numE, numOk, hne, hnl, h0, hl, hl', ha, ha', hh, hemp, hloop, hd]
        | true => simp [IP_saturateref07_Number, i_saturateref07_Number, hne, hnl, h0, hl, hl', ha, ha', hh, hemp, hloop, hd, tail hd]
    · have hl' : ¬ 1 < s.length := by omega
      cases hd : s.all isDig with
      | false => simp [IP_saturateref07_Number, i_saturateref07_Number, numE, numOk, hne, hnl, h0, hl, hl', hh, hemp, hloop, hd]
      | true => simp [IP_saturateref07_Number, i_saturateref07_Number, hne, hnl, h0, hl, hl', hh, hemp, hloop, hd, tail hd]
end
end Go.Proofs.YtkofimhnehkdoaaGreatDoor.Rf
end
section
/- Terms. -/
set_option linter.unusedSimpArgs false
set_option linter.unusedVariables false
namespace Go.Proofs.YtkofimhnehkdoaaGreatDoor.Rf

inductive T where
  | mk (op width val : Int) (name : List UInt8) (o : Bool) (args : List T)
namespace T
def op : T → Int | .mk a _ _ _ _ _ => a
def width : T → Int | .mk _ a _ _ _ _ => a
def val : T → Int | .mk _ _ a _ _ _ => a
def name : T → List UInt8 | .mk _ _ _ a _ _ => a
def o : T → Bool | .mk _ _ _ _ a _ => a
def args : T → List T | .mk _ _ _ _ _ a => a
end T
mutual
def T.av : T → AV
  | .mk op w v n o as => .agg [.int .i64 op, .int .i64 w, .int .u64 v, .str n, .list (T.avs as) (ownB o)]
def T.avs : List T → List AV
  | [] => []
  | t :: r => t.av :: T.avs r
end
theorem T.av_eq (t : T) : t.av = .agg [.int .i64 t.op, .int .i64 t.width, .int .u64 t.val, .str t.name, .list (T.avs t.args) (ownB t.o)] := by cases t; rfl
abbrev T.cells (t : T) : List AV := [.int .i64 t.op, .int .i64 t.width, .int .u64 t.val, .str t.name, .list (T.avs t.args) (ownB t.o)]
theorem T.avs_eq : ∀ as : List T, T.avs as = as.map T.av
  | [] => rfl
  | t :: r => by simp [T.avs, T.avs_eq r]
@[simp] theorem T.avs_len (as : List T) : (T.avs as).length = as.length := by simp [T.avs_eq]
@[simp] theorem T.avs_getElem {as : List T} {i : Nat} (h : i < (T.avs as).length) : (T.avs as)[i] = (as[i]'(by simpa using h)).av := by simp [T.avs_eq]
theorem T.avs_get {as : List T} {i : Nat} (h : i < as.length) : (T.avs as)[i]? = some as[i].av := by simp [T.avs_eq, h]
mutual
def T.wf : T → Prop
  | .mk op w v n o as => (Lit.int .i64 op).wf = true ∧ (Lit.int .i64 w).wf = true ∧ (Lit.int .u64 v).wf = true ∧ n.length ≤ 9223372036854775807 ∧ as.length ≤ 9223372036854775807 ∧ (o = true → as = []) ∧ T.wfs as
def T.wfs : List T → Prop
  | [] => True
  | t :: r => t.wf ∧ T.wfs r
end
theorem T.wfs_iff : ∀ as : List T, T.wfs as ↔ ∀ t, t ∈ as → t.wf
  | [] => by simp [T.wfs]
  | t :: r => by simp [T.wfs, T.wfs_iff r]
theorem T.wf_eq (t : T) : t.wf ↔ (Lit.int .i64 t.op).wf = true ∧ (Lit.int .i64 t.width).wf = true ∧ (Lit.int .u64 t.val).wf = true ∧ t.name.length ≤ 9223372036854775807 ∧ t.args.length ≤ 9223372036854775807 ∧ (t.o = true → t.args = []) ∧ ∀ u, u ∈ t.args → u.wf := by
  cases t; simp only [T.wf, T.op, T.width, T.val, T.name, T.args, T.o, T.wfs_iff]
mutual
def T.same : T → T → Bool
  | .mk a b c d _ as, .mk a' b' c' d' _ as' => a == a' && (b == b' && (c == c' && (d == d' && T.sames as as')))
def T.sames : List T → List T → Bool
  | [], [] => true
  | t :: r, u :: s => t.same u && T.sames r s
  | [], _ :: _ => false
  | _ :: _, [] => false
end
theorem T.same_eq (t u : T) : t.same u = (t.op == u.op && (t.width == u.width && (t.val == u.val && (t.name == u.name && T.sames t.args u.args)))) := by cases t; cases u; rfl
theorem T.sames_eq : ∀ (as bs : List T) (h : as.length = bs.length), T.sames as bs = !(List.range as.length).any fun i => !(as.getD i (.mk 0 0 0 [] true [])).same (bs.getD i (.mk 0 0 0 [] true []))
  | [], [], _ => rfl
  | t :: r, u :: s, h => by
    rw [T.sames, T.sames_eq r s (by simpa using h), List.length_cons, List.range_succ_eq_map]
    simp [List.any_map, Function.comp_def]
  | [], _ :: _, h => by simp at h
  | _ :: _, [], h => by simp at h
theorem T.sames_len : ∀ (as bs : List T), as.length ≠ bs.length → T.sames as bs = false
  | [], [], h => by simp at h
  | t :: r, u :: s, h => by rw [T.sames, T.sames_len r s (by simpa using h), Bool.and_false]
  | [], _ :: _, h => rfl
  | _ :: _, [], h => rfl
mutual
def T.size : T → Nat
  | .mk _ _ _ _ _ as => 1 + T.sizes as
def T.sizes : List T → Nat
  | [] => 0
  | t :: r => t.size + T.sizes r
end
theorem T.size_eq (t : T) : t.size = 1 + T.sizes t.args := by cases t; rfl
theorem T.sizes_app : ∀ a b : List T, T.sizes (a ++ b) = T.sizes a + T.sizes b
  | [], b => by simp [T.sizes]
  | t :: r, b => by simp [T.sizes, T.sizes_app r b]; omega
theorem T.sizes_take {as : List T} {i : Nat} (h : i < as.length) : T.sizes (as.take (i + 1)) = T.sizes (as.take i) + as[i].size := by
  rw [List.take_succ_eq_append_getElem h, T.sizes_app]; simp [T.sizes]
theorem T.sizes_take_le (as : List T) (i : Nat) : T.sizes (as.take i) ≤ T.sizes as := by
  have := T.sizes_app (as.take i) (as.drop i); rw [List.take_append_drop] at this; omega
theorem T.ind {p : T → Prop} (h : ∀ t : T, (∀ u, u ∈ t.args → p u) → p t) (t : T) : p t :=
  T.rec (motive_1 := p) (motive_2 := fun as => ∀ u, u ∈ as → p u) (fun a b c d e as ih => h _ ih) (fun u hu => by simp at hu)
    (fun t r h1 h2 u hu => by
      rcases List.mem_cons.1 hu with e | hu
      · rw [e]; exact h1
      · exact h2 u hu) t
end Go.Proofs.YtkofimhnehkdoaaGreatDoor.Rf
end
section
/- What the reader of terms computes. -/
set_option linter.unusedSimpArgs false
set_option linter.unusedVariables false
namespace Go.Proofs.YtkofimhnehkdoaaGreatDoor.Rf
def bt (s : List UInt8) (i : Nat) : Int := ((s.getD i 0).toNat : Int)
theorem bt_some {s : List UInt8} {i : Nat} (h : i < s.length) : ∃ c : UInt8, s[i]? = some c ∧ bt s i = (c.toNat : Int) := ⟨s[i], by simp [h], by simp [bt, h]⟩
def lowC (n : Int) : Bool := decide (97 ≤ n) && decide (n ≤ 122)
def nameC (n : Int) : Bool := lowC n || (decide (48 ≤ n) && decide (n ≤ 57)) || decide (n = 95)
def nameOk (s : List UInt8) : Bool := decide (1 ≤ s.length) && (decide (s.length ≤ 16) && (lowC (bt s 0) && s.all fun c => nameC (c.toNat : Int)))
inductive TR where
  | ok (t : T) | err (e : Int)
def T.z : T := .mk 0 0 0 [] true []
def TR.t : TR → T | .ok t => t | .err _ => T.z
def TR.e : TR → Int | .ok _ => 0 | .err e => e
def TR.out (hp : List HObj) : TR → COut
  | .ok t => .ret t.av hp
  | .err e => .pan (.iface 78 (.agg [.int .i64 e])) hp
def TR.tup (hp : List HObj) (r : TR) : COut := .ret (.tup [r.t.av, .int .i64 r.e]) hp
def constR (left : List UInt8) (w e : Int) : TR :=
  if (numE left).2 = 6 then .err 6 else
  if ¬ (e = 0 ∧ (numE left).2 = 0 ∧ w ≤ 64) then .err 2 else
  if (widE 2 w (numE left).1 []).2 ≠ 0 then .err (widE 2 w (numE left).1 []).2 else
  .ok (.mk 2 w (numE left).1 [] true [])
def leafOp (l : List UInt8) : Int := if bt l 0 = 63 then 24 else if bt l 0 = 35 then 25 else 1
def leafNm (l : List UInt8) : List UInt8 := if bt l 0 = 63 ∨ bt l 0 = 35 then l.drop 1 else l
def leafR (s : List UInt8) : TR :=
  if (cutB s 58).2.2 = false ∨ (numE (cutB s 58).2.1).2 = 6 then .err 6 else
  if 48 ≤ bt s 0 ∧ bt s 0 ≤ 57 then constR (cutB s 58).1 (numE (cutB s 58).2.1).1 (numE (cutB s 58).2.1).2 else
  if nameOk (leafNm (cutB s 58).1) = false then .err 5 else
  if ¬ ((numE (cutB s 58).2.1).2 = 0 ∧ (numE (cutB s 58).2.1).1 ≤ 64) then .err 2 else
  .ok (.mk (leafOp (cutB s 58).1) (numE (cutB s 58).2.1).1 0 (leafNm (cutB s 58).1) true [])
end Go.Proofs.YtkofimhnehkdoaaGreatDoor.Rf
end
section
/- The reader of terms: names and leaves. -/
set_option linter.unusedSimpArgs false
set_option linter.unusedVariables false
namespace Go.Proofs.YtkofimhnehkdoaaGreatDoor.Rf
theorem any_names (s : List UInt8) : ((List.range s.length).any fun i => !nameC (bt s i)) = !(s.all fun c => nameC (c.toNat : Int)) := by
  induction s with
  | nil => rfl
  | cons c r ih =>
    rw [List.length_cons, List.range_succ_eq_map]
    simp [List.any_map, Function.comp_def, bt] at ih ⊢
    rw [ih]
section
variable {hp : List HObj} {lo : Nat} (q : Bool)
theorem must_D (ok : Bool) (e : Int) : callD G0 IP n_termtext_must [.bool ok, .int .i64 e] hp lo false = some (if ok then .ret (.tup []) hp else .pan (.iface 78 (.agg [.int .i64 e])) hp) := by
  rw [callD_eq]
  cases ok <;> simp [IP_termtext_must, i_termtext_must]
theorem failT_D (e : Int) : callD G0 IP n_termtext_fail [.int .i64 e] hp lo false = some (if e = 0 then .ret (.tup []) hp else .pan (.iface 78 (.agg [.int .i64 e])) hp) := by
  rw [callD_eq]
  by_cases h : e = 0 <;> simp [IP_termtext_fail, i_termtext_fail, h]
theorem name_D (s : List UInt8) (hs : s.length ≤ 9223372036854775807) : callD G0 IP n_term_Name [.str s] hp lo q = some (.ret (.bool (nameOk s)) hp) := by
  rw [callD_eq]
  by_cases h1 : s.length < 1
  · have h0 : ¬ 1 ≤ s.length := by omega
    have hi : (s.length : Int) < 1 := by omega
    simp [IP_term_Name, i_term_Name, nameOk, hi, h0]
  · have h1' : 1 ≤ s.length := by omega
    have hi : ¬ (s.length : Int) < 1 := by omega
    by_cases h2 : 16 < s.length
    · have h2' : (16 : Int) < (s.length : Int) := by omega
      have h0 : ¬ s.length ≤ 16 := by omega
      simp [IP_term_Name, i_term_Name, nameOk, hi, h2', h0]
    · have h2' : ¬ (16 : Int) < (s.length : Int) := by omega
      obtain ⟨c, h4, hb⟩ := bt_some (s := s) (i := 0) (by omega)
      have h3 : s.length ≤ 16 := by omega
      by_cases h5 : (c.toNat : Int) < 97
      · have g : lowC (c.toNat : Int) = false := by simp [lowC]; omega
        simp [IP_term_Name, i_term_Name, nameOk, hi, h2', h4, hb, h5, g]
      · by_cases h6 : 122 < (c.toNat : Int)
        · have g : lowC (c.toNat : Int) = false := by simp [lowC]; omega
          simp [IP_term_Name, i_term_Name, nameOk, hi, h2', h4, hb, h5, h6, g]
        · have g : lowC (c.toNat : Int) = true := by simp [lowC]; omega
          have hloop := loop_find (G := G0) (IP := IP) (lo := hp.length) (b := l_term_Name_0)
            (fun i => ⟨[(0, .str s), (24, .int .i64 s.length), (25, .int .i64 i)], hp⟩) s.length (fun i => !nameC (bt s i))
            (.ret, ⟨[(2, .bool false)], hp⟩) (.exit 0, ⟨[(0, .str s), (24, .int .i64 s.length), (25, .int .i64 s.length), (26, .bool false)], hp⟩)
            (fun i hi hp => by
              have hw := wrap_succ hi hs
              obtain ⟨c, h4, hb⟩ := bt_some (s := s) (i := i) hi
              have h4' : s[i] = c := by simpa [hi] using h4
              rw [hb] at hp
              rw [← hw]
              by_cases a1 : (c.toNat : Int) < 97
              · by_cases a2 : (c.toNat : Int) < 48
                · simp [nameC, lowC] at hp; omega
                · by_cases a3 : 57 < (c.toNat : Int)
                  · have a4 : (c.toNat : Int) = 95 := by simp [nameC, lowC] at hp; omega
                    simp [l_term_Name_0, h4, h4', hi, a1, a2, a3, a4]
                  · simp [l_term_Name_0, h4, h4', hi, a1, a2, a3]
              · by_cases a2 : 122 < (c.toNat : Int)
                · simp [nameC, lowC] at hp; omega
                · simp [l_term_Name_0, h4, h4', hi, a1, a2])
            (fun i hi hp => by
              obtain ⟨c, h4, hb⟩ := bt_some (s := s) (i := i) hi
              have h4' : s[i] = c := by simpa [hi] using h4
              rw [hb] at hp
              have a4 : ¬ (c.toNat : Int) = 95 := by simp [nameC, lowC] at hp; omega
              by_cases a1 : (c.toNat : Int) < 97
              · by_cases a2 : (c.toNat : Int) < 48
                · simp [l_term_Name_0, h4, h4', hi, a1, a2, a4]
                · have a3 : 57 < (c.toNat : Int) := by simp [nameC, lowC] at hp; omega
                  simp [l_term_Name_0, h4, h4', hi, a1, a2, a3, a4]
              · have a2 : 122 < (c.toNat : Int) := by simp [nameC, lowC] at hp; omega
                have a3 : 57 < (c.toNat : Int) := by omega
                have a5 : ¬ (c.toNat : Int) < 48 := by omega
                simp [l_term_Name_0, h4, h4', hi, a1, a2, a3, a4, a5])
            (by simp) (by simp [l_term_Name_0]) (by simp)
          rw [any_names] at hloop
          simp only [Int.natCast_zero] at hloop
          cases h : s.all fun c => nameC (c.toNat : Int) with
          | true => rw [h] at hloop; simp only [Bool.not_true, Bool.false_eq_true, if_false] at hloop; simp [IP_term_Name, i_term_Name, hi, h2', h4, h5, h6, hloop, nameOk, hb, g, h1', h3, h]
          | false => rw [h] at hloop; simp only [Bool.not_false, if_true] at hloop; simp [IP_term_Name, i_term_Name, hi, h2', h4, h5, h6, hloop, nameOk, hb, g, h1', h3, h]
theorem name7_D (s : List UInt8) (hs : s.length ≤ 9223372036854775807) : callD G0 IP n_saturateref07_Name [.str s] hp lo q = some (.ret (.bool (nameOk s)) hp) := by
  rw [callD_eq]
  by_cases h1 : s.length < 1
  · have h0 : ¬ 1 ≤ s.length := by omega
    have hi : (s.length : Int) < 1 := by omega
    simp [IP_saturateref07_Name, i_saturateref07_Name, nameOk, hi, h0]
  · have h1' : 1 ≤ s.length := by omega
    have hi : ¬ (s.length : Int) < 1 := by omega
    by_cases h2 : 16 < s.length
    · have h2' : (16 : Int) < (s.length : Int) := by omega
      have h0 : ¬ s.length ≤ 16 := by omega
      simp [IP_saturateref07_Name, i_saturateref07_Name, nameOk, hi, h2', h0]
    · have h2' : ¬ (16 : Int) < (s.length : Int) := by omega
      obtain ⟨c, h4, hb⟩ := bt_some (s := s) (i := 0) (by omega)
      have h3 : s.length ≤ 16 := by omega
      by_cases h5 : (c.toNat : Int) < 97
      · have g : lowC (c.toNat : Int) = false := by simp [lowC]; omega
        simp [IP_saturateref07_Name, i_saturateref07_Name, nameOk, hi, h2', h4, hb, h5, g]
      · by_cases h6 : 122 < (c.toNat : Int)
        · have g : lowC (c.toNat : Int) = false := by simp [lowC]; omega
          simp [IP_saturateref07_Name, i_saturateref07_Name, nameOk, hi, h2', h4, hb, h5, h6, g]
        · have g : lowC (c.toNat : Int) = true := by simp [lowC]; omega
          have hloop := loop_find (G := G0) (IP := IP) (lo := hp.length) (b := l_saturateref07_Name_0)
            (fun i => ⟨[(0, .str s), (3, .int .i64 i)], hp⟩) s.length (fun i => !nameC (bt s i))
            (.ret, ⟨[(2, .bool false)], hp⟩) (.exit 0, ⟨[(0, .str s), (3, .int .i64 s.length), (26, .bool false)], hp⟩)
            (fun i hi hp => by
              have hw := wrap_succ hi hs
              obtain ⟨c, h4, hb⟩ := bt_some (s := s) (i := i) hi
              have h4' : s[i] = c := by simpa [hi] using h4
              rw [hb] at hp
              rw [← hw]
              by_cases a1 : 97 ≤ (c.toNat : Int)
              · by_cases a2 : (c.toNat : Int) ≤ 122
                · simp [l_saturateref07_Name_0, h4, h4', hi, a1, a2]
                · simp [nameC, lowC] at hp; omega
              · by_cases a2 : 48 ≤ (c.toNat : Int)
                · by_cases a3 : (c.toNat : Int) ≤ 57
                  · simp [l_saturateref07_Name_0, h4, h4', hi, a1, a2, a3]
                  · have a4 : (c.toNat : Int) = 95 := by simp [nameC, lowC] at hp; omega
                    simp [l_saturateref07_Name_0, h4, h4', hi, a1, a2, a3, a4]
                · simp [nameC, lowC] at hp; omega)
            (fun i hi hp => by
              obtain ⟨c, h4, hb⟩ := bt_some (s := s) (i := i) hi
              have h4' : s[i] = c := by simpa [hi] using h4
              rw [hb] at hp
              have a4 : ¬ (c.toNat : Int) = 95 := by simp [nameC, lowC] at hp; omega
              by_cases a1 : 97 ≤ (c.toNat : Int)
              · have a2 : ¬ (c.toNat : Int) ≤ 122 := by simp [nameC, lowC] at hp; omega
                have a3 : ¬ (c.toNat : Int) ≤ 57 := by omega
                have a5 : 48 ≤ (c.toNat : Int) := by omega
                simp [l_saturateref07_Name_0, h4, h4', hi, a1, a2, a3, a4, a5]
              · by_cases a2 : 48 ≤ (c.toNat : Int)
                · have a3 : ¬ (c.toNat : Int) ≤ 57 := by simp [nameC, lowC] at hp; omega
                  simp [l_saturateref07_Name_0, h4, h4', hi, a1, a2, a3, a4]
                · simp [l_saturateref07_Name_0, h4, h4', hi, a1, a2, a4])
            (by simp) (by simp [l_saturateref07_Name_0]) (by simp)
          rw [any_names] at hloop
          simp only [Int.natCast_zero] at hloop
          cases h : s.all fun c => nameC (c.toNat : Int) with
          | true => rw [h] at hloop; simp only [Bool.not_true, Bool.false_eq_true, if_false] at hloop; simp [IP_saturateref07_Name, i_saturateref07_Name, hi, h2', h4, h5, h6, hloop, nameOk, hb, g, h1', h3, h]
          | false => rw [h] at hloop; simp only [Bool.not_false, if_true] at hloop; simp [IP_saturateref07_Name, i_saturateref07_Name, hi, h2', h4, h5, h6, hloop, nameOk, hb, g, h1', h3, h]
end
end Go.Proofs.YtkofimhnehkdoaaGreatDoor.Rf
end
section
/- The reader of terms: leaves, the program's. -/
set_option linter.unusedSimpArgs false
set_option linter.unusedVariables false
namespace Go.Proofs.YtkofimhnehkdoaaGreatDoor.Rf
theorem numE_bd (s : List UInt8) : 0 ≤ (numE s).1 ∧ (numE s).1 < 18446744073709551616 := by
  unfold numE
  split
  · omega
  · split <;> omega
theorem numE_code (s : List UInt8) : (numE s).2 = 0 ∨ (numE s).2 = 2 ∨ (numE s).2 = 6 := by
  unfold numE
  split
  · simp
  · split <;> simp
mutual
@[simp] theorem T.av_clo (n : Nat) : ∀ t : T, AV.closed n t.av = true
  | .mk _ _ _ _ o as => by simp [T.av, AV.closed, AV.closedL, T.avs_clo n as]
@[simp] theorem T.avs_clo (n : Nat) : ∀ as : List T, AV.closedL n (T.avs as) = true
  | [] => rfl
  | t :: r => by simp [T.avs, AV.closedL, T.av_clo n t, T.avs_clo n r]
end
theorem leaf_kind (l : List UInt8) : (∃ r, l = 63 :: r) ∨ (∃ r, l = 35 :: r) ∨ (hasPre l [63] = false ∧ hasPre l [35] = false ∧ leafOp l = 1 ∧ leafNm l = l) := by
  rcases l with _ | ⟨c, r⟩
  · exact .inr (.inr ⟨rfl, rfl, rfl, rfl⟩)
  · by_cases h : c = 63
    · exact .inl ⟨r, by rw [h]⟩
    · by_cases h2 : c = 35
      · exact .inr (.inl ⟨r, by rw [h2]⟩)
      · have a : ¬ (c.toNat : Int) = 63 := fun e => h (UInt8.toNat_inj.1 (by simp only [show UInt8.toNat 63 = 63 from rfl, show UInt8.toNat 35 = 35 from rfl]; omega))
        have b : ¬ (c.toNat : Int) = 35 := fun e => h2 (UInt8.toNat_inj.1 (by simp only [show UInt8.toNat 63 = 63 from rfl, show UInt8.toNat 35 = 35 from rfl]; omega))
        exact .inr (.inr ⟨by simp [hasPre, h], by simp [hasPre, h2], by simp [leafOp, bt, a, b], by simp [leafNm, bt, a, b]⟩)
section
variable {hp : List HObj} {lo : Nat} (q : Bool)
theorem constant_D (left : List UInt8) (hs : left.length ≤ 140737488355328) (w e : Int) (hw : 0 ≤ w) : callD G0 IP n_termtext_constant [.str left, .int .u64 w, .int .i64 e] hp lo false = some ((constR left w e).out hp) := by
  rw [callD_eq]
  have hn := fun (hp : List HObj) (lo : Nat) (q : Bool) => ttNumeral_D (hp := hp) (lo := lo) q left hs
  have hb := numE_bd left
  by_cases h1 : (numE left).2 = 6
  · simp [IP_termtext_constant, i_termtext_constant, hn, h1, must_D, constR, TR.out]
  · by_cases h2 : e = 0
    · by_cases h3 : (numE left).2 = 0
      · by_cases h4 : w ≤ 64
        · have e1 : IntKind.wrap .i64 w = w := wrap_small (by omega) (by omega)
          have hW := fun (hp : List HObj) (lo : Nat) (q : Bool) => width_D (hp := hp) (lo := lo) q 2 w (numE left).1 hb.1 [] .nil (by simp)
          simp only [List.map_nil] at hW
          by_cases h5 : (widE 2 w (numE left).1 []).2 = 0
          · simp [IP_termtext_constant, i_termtext_constant, hn, h2, h3, h4, h5, must_D, failT_D, constR, TR.out, e1, hW, T.av, T.avs, ownB]
          · simp [IP_termtext_constant, i_termtext_constant, hn, h2, h3, h4, h5, must_D, failT_D, constR, TR.out, e1, hW]
        · simp [IP_termtext_constant, i_termtext_constant, hn, h2, h3, h4, must_D, constR, TR.out]
      · simp [IP_termtext_constant, i_termtext_constant, hn, h1, h2, h3, must_D, constR, TR.out]
    · simp [IP_termtext_constant, i_termtext_constant, hn, h1, h2, must_D, constR, TR.out]
set_option maxHeartbeats 1000000 in
theorem leafT_D (s : List UInt8) (h0 : s ≠ []) (hs : s.length ≤ 140737488355328) : callD G0 IP n_termtext_leaf [.str s] hp lo false = some ((leafR s).out hp) := by
  rw [callD_eq]
  have hc := fun (hp : List HObj) (lo : Nat) (q : Bool) => cut1_D (hp := hp) (lo := lo) q s (by omega) 58
  have hl1 : (cutB s 58).1.length ≤ 140737488355328 := by
    unfold cutB; split
    · simp only [List.length_take]; omega
    · simp only; omega
  have hl2 : (cutB s 58).2.1.length ≤ 140737488355328 := by
    unfold cutB; split
    · simp only [List.length_drop]; omega
    · simp
  have hn := fun (hp : List HObj) (lo : Nat) (q : Bool) => ttNumeral_D (hp := hp) (lo := lo) q (cutB s 58).2.1 hl2
  have hb := numE_bd (cutB s 58).2.1
  have hk := fun (hp : List HObj) (lo : Nat) => constant_D (hp := hp) (lo := lo) (cutB s 58).1 hl1 (numE (cutB s 58).2.1).1 (numE (cutB s 58).2.1).2 hb.1
  have hL : leafR s = if (cutB s 58).2.2 = false ∨ (numE (cutB s 58).2.1).2 = 6 then .err 6 else
    if 48 ≤ bt s 0 ∧ bt s 0 ≤ 57 then constR (cutB s 58).1 (numE (cutB s 58).2.1).1 (numE (cutB s 58).2.1).2 else
    if nameOk (leafNm (cutB s 58).1) = false then .err 5 else
    if ¬ ((numE (cutB s 58).2.1).2 = 0 ∧ (numE (cutB s 58).2.1).1 ≤ 64) then .err 2 else
    .ok (.mk (leafOp (cutB s 58).1) (numE (cutB s 58).2.1).1 0 (leafNm (cutB s 58).1) true []) := rfl
  obtain ⟨c, h4, hbt⟩ := bt_some (s := s) (i := 0) (by cases s; exact absurd rfl h0; simp)
  have h4' : s.head? = some c := by rw [List.head?_eq_getElem?]; exact h4
  rw [hL, hbt]
  generalize hcl : (cutB s 58).1 = l at *
  generalize hcr : (cutB s 58).2.1 = r at *
  generalize hcf : (cutB s 58).2.2 = f at *
  cases f with
  | false => simp [IP_termtext_leaf, i_termtext_leaf, hc, hn, must_D, TR.out]
  | true =>
    by_cases h1 : (numE r).2 = 6
    · simp [IP_termtext_leaf, i_termtext_leaf, hc, hn, must_D, TR.out, h1]
    · by_cases hd : 48 ≤ (c.toNat : Int) ∧ (c.toNat : Int) ≤ 57
      · rw [if_neg (by simp [h1]), if_pos hd]
        cases hx : constR l (numE r).1 (numE r).2 with
        | ok t => rw [hx] at hk; simp [TR.out] at hk; simp [IP_termtext_leaf, i_termtext_leaf, hc, hn, must_D, TR.out, h1, hd.1, hd.2, h4, hk, T.av_eq]
        | err e => rw [hx] at hk; simp [TR.out] at hk; simp [IP_termtext_leaf, i_termtext_leaf, hc, hn, must_D, TR.out, h1, hd.1, hd.2, h4, hk]
      · rw [if_neg (by simp [h1]), if_neg hd]
        have hd' : (48 ≤ (c.toNat : Int) ∧ ¬ (c.toNat : Int) ≤ 57) ∨ ¬ 48 ≤ (c.toNat : Int) := by omega
        have hr := numE_code r
        rcases leaf_kind l with ⟨l', rfl⟩ | ⟨l', rfl⟩ | ⟨k1, k2, k3, k4⟩
        · have k1 : hasPre (63 :: l') [63] = true := by simp [hasPre]
          have k3 : leafOp (63 :: l') = 24 := rfl
          have k4 : leafNm (63 :: l') = l' := rfl
          have hm := fun (hp : List HObj) (lo : Nat) (q : Bool) => name_D (hp := hp) (lo := lo) q l' (by simp at hl1; omega)
          rw [k3, k4]
          cases hN : nameOk l' with
          | false =>
            rcases hd' with ⟨d1, d2⟩ | d1
            · simp [IP_termtext_leaf, i_termtext_leaf, hc, hn, must_D, hasPre_D, hm, TR.out, h1, h4, k1, d1, d2, hN]
            · simp [IP_termtext_leaf, i_termtext_leaf, hc, hn, must_D, hasPre_D, hm, TR.out, h1, h4, k1, d1, hN]
          | true =>
            by_cases h5 : (numE r).2 = 0
            · by_cases h6 : (numE r).1 ≤ 64
              · have e1 : IntKind.wrap .i64 (numE r).1 = (numE r).1 := wrap_small (by omega) (by omega)
                rcases hd' with ⟨d1, d2⟩ | d1
                · simp [IP_termtext_leaf, i_termtext_leaf, hc, hn, must_D, hasPre_D, hm, TR.out, h1, h4, k1, d1, d2, hN, h5, h6, e1, T.av, T.avs, ownB]
                · simp [IP_termtext_leaf, i_termtext_leaf, hc, hn, must_D, hasPre_D, hm, TR.out, h1, h4, k1, d1, hN, h5, h6, e1, T.av, T.avs, ownB]
              · rcases hd' with ⟨d1, d2⟩ | d1
                · simp [IP_termtext_leaf, i_termtext_leaf, hc, hn, must_D, hasPre_D, hm, TR.out, h1, h4, k1, d1, d2, hN, h5, h6]
                · simp [IP_termtext_leaf, i_termtext_leaf, hc, hn, must_D, hasPre_D, hm, TR.out, h1, h4, k1, d1, hN, h5, h6]
            · rcases hd' with ⟨d1, d2⟩ | d1
              · simp [IP_termtext_leaf, i_termtext_leaf, hc, hn, must_D, hasPre_D, hm, TR.out, h1, h4, k1, d1, d2, hN, h5]
              · simp [IP_termtext_leaf, i_termtext_leaf, hc, hn, must_D, hasPre_D, hm, TR.out, h1, h4, k1, d1, hN, h5]
        · have k1 : hasPre (35 :: l') [63] = false := by simp [hasPre]
          have k2 : hasPre (35 :: l') [35] = true := by simp [hasPre]
          have k3 : leafOp (35 :: l') = 25 := rfl
          have k4 : leafNm (35 :: l') = l' := rfl
          have hm := fun (hp : List HObj) (lo : Nat) (q : Bool) => name_D (hp := hp) (lo := lo) q l' (by simp at hl1; omega)
          rw [k3, k4]
          cases hN : nameOk l' with
          | false =>
            rcases hd' with ⟨d1, d2⟩ | d1
            · simp [IP_termtext_leaf, i_termtext_leaf, hc, hn, must_D, hasPre_D, hm, TR.out, h1, h4, k1, k2, d1, d2, hN]
            · simp [IP_termtext_leaf, i_termtext_leaf, hc, hn, must_D, hasPre_D, hm, TR.out, h1, h4, k1, k2, d1, hN]
          | true =>
            by_cases h5 : (numE r).2 = 0
            · by_cases h6 : (numE r).1 ≤ 64
              · have e1 : IntKind.wrap .i64 (numE r).1 = (numE r).1 := wrap_small (by omega) (by omega)
                rcases hd' with ⟨d1, d2⟩ | d1
                · simp [IP_termtext_leaf, i_termtext_leaf, hc, hn, must_D, hasPre_D, hm, TR.out, h1, h4, k1, k2, d1, d2, hN, h5, h6, e1, T.av, T.avs, ownB]
                · simp [IP_termtext_leaf, i_termtext_leaf, hc, hn, must_D, hasPre_D, hm, TR.out, h1, h4, k1, k2, d1, hN, h5, h6, e1, T.av, T.avs, ownB]
              · rcases hd' with ⟨d1, d2⟩ | d1
                · simp [IP_termtext_leaf, i_termtext_leaf, hc, hn, must_D, hasPre_D, hm, TR.out, h1, h4, k1, k2, d1, d2, hN, h5, h6]
                · simp [IP_termtext_leaf, i_termtext_leaf, hc, hn, must_D, hasPre_D, hm, TR.out, h1, h4, k1, k2, d1, hN, h5, h6]
            · rcases hd' with ⟨d1, d2⟩ | d1
              · simp [IP_termtext_leaf, i_termtext_leaf, hc, hn, must_D, hasPre_D, hm, TR.out, h1, h4, k1, k2, d1, d2, hN, h5]
              · simp [IP_termtext_leaf, i_termtext_leaf, hc, hn, must_D, hasPre_D, hm, TR.out, h1, h4, k1, k2, d1, hN, h5]
        · have hm := fun (hp : List HObj) (lo : Nat) (q : Bool) => name_D (hp := hp) (lo := lo) q l (by omega)
          rw [k3, k4]
          cases hN : nameOk l with
          | false =>
            rcases hd' with ⟨d1, d2⟩ | d1
            · simp [IP_termtext_leaf, i_termtext_leaf, hc, hn, must_D, hasPre_D, hm, TR.out, h1, h4, k1, k2, d1, d2, hN]
            · simp [IP_termtext_leaf, i_termtext_leaf, hc, hn, must_D, hasPre_D, hm, TR.out, h1, h4, k1, k2, d1, hN]
          | true =>
            by_cases h5 : (numE r).2 = 0
            · by_cases h6 : (numE r).1 ≤ 64
              · have e1 : IntKind.wrap .i64 (numE r).1 = (numE r).1 := wrap_small (by omega) (by omega)
                rcases hd' with ⟨d1, d2⟩ | d1
                · simp [IP_termtext_leaf, i_termtext_leaf, hc, hn, must_D, hasPre_D, hm, TR.out, h1, h4, k1, k2, d1, d2, hN, h5, h6, e1, T.av, T.avs, ownB]
                · simp [IP_termtext_leaf, i_termtext_leaf, hc, hn, must_D, hasPre_D, hm, TR.out, h1, h4, k1, k2, d1, hN, h5, h6, e1, T.av, T.avs, ownB]
              · rcases hd' with ⟨d1, d2⟩ | d1
                · simp [IP_termtext_leaf, i_termtext_leaf, hc, hn, must_D, hasPre_D, hm, TR.out, h1, h4, k1, k2, d1, d2, hN, h5, h6]
                · simp [IP_termtext_leaf, i_termtext_leaf, hc, hn, must_D, hasPre_D, hm, TR.out, h1, h4, k1, k2, d1, hN, h5, h6]
            · rcases hd' with ⟨d1, d2⟩ | d1
              · simp [IP_termtext_leaf, i_termtext_leaf, hc, hn, must_D, hasPre_D, hm, TR.out, h1, h4, k1, k2, d1, d2, hN, h5]
              · simp [IP_termtext_leaf, i_termtext_leaf, hc, hn, must_D, hasPre_D, hm, TR.out, h1, h4, k1, k2, d1, hN, h5]
end
end Go.Proofs.YtkofimhnehkdoaaGreatDoor.Rf
end
section
/- The reader of terms: leaves, the reference's. -/
set_option linter.unusedSimpArgs false
set_option linter.unusedVariables false
namespace Go.Proofs.YtkofimhnehkdoaaGreatDoor.Rf
def w7 (s : List UInt8) : Int × Int := if (numE s).2 ≠ 0 then (0, (numE s).2) else if 64 < (numE s).1 then (0, 2) else ((numE s).1, 0)
def colL : List UInt8 → Int → Int → Option Int
  | [], _, a => some a
  | c :: r, i, a => if c = 58 then (if 0 ≤ a then none else colL r (i + 1) i) else colL r (i + 1) a
theorem colL_pos : ∀ (r : List UInt8) (i a : Int), 0 ≤ a → colL r i a = if 58 ∈ r then none else some a
  | [], i, a, h => rfl
  | c :: r, i, a, h => by
    rw [colL, colL_pos r (i + 1) a h]
    by_cases hc : c = 58
    · simp [hc, h]
    · simp [hc, show ¬ 58 = c from fun e => hc e.symm]
section
variable {hp : List HObj} {lo : Nat} (q : Bool)
theorem width7_D (s : List UInt8) (hs : s.length ≤ 9223372036854775807) : callD G0 IP n_saturateref07_width [.str s] hp lo q = some (.ret (.tup [.int .i64 (w7 s).1, .int .i64 (w7 s).2]) hp) := by
  rw [callD_eq]
  have hn := fun (hp : List HObj) (lo : Nat) (q : Bool) => number7_D (hp := hp) (lo := lo) q s hs
  have hb := numE_bd s
  by_cases h1 : (numE s).2 = 0
  · by_cases h2 : 64 < (numE s).1
    · simp [IP_saturateref07_width, i_saturateref07_width, hn, h1, h2, w7]
    · have e1 : IntKind.wrap .i64 (numE s).1 = (numE s).1 := wrap_small (by omega) (by omega)
      simp [IP_saturateref07_width, i_saturateref07_width, hn, h1, h2, w7, e1]
  · simp [IP_saturateref07_width, i_saturateref07_width, hn, h1, w7]
theorem digit7_D (s : List UInt8) (h0 : s ≠ []) : callD G0 IP n_saturateref07_digit [.str s] hp lo q = some (.ret (.bool (decide (48 ≤ bt s 0) && decide (bt s 0 ≤ 57))) hp) := by
  rw [callD_eq]
  rcases s with _ | ⟨c, r⟩
  · exact absurd rfl h0
  · have hb : bt (c :: r) 0 = (c.toNat : Int) := rfl
    have hl : (0 : Int) < (r.length : Int) + 1 := by omega
    rw [hb]
    by_cases h1 : 48 ≤ (c.toNat : Int)
    · simp [IP_saturateref07_digit, i_saturateref07_digit, hl, h1]
    · simp [IP_saturateref07_digit, i_saturateref07_digit, hl, h1]
theorem colon_L (s : List UInt8) (hs : s.length ≤ 9223372036854775807) (hp : List HObj) (lo : Nat) : ∀ (r p : List UInt8) (a : Int), s = p ++ r →
    loopD G0 IP lo l_saturateref07_colon_0 ⟨[(0, .str s), (3, .int .i64 a), (4, .int .i64 p.length)], hp⟩ =
      some (match colL r p.length a with | none => (.ret, ⟨[(2, .int .i64 (-1))], hp⟩) | some b => (.exit 0, ⟨[(0, .str s), (3, .int .i64 b), (4, .int .i64 s.length), (8, .bool false)], hp⟩))
  | [], p, a, h => by
    rw [loopD_eq, loopBody]
    simp at h
    subst h
    simp [l_saturateref07_colon_0, colL]
  | c :: r, p, a, h => by
    rw [loopD_eq, loopBody]
    have hlen : s.length = p.length + (r.length + 1) := by rw [h]; simp
    have h1 : (p.length : Int) < (s.length : Int) := by omega
    have h2 : s[p.length]? = some c := by rw [h]; simp
    have hl : p.length < s.length := by omega
    have h2' : s[p.length] = c := by simpa [hl] using h2
    have hw : IntKind.wrap .i64 ((p.length : Int) + 1) = (p.length : Int) + 1 := wrap_small (by omega) (by omega)
    have ih := fun a => colon_L s hs hp lo r (p ++ [c]) a (by rw [h]; simp)
    simp only [List.length_append, List.length_cons, List.length_nil, Nat.zero_add, Int.natCast_add, Int.natCast_one] at ih
    by_cases hc : c = 58
    · have hc' : (c.toNat : Int) = 58 := by rw [hc]; rfl
      by_cases ha : 0 ≤ a
      · simp [l_saturateref07_colon_0, colL, hl, h2', hc, ha]
      · simp [l_saturateref07_colon_0, colL, hl, h2', hc, ha, hw]
        exact ih p.length
    · have hc' : ¬ (c.toNat : Int) = 58 := fun e => hc (UInt8.toNat_inj.1 (by simp only [show UInt8.toNat 58 = 58 from rfl]; omega))
      simp [l_saturateref07_colon_0, colL, hl, h2', hc, hc', hw]
      exact ih a
end
end Go.Proofs.YtkofimhnehkdoaaGreatDoor.Rf
end
section
/- The reader of terms: leaves, the reference's (2). -/
set_option linter.unusedSimpArgs false
set_option linter.unusedVariables false
namespace Go.Proofs.YtkofimhnehkdoaaGreatDoor.Rf
def colA (s : List UInt8) : Int := if (cutB s 58).2.2 = false then -1 else if 58 ∈ (cutB s 58).2.1 then -1 else idxB s 58
theorem cutB_no {s : List UInt8} {c : UInt8} (h : idxB s c < 0) : cutB s c = (s, [], false) := if_neg (by omega)
theorem cutB_yes {s : List UInt8} {c : UInt8} (h : ¬ idxB s c < 0) : cutB s c = (s.take (idxB s c).toNat, s.drop ((idxB s c).toNat + 1), true) := if_pos (by omega)
theorem colL_neg : ∀ (r : List UInt8) (i : Int), 0 ≤ i → colL r i (-1) = if idxB r 58 < 0 then some (-1) else if 58 ∈ r.drop ((idxB r 58).toNat + 1) then none else some (i + idxB r 58)
  | [], i, h => rfl
  | c :: r, i, h => by
    by_cases hc : c = 58
    · rw [colL, if_pos hc, if_neg (by omega), colL_pos r (i + 1) i h]
      simp [idxB, hc]
    · have ih := colL_neg r (i + 1) (by omega)
      rw [colL, if_neg hc, ih]
      have hb := idxB_ge r 58
      by_cases hn : idxB r 58 < 0
      · have hm : idxB r 58 = -1 := by omega
        simp [idxB, hc, hm]
      · have hm : ¬ idxB r 58 = -1 := by omega
        have e1 : (idxB r 58 + 1).toNat = (idxB r 58).toNat + 1 := by omega
        have e2 : ¬ idxB r 58 + 1 < 0 := by omega
        simp [idxB, hc, hn, hm, e1, e2]
        split
        · rfl
        · congr 1; omega
section
variable {hp : List HObj} {lo : Nat} (q : Bool)
theorem colon7_D (s : List UInt8) (hs : s.length ≤ 9223372036854775807) : callD G0 IP n_saturateref07_colon [.str s] hp lo q = some (.ret (.int .i64 (colA s)) hp) := by
  rw [callD_eq]
  have hloop := colon_L s hs hp hp.length s [] (-1) rfl
  have hg := colL_neg s 0 (by omega)
  simp only [List.length_nil, Int.natCast_zero] at hloop
  by_cases h1 : idxB s 58 < 0
  · have e : colA s = -1 := by simp [colA, cutB_no h1]
    rw [hg, if_pos h1] at hloop
    simp [IP_saturateref07_colon, i_saturateref07_colon, hloop, e]
  · rw [hg, if_neg h1] at hloop
    by_cases h2 : 58 ∈ s.drop ((idxB s 58).toNat + 1)
    · have e : colA s = -1 := by simp only [colA, cutB_yes h1]; simp [h2]
      rw [if_pos h2] at hloop
      simp [IP_saturateref07_colon, i_saturateref07_colon, hloop, e]
    · have e : colA s = idxB s 58 := by simp only [colA, cutB_yes h1]; simp [h2]
      rw [if_neg h2] at hloop
      simp [IP_saturateref07_colon, i_saturateref07_colon, hloop, e]
theorem w7_ok {s : List UInt8} : (w7 s).2 = 0 ↔ (numE s).2 = 0 ∧ (numE s).1 ≤ 64 := by
  unfold w7
  split
  · simp_all
  · split
    · simp_all
    · simp_all
theorem w7_6 {s : List UInt8} : (w7 s).2 = 6 ↔ (numE s).2 = 6 := by
  unfold w7
  split
  · simp_all
  · split
    · simp_all
    · simp_all
theorem constant7_D (left r : List UInt8) (hs : left.length ≤ 9223372036854775807) (hr : r.length ≤ 9223372036854775807) (h6 : (numE r).2 ≠ 6) : callD G0 IP n_saturateref07_constant [.str left, .str r] hp lo q = some ((constR left (numE r).1 (numE r).2).tup hp) := by
  rw [callD_eq]
  have hn := fun (hp : List HObj) (lo : Nat) (q : Bool) => number7_D (hp := hp) (lo := lo) q left hs
  have hw := fun (hp : List HObj) (lo : Nat) (q : Bool) => width7_D (hp := hp) (lo := lo) q r hr
  have hb := numE_bd left
  have hb2 := numE_bd r
  have h66 : ¬ (w7 r).2 = 6 := fun e => h6 (w7_6.1 e)
  by_cases h1 : (numE left).2 = 6
  · simp [IP_saturateref07_constant, i_saturateref07_constant, hn, hw, h1, constR, TR.tup, TR.t, TR.e, T.z, T.av, T.avs, ownB]
  · by_cases h3 : (numE left).2 = 0
    · by_cases h2 : (w7 r).2 = 0
      · have h5 := w7_ok.1 h2
        have h7 : (w7 r).1 = (numE r).1 := by unfold w7; rw [if_neg (by simp [h5.1]), if_neg (by omega)]
        have hW := fun (hp : List HObj) (lo : Nat) (q : Bool) => width4_D (hp := hp) (lo := lo) q 2 (numE r).1 (numE left).1 hb.2 [] .nil (by simp)
        simp only [List.map_nil] at hW
        by_cases h8 : (widE 2 (numE r).1 (numE left).1 []).2 = 0
        · simp [IP_saturateref07_constant, i_saturateref07_constant, hn, hw, h1, h2, h3, h5.1, h5.2, h7, h8, hW, constR, TR.tup, TR.t, TR.e, T.z, T.av, T.avs, ownB]
        · simp [IP_saturateref07_constant, i_saturateref07_constant, hn, hw, h1, h2, h3, h5.1, h5.2, h7, h8, hW, constR, TR.tup, TR.t, TR.e, T.z, T.av, T.avs, ownB]
      · have h5 : ¬ ((numE r).2 = 0 ∧ (numE left).2 = 0 ∧ (numE r).1 ≤ 64) := fun e => h2 (w7_ok.2 ⟨e.1, e.2.2⟩)
        have hC : constR left (numE r).1 (numE r).2 = .err 2 := by rw [constR, if_neg h1, if_pos h5]
        rw [hC]
        simp [IP_saturateref07_constant, i_saturateref07_constant, hn, hw, h1, h2, h3, h66, TR.tup, TR.t, TR.e, T.z, T.av, T.avs, ownB]
    · have h5 : ¬ ((numE r).2 = 0 ∧ (numE left).2 = 0 ∧ (numE r).1 ≤ 64) := fun e => h3 e.2.1
      have hC : constR left (numE r).1 (numE r).2 = .err 2 := by rw [constR, if_neg h1, if_pos h5]
      rw [hC]
      simp [IP_saturateref07_constant, i_saturateref07_constant, hn, hw, h1, h3, h66, TR.tup, TR.t, TR.e, T.z, T.av, T.avs, ownB]
end
end Go.Proofs.YtkofimhnehkdoaaGreatDoor.Rf
end
section
/- The reader of terms: leaves, the reference's (3). -/
set_option linter.unusedSimpArgs false
set_option linter.unusedVariables false
namespace Go.Proofs.YtkofimhnehkdoaaGreatDoor.Rf
theorem numE_colon {r : List UInt8} (h : 58 ∈ r) : (numE r).2 = 6 := by
  have e : numOk r = false := by
    have : r.all isDig = false := by
      rw [List.all_eq_false]
      exact ⟨58, h, by decide⟩
    simp [numOk, this]
  simp [numE, e]
section
variable {hp : List HObj} {lo : Nat} (q : Bool)
theorem constant7_bad (left r : List UInt8) (hs : left.length ≤ 9223372036854775807) (hr : r.length ≤ 9223372036854775807) (h6 : (numE r).2 = 6) : callD G0 IP n_saturateref07_constant [.str left, .str r] hp lo q = some ((TR.err 6).tup hp) := by
  rw [callD_eq]
  have hn := fun (hp : List HObj) (lo : Nat) (q : Bool) => number7_D (hp := hp) (lo := lo) q left hs
  have hw := fun (hp : List HObj) (lo : Nat) (q : Bool) => width7_D (hp := hp) (lo := lo) q r hr
  have h66 : (w7 r).2 = 6 := w7_6.2 h6
  by_cases h1 : (numE left).2 = 6
  · simp [IP_saturateref07_constant, i_saturateref07_constant, hn, hw, h1, h66, TR.tup, TR.t, TR.e, T.z, T.av, T.avs, ownB]
  · simp [IP_saturateref07_constant, i_saturateref07_constant, hn, hw, h1, h66, TR.tup, TR.t, TR.e, T.z, T.av, T.avs, ownB]
set_option maxHeartbeats 1000000 in
theorem leaf7_D (s : List UInt8) (h0 : s ≠ []) (hs : s.length ≤ 140737488355328) : callD G0 IP n_saturateref07_Leaf [.str s] hp lo q = some ((leafR s).tup hp) := by
  rw [callD_eq]
  have hc := fun (hp : List HObj) (lo : Nat) (q : Bool) => colon7_D (hp := hp) (lo := lo) q s (by omega)
  have hdg := fun (hp : List HObj) (lo : Nat) (q : Bool) => digit7_D (hp := hp) (lo := lo) q s h0
  by_cases hn : idxB s 58 < 0
  · have hA : colA s = -1 := by simp [colA, cutB_no hn]
    have hR : leafR s = .err 6 := by simp [leafR, cutB_no hn]
    rw [hR]
    simp [IP_saturateref07_Leaf, i_saturateref07_Leaf, hc, hA, TR.tup, TR.t, TR.e, T.z, T.av, T.avs, ownB]
  · have hg := idxB_ge s 58
    obtain ⟨n, hk⟩ : ∃ n : Nat, idxB s 58 = n := ⟨(idxB s 58).toNat, by omega⟩
    have hcut : cutB s 58 = (s.take n, s.drop (n + 1), true) := by rw [cutB_yes hn, hk]; rfl
    have hnl : n < s.length := by omega
    by_cases hm : 58 ∈ s.drop (n + 1)
    · have hA : colA s = -1 := by simp [colA, hcut, hm]
      have hR : leafR s = .err 6 := by simp [leafR, hcut, numE_colon hm]
      rw [hR]
      simp [IP_saturateref07_Leaf, i_saturateref07_Leaf, hc, hA, TR.tup, TR.t, TR.e, T.z, T.av, T.avs, ownB]
    · have hA : colA s = (n : Int) := by simp [colA, hcut, hm, hk]
      have hL : leafR s = if true = false ∨ (numE (s.drop (n + 1))).2 = 6 then .err 6 else
        if 48 ≤ bt s 0 ∧ bt s 0 ≤ 57 then constR (s.take n) (numE (s.drop (n + 1))).1 (numE (s.drop (n + 1))).2 else
        if nameOk (leafNm (s.take n)) = false then .err 5 else
        if ¬ ((numE (s.drop (n + 1))).2 = 0 ∧ (numE (s.drop (n + 1))).1 ≤ 64) then .err 2 else
        .ok (.mk (leafOp (s.take n)) (numE (s.drop (n + 1))).1 0 (leafNm (s.take n)) true []) := by rw [leafR, hcut]
      rw [hL]
      have hl1 : (s.take n).length ≤ 9223372036854775807 := by simp only [List.length_take]; omega
      have hl2 : (s.drop (n + 1)).length ≤ 9223372036854775807 := by simp only [List.length_drop]; omega
      have hw := fun (hp : List HObj) (lo : Nat) (q : Bool) => width7_D (hp := hp) (lo := lo) q (s.drop (n + 1)) hl2
      have hb := numE_bd (s.drop (n + 1))
      have hkb := fun (hp : List HObj) (lo : Nat) (q : Bool) => constant7_bad (hp := hp) (lo := lo) q (s.take n) (s.drop (n + 1)) hl1 hl2
      have hkk := fun (hp : List HObj) (lo : Nat) (q : Bool) => constant7_D (hp := hp) (lo := lo) q (s.take n) (s.drop (n + 1)) hl1 hl2
      have n1 : IntKind.wrap .i64 ((n : Int) + 1) = ((n + 1 : Nat) : Int) := by rw [wrap_small (by omega) (by omega)]; rfl
      have n2 : n ≤ s.length := by omega
      have n3 : n + 1 ≤ s.length := by omega
      have n4 : ¬ (n : Int) < 0 := by omega
      have n5 : (0 : Int) ≤ (n : Int) + 1 := by omega
      generalize hl : s.take n = l at *
      generalize hr : s.drop (n + 1) = r at *
      generalize hbt : bt s 0 = b at *
      by_cases h1 : (numE r).2 = 6
      · rw [if_pos (.inr h1)]
        have h66 : (w7 r).2 = 6 := w7_6.2 h1
        by_cases hd : 48 ≤ b ∧ b ≤ 57
        · simp [IP_saturateref07_Leaf, i_saturateref07_Leaf, hc, hA, hdg, hd.1, hd.2, n1, n2, n3, n4, n5, hl, hr, hkb, h1, TR.tup, TR.t, TR.e, T.z, T.av, T.avs, ownB]
        · have hd2 : (decide (48 ≤ b) && decide (b ≤ 57)) = false := by simp; omega
          simp [IP_saturateref07_Leaf, i_saturateref07_Leaf, hc, hA, hdg, hd2, n1, n2, n3, n4, n5, hl, hr, hw, h66, TR.tup, TR.t, TR.e, T.z, T.av, T.avs, ownB]
      · rw [if_neg (by simp [h1])]
        by_cases hd : 48 ≤ b ∧ b ≤ 57
        · rw [if_pos hd]
          have hkk := fun (hp : List HObj) (lo : Nat) (q : Bool) => hkk hp lo q h1
          cases hx : constR l (numE r).1 (numE r).2 with
          | ok t => rw [hx] at hkk; simp [TR.tup, TR.t, TR.e] at hkk; simp [IP_saturateref07_Leaf, i_saturateref07_Leaf, hc, hA, hdg, hd.1, hd.2, n1, n2, n3, n4, n5, hl, hr, hkk, TR.tup, TR.t, TR.e, T.av_eq]
          | err e => rw [hx] at hkk; simp [TR.tup, TR.t, TR.e, T.z, T.av, T.avs, ownB] at hkk; simp [IP_saturateref07_Leaf, i_saturateref07_Leaf, hc, hA, hdg, hd.1, hd.2, n1, n2, n3, n4, n5, hl, hr, hkk, TR.tup, TR.t, TR.e, T.z, T.av, T.avs, ownB]
        · rw [if_neg hd]
          have hd2 : (decide (48 ≤ b) && decide (b ≤ 57)) = false := by simp; omega
          have h66 : ¬ (w7 r).2 = 6 := fun e => h1 (w7_6.1 e)
          rcases leaf_kind l with ⟨l', he⟩ | ⟨l', he⟩ | ⟨k1, k2, k3, k4⟩
          · subst he
            have k3 : leafOp (63 :: l') = 24 := rfl
            have k4 : leafNm (63 :: l') = l' := rfl
            have hm2 := fun (hp : List HObj) (lo : Nat) (q : Bool) => name7_D (hp := hp) (lo := lo) q l' (by simp at hl1; omega)
            have k5 : (0 : Int) < (l'.length : Int) + 1 := by omega
            rw [k3, k4]
            cases hN : nameOk l' with
            | false => simp [IP_saturateref07_Leaf, i_saturateref07_Leaf, hc, hA, hdg, hd2, n1, n2, n3, n4, n5, hl, hr, hw, h66, hm2, hN, k5, TR.tup, TR.t, TR.e, T.z, T.av, T.avs, ownB]
            | true =>
              by_cases h2 : (w7 r).2 = 0
              · have h5 := w7_ok.1 h2
                have h7 : (w7 r).1 = (numE r).1 := by unfold w7; rw [if_neg (by simp [h5.1]), if_neg (by omega)]
                rw [if_neg (by simp), if_neg (by simp [h5.1, h5.2])]
                simp [IP_saturateref07_Leaf, i_saturateref07_Leaf, hc, hA, hdg, hd2, n1, n2, n3, n4, n5, hl, hr, hw, h66, hm2, hN, h2, h7, k5, TR.tup, TR.t, TR.e, T.z, T.av, T.avs, ownB]
              · rw [if_neg (by simp), if_pos (fun e => h2 (w7_ok.2 e))]
                have h8 : (w7 r).2 = 2 := by
                  have := numE_code r
                  unfold w7 at h2 ⊢
                  split at h2
                  · rename_i g; rw [if_pos g]; simp only; omega
                  · rename_i g; rw [if_neg g]; split at h2
                    · rename_i g2; rw [if_pos g2]
                    · exact absurd rfl h2
                simp [IP_saturateref07_Leaf, i_saturateref07_Leaf, hc, hA, hdg, hd2, n1, n2, n3, n4, n5, hl, hr, hw, h66, hm2, hN, h8, k5, TR.tup, TR.t, TR.e, T.z, T.av, T.avs, ownB]
          · subst he
            have k3 : leafOp (35 :: l') = 25 := rfl
            have k4 : leafNm (35 :: l') = l' := rfl
            have hm2 := fun (hp : List HObj) (lo : Nat) (q : Bool) => name7_D (hp := hp) (lo := lo) q l' (by simp at hl1; omega)
            have k5 : (0 : Int) < (l'.length : Int) + 1 := by omega
            rw [k3, k4]
            cases hN : nameOk l' with
            | false => simp [IP_saturateref07_Leaf, i_saturateref07_Leaf, hc, hA, hdg, hd2, n1, n2, n3, n4, n5, hl, hr, hw, h66, hm2, hN, k5, TR.tup, TR.t, TR.e, T.z, T.av, T.avs, ownB]
            | true =>
              by_cases h2 : (w7 r).2 = 0
              · have h5 := w7_ok.1 h2
                have h7 : (w7 r).1 = (numE r).1 := by unfold w7; rw [if_neg (by simp [h5.1]), if_neg (by omega)]
                rw [if_neg (by simp), if_neg (by simp [h5.1, h5.2])]
                simp [IP_saturateref07_Leaf, i_saturateref07_Leaf, hc, hA, hdg, hd2, n1, n2, n3, n4, n5, hl, hr, hw, h66, hm2, hN, h2, h7, k5, TR.tup, TR.t, TR.e, T.z, T.av, T.avs, ownB]
              · rw [if_neg (by simp), if_pos (fun e => h2 (w7_ok.2 e))]
                have h8 : (w7 r).2 = 2 := by
                  have := numE_code r
                  unfold w7 at h2 ⊢
                  split at h2
                  · rename_i g; rw [if_pos g]; simp only; omega
                  · rename_i g; rw [if_neg g]; split at h2
                    · rename_i g2; rw [if_pos g2]
                    · exact absurd rfl h2
                simp [IP_saturateref07_Leaf, i_saturateref07_Leaf, hc, hA, hdg, hd2, n1, n2, n3, n4, n5, hl, hr, hw, h66, hm2, hN, h8, k5, TR.tup, TR.t, TR.e, T.z, T.av, T.avs, ownB]
          · have hm2 := fun (hp : List HObj) (lo : Nat) (q : Bool) => name7_D (hp := hp) (lo := lo) q l hl1
            rw [k3, k4]
            rcases l with _ | ⟨c, l'⟩
            · have k5 : (0 : Int) < 1 := by omega
              cases hN : nameOk ([] : List UInt8) with
              | false => simp [IP_saturateref07_Leaf, i_saturateref07_Leaf, hc, hA, hdg, hd2, n1, n2, n3, n4, n5, hl, hr, hw, h66, hm2, hN, k5, TR.tup, TR.t, TR.e, T.z, T.av, T.avs, ownB]
              | true =>
                by_cases h2 : (w7 r).2 = 0
                · have h5 := w7_ok.1 h2
                  have h7 : (w7 r).1 = (numE r).1 := by unfold w7; rw [if_neg (by simp [h5.1]), if_neg (by omega)]
                  rw [if_neg (by simp), if_neg (by simp [h5.1, h5.2])]
                  simp [IP_saturateref07_Leaf, i_saturateref07_Leaf, hc, hA, hdg, hd2, n1, n2, n3, n4, n5, hl, hr, hw, h66, hm2, hN, h2, h7, k5, TR.tup, TR.t, TR.e, T.z, T.av, T.avs, ownB]
                · rw [if_neg (by simp), if_pos (fun e => h2 (w7_ok.2 e))]
                  have h8 : (w7 r).2 = 2 := by
                    have := numE_code r
                    unfold w7 at h2 ⊢
                    split at h2
                    · rename_i g; rw [if_pos g]; simp only; omega
                    · rename_i g; rw [if_neg g]; split at h2
                      · rename_i g2; rw [if_pos g2]
                      · exact absurd rfl h2
                  simp [IP_saturateref07_Leaf, i_saturateref07_Leaf, hc, hA, hdg, hd2, n1, n2, n3, n4, n5, hl, hr, hw, h66, hm2, hN, h8, k5, TR.tup, TR.t, TR.e, T.z, T.av, T.avs, ownB]
            · have k5 : (0 : Int) < (l'.length : Int) + 1 := by omega
              have k6 : ¬ (c.toNat : Int) = 63 := by
                intro e; have : c = 63 := UInt8.toNat_inj.1 (by simp only [show UInt8.toNat 63 = 63 from rfl]; omega)
                rw [this] at k1; simp [hasPre] at k1
              have k7 : ¬ (c.toNat : Int) = 35 := by
                intro e; have : c = 35 := UInt8.toNat_inj.1 (by simp only [show UInt8.toNat 35 = 35 from rfl]; omega)
                rw [this] at k2; simp [hasPre] at k2
              cases hN : nameOk (c :: l') with
              | false => simp [IP_saturateref07_Leaf, i_saturateref07_Leaf, hc, hA, hdg, hd2, n1, n2, n3, n4, n5, hl, hr, hw, h66, hm2, hN, k5, k6, k7, TR.tup, TR.t, TR.e, T.z, T.av, T.avs, ownB]
              | true =>
                by_cases h2 : (w7 r).2 = 0
                · have h5 := w7_ok.1 h2
                  have h7 : (w7 r).1 = (numE r).1 := by unfold w7; rw [if_neg (by simp [h5.1]), if_neg (by omega)]
                  rw [if_neg (by simp), if_neg (by simp [h5.1, h5.2])]
                  simp [IP_saturateref07_Leaf, i_saturateref07_Leaf, hc, hA, hdg, hd2, n1, n2, n3, n4, n5, hl, hr, hw, h66, hm2, hN, h2, h7, k5, k6, k7, TR.tup, TR.t, TR.e, T.z, T.av, T.avs, ownB]
                · rw [if_neg (by simp), if_pos (fun e => h2 (w7_ok.2 e))]
                  have h8 : (w7 r).2 = 2 := by
                    have := numE_code r
                    unfold w7 at h2 ⊢
                    split at h2
                    · rename_i g; rw [if_pos g]; simp only; omega
                    · rename_i g; rw [if_neg g]; split at h2
                      · rename_i g2; rw [if_pos g2]
                      · exact absurd rfl h2
                  simp [IP_saturateref07_Leaf, i_saturateref07_Leaf, hc, hA, hdg, hd2, n1, n2, n3, n4, n5, hl, hr, hw, h66, hm2, hN, h8, k5, k6, k7, TR.tup, TR.t, TR.e, T.z, T.av, T.avs, ownB]
end
end Go.Proofs.YtkofimhnehkdoaaGreatDoor.Rf
end
section
/- Arguments that are terms. -/
set_option linter.unusedSimpArgs false
set_option linter.unusedVariables false
namespace Go.Proofs.YtkofimhnehkdoaaGreatDoor.Rf
section
variable {H : Type} {P : Program}
theorem HasTy.str {n : Nat} {t : TypeId} {cs : List AV} {d : DataW H} (hu : P.underlying t = some .string) (h : HasTy P n t cs d) : ∃ s, cs = [.str s] ∧ s.length ≤ 9223372036854775807 := by
  cases n with
  | zero => exact h.elim
  | succ n => simp only [HasTy, hu] at h; obtain ⟨m, h1, h2, _⟩ := h; exact ⟨m, h1, h2⟩
theorem HasTy.bool {n : Nat} {t : TypeId} {cs : List AV} {d : DataW H} (hu : P.underlying t = some .bool) (h : HasTy P n t cs d) : ∃ s, cs = [.bool s] := by
  cases n with
  | zero => exact h.elim
  | succ n => simp only [HasTy, hu] at h; obtain ⟨m, h1, h2⟩ := h; exact ⟨m, h1⟩
/-- a slice whose elements are all of a kind -/
theorem HasTy.slice {α : Type} {n : Nat} {t e : TypeId} {cs : List AV} {d : DataW H} (f : α → AV) (w : α → Prop) (hu : P.underlying t = some (.slice e)) (h : HasTy P n t cs d)
    (he : ∀ m, m < n → ∀ ds (d' : DataW H), HasTy P m e ds d' → ∃ x, elemAV P e ds = f x ∧ w x) :
    ∃ (o : Bool) (l : List α), cs = [.list (l.map f) (ownB o)] ∧ (o = true → l = []) ∧ l.length ≤ 9223372036854775807 ∧ ∀ x, x ∈ l → w x := by
  cases n with
  | zero => exact h.elim
  | succ n =>
    simp only [HasTy, hu] at h
    rcases h with ⟨rfl, _⟩ | ⟨xs, els, rest, rfl, _, h1, h2, h3⟩
    · exact ⟨true, [], rfl, fun _ => rfl, by simp, by simp⟩
    · have : ∀ (xs : List AV) (els : List (DataW H)), xs.length = els.length → (∀ (i : Nat) x d', xs[i]? = some x → els[i]? = some d' → ∃ ds, x = elemAV P e ds ∧ HasTy P n e ds d') → ∃ l : List α, xs = l.map f ∧ ∀ x, x ∈ l → w x := by
        intro xs
        induction xs with
        | nil => intro els _ _; exact ⟨[], rfl, by simp⟩
        | cons x xs ih =>
          intro els hl hh
          cases els with
          | nil => simp at hl
          | cons y els =>
            obtain ⟨ds, e1, e2⟩ := hh 0 x y rfl rfl
            obtain ⟨a, f1, f2⟩ := he n (by omega) ds y e2
            obtain ⟨l, l1, l2⟩ := ih els (by simpa using hl) fun i x d' a b => hh (i + 1) x d' (by simpa using a) (by simpa using b)
            exact ⟨a :: l, by simp [e1, f1, l1], fun z hz => by
              rcases List.mem_cons.1 hz with e | hz
              · rw [e]; exact f2
              · exact l2 z hz⟩
      obtain ⟨l, l1, l2⟩ := this xs els h1 h3
      subst l1
      have hm : maxLen = 9223372036854775807 := rfl
      rw [hm] at h2
      exact ⟨false, l, rfl, by simp, by simpa using h2, l2⟩
/-- a struct's fields -/
theorem HasTy.fields {n : Nat} {t : TypeId} {fs : Array Field} {cs : List AV} {d : DataW H} (hu : P.underlying t = some (.struct fs)) (h : HasTy P n t cs d) :
    ∃ parts : List (List AV), cs = parts.flatten ∧ parts.length = fs.size ∧ ∀ (i : Nat) f ds, fs[i]? = some f → parts[i]? = some ds → ∃ m, ∃ d' : DataW H, m < n ∧ HasTy P m f.type ds d' := by
  cases n with
  | zero => exact h.elim
  | succ n =>
    simp only [HasTy, hu] at h
    obtain ⟨parts, els, rfl, _, h1, h2, h3⟩ := h
    refine ⟨parts, rfl, h1, fun i f ds a b => ?_⟩
    have : i < els.length := by rw [h2, ← h1]; exact (List.getElem?_eq_some_iff.1 b).1
    exact ⟨n, els[i], by omega, h3 i f ds _ a b (List.getElem?_eq_getElem this)⟩
theorem HasTy.term {tt ts a b c e : TypeId} {fs : Array Field} (hu : P.underlying tt = some (.struct fs)) (hf : fs.toList.map Field.type = [a, b, c, e, ts])
    (ha : P.underlying a = some (.int .i64)) (hb : P.underlying b = some (.int .i64)) (hc : P.underlying c = some (.int .u64)) (he : P.underlying e = some .string) (hs : P.underlying ts = some (.slice tt)) :
    ∀ n cs (d : DataW H), HasTy P n tt cs d → ∃ t : T, cs = t.cells ∧ t.wf := by
  intro n
  induction n using Nat.strongRecOn with
  | _ n ih =>
    intro cs d h
    obtain ⟨parts, rfl, hl, hp⟩ := h.fields hu
    have hsz : fs.size = 5 := by have := congrArg List.length hf; simpa using this
    rw [hsz] at hl
    match parts, hl with
    | [p0, p1, p2, p3, p4], _ =>
      have g : ∀ (i : Nat) ds x, [p0, p1, p2, p3, p4][i]? = some ds → [a, b, c, e, ts][i]? = some x → ∃ m, ∃ d' : DataW H, m < n ∧ HasTy P m x ds d' := by
        intro i ds x h1 h2
        rw [← hf] at h2
        simp only [List.getElem?_map, Array.getElem?_toList, Option.map_eq_some_iff] at h2
        obtain ⟨f, f1, f2⟩ := h2
        obtain ⟨m, d', m1, m2⟩ := hp i f ds f1 h1
        exact ⟨m, d', m1, f2 ▸ m2⟩
      obtain ⟨m0, d0, _, q0⟩ := g 0 _ _ rfl rfl
      obtain ⟨m1, d1, _, q1⟩ := g 1 _ _ rfl rfl
      obtain ⟨m2, d2, _, q2⟩ := g 2 _ _ rfl rfl
      obtain ⟨m3, d3, _, q3⟩ := g 3 _ _ rfl rfl
      obtain ⟨m4, d4, k4, q4⟩ := g 4 _ _ rfl rfl
      obtain ⟨x0, rfl, w0⟩ := q0.int ha
      obtain ⟨x1, rfl, w1⟩ := q1.int hb
      obtain ⟨x2, rfl, w2⟩ := q2.int hc
      obtain ⟨x3, rfl, w3⟩ := q3.str he
      obtain ⟨o, l, rfl, o1, l1, l2⟩ := q4.slice T.av T.wf hs fun m hm ds d' h => by
        obtain ⟨x, x1, x2⟩ := ih m (by omega) ds d' h
        exact ⟨x, by unfold elemAV aggTy; rw [hu, x1, T.av_eq]; rfl, x2⟩
      refine ⟨.mk x0 x1 x2 x3 o l, ?_, ?_⟩
      · simp [T.cells, T.op, T.width, T.val, T.name, T.o, T.args, T.avs_eq]
      · rw [T.wf_eq]; exact ⟨w0, w1, w2, w3, l1, o1, l2⟩
theorem ArgTy.term {tt ts a b c e : TypeId} {fs : Array Field} {v : AV} {d : DataW H} (hu : P.underlying tt = some (.struct fs)) (hf : fs.toList.map Field.type = [a, b, c, e, ts])
    (ha : P.underlying a = some (.int .i64)) (hb : P.underlying b = some (.int .i64)) (hc : P.underlying c = some (.int .u64)) (he : P.underlying e = some .string) (hs : P.underlying ts = some (.slice tt))
    (h : ArgTy P tt v d) : ∃ t : T, v = t.av ∧ t.wf := by
  obtain ⟨n, cs, rfl, h⟩ := h
  obtain ⟨x, x1, x2⟩ := HasTy.term hu hf ha hb hc he hs n cs d h
  exact ⟨x, by unfold elemAV aggTy; rw [hu, x1, T.av_eq]; rfl, x2⟩
/-- an array -/
theorem ArgTy.array {α : Type} {t e : TypeId} {m : Nat} {v : AV} {d : DataW H} (f : α → List AV) (w : α → Prop) (hu : P.underlying t = some (.array m e)) (h : ArgTy P t v d)
    (he : ∀ n ds (d' : DataW H), HasTy P n e ds d' → ∃ x, ds = f x ∧ w x) : ∃ l : List α, l.length = m ∧ v = .agg (l.map f).flatten ∧ ∀ x, x ∈ l → w x := by
  obtain ⟨n, cs, rfl, h⟩ := h
  cases n with
  | zero => exact h.elim
  | succ n =>
    simp only [HasTy, hu] at h
    obtain ⟨parts, els, rfl, _, h1, h2, h3⟩ := h
    have : ∀ (xs : List (List AV)) (els : List (DataW H)), xs.length = els.length → (∀ (i : Nat) x d', xs[i]? = some x → els[i]? = some d' → HasTy P n e x d') → ∃ l : List α, xs = l.map f ∧ ∀ x, x ∈ l → w x := by
      intro xs
      induction xs with
      | nil => intro els _ _; exact ⟨[], rfl, by simp⟩
      | cons x xs ih =>
        intro els hl hh
        cases els with
        | nil => simp at hl
        | cons y els =>
          obtain ⟨a, f1, f2⟩ := he n x y (hh 0 x y rfl rfl)
          obtain ⟨l, l1, l2⟩ := ih els (by simpa using hl) fun i x d' a b => hh (i + 1) x d' (by simpa using a) (by simpa using b)
          exact ⟨a :: l, by simp [f1, l1], fun z hz => by
            rcases List.mem_cons.1 hz with e | hz
            · rw [e]; exact f2
            · exact l2 z hz⟩
    obtain ⟨l, l1, l2⟩ := this parts els (by omega) h3
    subst l1
    refine ⟨l, by simpa using h1, ?_, l2⟩
    unfold elemAV aggTy; rw [hu]; rfl
end
end Go.Proofs.YtkofimhnehkdoaaGreatDoor.Rf
end
section
/- S-expressions. -/
set_option linter.unusedSimpArgs false
set_option linter.unusedVariables false
namespace Go.Proofs.YtkofimhnehkdoaaGreatDoor.Rf

inductive S where
  | mk (atom : List UInt8) (o : Bool) (list : List S)
namespace S
def atom : S → List UInt8 | .mk a _ _ => a
def o : S → Bool | .mk _ a _ => a
def list : S → List S | .mk _ _ a => a
end S
mutual
def S.av : S → AV
  | .mk a o l => .agg [.str a, .list (S.avs l) (ownB o)]
def S.avs : List S → List AV
  | [] => []
  | t :: r => t.av :: S.avs r
end
theorem S.av_eq (t : S) : t.av = .agg [.str t.atom, .list (S.avs t.list) (ownB t.o)] := by cases t; rfl
theorem S.avs_eq : ∀ l : List S, S.avs l = l.map S.av
  | [] => rfl
  | t :: r => by simp [S.avs, S.avs_eq r]
@[simp] theorem S.avs_len (l : List S) : (S.avs l).length = l.length := by simp [S.avs_eq]
@[simp] theorem S.avs_nil : S.avs [] = [] := rfl
@[simp] theorem S.avs_getElem {l : List S} {i : Nat} (h : i < (S.avs l).length) : (S.avs l)[i] = (l[i]'(by simpa using h)).av := by simp [S.avs_eq]
theorem S.avs_get {l : List S} {i : Nat} (h : i < l.length) : (S.avs l)[i]? = some l[i].av := by simp [S.avs_eq, h]
theorem S.avs_app (a b : List S) : S.avs (a ++ b) = S.avs a ++ S.avs b := by simp [S.avs_eq]
mutual
def S.wf : S → Prop
  | .mk a o l => a.length ≤ 9223372036854775807 ∧ l.length ≤ 9223372036854775807 ∧ (o = true → l = []) ∧ S.wfs l
def S.wfs : List S → Prop
  | [] => True
  | t :: r => t.wf ∧ S.wfs r
end
theorem S.wfs_iff : ∀ l : List S, S.wfs l ↔ ∀ t, t ∈ l → t.wf
  | [] => by simp [S.wfs]
  | t :: r => by simp [S.wfs, S.wfs_iff r]
theorem S.wf_eq (t : S) : t.wf ↔ t.atom.length ≤ 9223372036854775807 ∧ t.list.length ≤ 9223372036854775807 ∧ (t.o = true → t.list = []) ∧ ∀ u, u ∈ t.list → u.wf := by
  cases t; simp only [S.wf, S.atom, S.list, S.o, S.wfs_iff]
mutual
def S.same : S → S → Bool
  | .mk a _ l, .mk a' _ l' => a == a' && S.sames l l'
def S.sames : List S → List S → Bool
  | [], [] => true
  | t :: r, u :: s => t.same u && S.sames r s
  | [], _ :: _ => false
  | _ :: _, [] => false
end
theorem S.same_eq (t u : S) : t.same u = (t.atom == u.atom && S.sames t.list u.list) := by cases t; cases u; rfl
theorem S.sames_eq : ∀ (as bs : List S) (h : as.length = bs.length), S.sames as bs = !(List.range as.length).any fun i => !(as.getD i (.mk [] true [])).same (bs.getD i (.mk [] true []))
  | [], [], _ => rfl
  | t :: r, u :: s, h => by
    rw [S.sames, S.sames_eq r s (by simpa using h), List.length_cons, List.range_succ_eq_map]
    simp [List.any_map, Function.comp_def]
  | [], _ :: _, h => by simp at h
  | _ :: _, [], h => by simp at h
theorem S.sames_len : ∀ (as bs : List S), as.length ≠ bs.length → S.sames as bs = false
  | [], [], h => by simp at h
  | t :: r, u :: s, h => by rw [S.sames, S.sames_len r s (by simpa using h), Bool.and_false]
  | [], _ :: _, h => rfl
  | _ :: _, [], h => rfl
theorem S.ind {p : S → Prop} (h : ∀ t : S, (∀ u, u ∈ t.list → p u) → p t) (t : S) : p t :=
  S.rec (motive_1 := p) (motive_2 := fun l => ∀ u, u ∈ l → p u) (fun a b c ih => h _ ih) (fun u hu => by simp at hu)
    (fun t r h1 h2 u hu => by
      rcases List.mem_cons.1 hu with e | hu
      · rw [e]; exact h1
      · exact h2 u hu) t
theorem S.same_refl (t : S) : t.same t = true := by
  induction t using S.ind with | h t ih =>
  have : ∀ l : List S, (∀ u, u ∈ l → u.same u = true) → S.sames l l = true := by
    intro l
    induction l with
    | nil => intro _; rfl
    | cons x r ihl => intro h; simp only [S.sames, h x (by simp), Bool.true_and]; exact ihl fun u hu => h u (by simp [hu])
  rw [S.same_eq, this t.list ih]; simp
theorem S.sames_refl (l : List S) : S.sames l l = true := by
  induction l with
  | nil => rfl
  | cons x r ih => simp only [S.sames, S.same_refl x, ih, Bool.true_and]
section
variable {H : Type} {P : Program}
theorem HasTy.sexp {tt ts a : TypeId} {fs : Array Field} (hu : P.underlying tt = some (.struct fs)) (hf : fs.toList.map Field.type = [a, ts]) (ha : P.underlying a = some .string) (hs : P.underlying ts = some (.slice tt)) :
    ∀ n cs (d : DataW H), HasTy P n tt cs d → ∃ t : S, cs = [.str t.atom, .list (S.avs t.list) (ownB t.o)] ∧ t.wf := by
  intro n
  induction n using Nat.strongRecOn with
  | _ n ih =>
    intro cs d h
    obtain ⟨parts, rfl, hl, hp⟩ := h.fields hu
    have hsz : fs.size = 2 := by have := congrArg List.length hf; simpa using this
    rw [hsz] at hl
    match parts, hl with
    | [p0, p1], _ =>
      have g : ∀ (i : Nat) ds x, [p0, p1][i]? = some ds → [a, ts][i]? = some x → ∃ m, ∃ d' : DataW H, m < n ∧ HasTy P m x ds d' := by
        intro i ds x h1 h2
        rw [← hf] at h2
        simp only [List.getElem?_map, Array.getElem?_toList, Option.map_eq_some_iff] at h2
        obtain ⟨f, f1, f2⟩ := h2
        obtain ⟨m, d', m1, m2⟩ := hp i f ds f1 h1
        exact ⟨m, d', m1, f2 ▸ m2⟩
      obtain ⟨m0, d0, _, q0⟩ := g 0 _ _ rfl rfl
      obtain ⟨m1, d1, _, q1⟩ := g 1 _ _ rfl rfl
      obtain ⟨x0, rfl, w0⟩ := q0.str ha
      obtain ⟨o, l, rfl, o1, l1, l2⟩ := q1.slice S.av S.wf hs fun m hm ds d' h => by
        obtain ⟨x, x1, x2⟩ := ih m (by omega) ds d' h
        exact ⟨x, by unfold elemAV aggTy; rw [hu, x1, S.av_eq]; rfl, x2⟩
      refine ⟨.mk x0 o l, ?_, ?_⟩
      · simp [S.atom, S.o, S.list, S.avs_eq]
      · rw [S.wf_eq]; exact ⟨w0, l1, o1, l2⟩
theorem ArgTy.sexp {tt ts a : TypeId} {fs : Array Field} {v : AV} {d : DataW H} (hu : P.underlying tt = some (.struct fs)) (hf : fs.toList.map Field.type = [a, ts]) (ha : P.underlying a = some .string) (hs : P.underlying ts = some (.slice tt))
    (h : ArgTy P tt v d) : ∃ t : S, v = t.av ∧ t.wf := by
  obtain ⟨n, cs, rfl, h⟩ := h
  obtain ⟨x, x1, x2⟩ := HasTy.sexp hu hf ha hs n cs d h
  exact ⟨x, by unfold elemAV aggTy; rw [hu, x1, S.av_eq]; rfl, x2⟩
theorem ArgTy.sexps {tt ts a : TypeId} {fs : Array Field} {v : AV} {d : DataW H} (hu : P.underlying tt = some (.struct fs)) (hf : fs.toList.map Field.type = [a, ts]) (ha : P.underlying a = some .string) (hs : P.underlying ts = some (.slice tt))
    (h : ArgTy P ts v d) : ∃ (o : Bool) (l : List S), v = .list (S.avs l) (ownB o) ∧ (o = true → l = []) ∧ l.length ≤ 9223372036854775807 ∧ ∀ t, t ∈ l → t.wf := by
  obtain ⟨n, cs, rfl, h⟩ := h
  obtain ⟨o, l, rfl, h1, h2, h3⟩ := h.slice S.av S.wf hs fun m hm ds d' h => by
    obtain ⟨x, x1, x2⟩ := HasTy.sexp hu hf ha hs m ds d' h
    exact ⟨x, by unfold elemAV aggTy; rw [hu, x1, S.av_eq]; rfl, x2⟩
  exact ⟨o, l, by unfold elemAV aggTy; rw [hs, S.avs_eq]; rfl, h1, h2, h3⟩
theorem ArgTy.str {t : TypeId} {v : AV} {d : DataW H} (hu : P.underlying t = some .string) (h : ArgTy P t v d) : ∃ s, v = .str s ∧ s.length ≤ 9223372036854775807 := by
  obtain ⟨n, cs, rfl, h⟩ := h
  obtain ⟨m, rfl, hm⟩ := h.str hu
  exact ⟨m, by unfold elemAV aggTy; rw [hu]; rfl, hm⟩
end
end Go.Proofs.YtkofimhnehkdoaaGreatDoor.Rf
end
section
/- What the reader of terms computes: lists. -/
set_option linter.unusedSimpArgs false
set_option linter.unusedVariables false
namespace Go.Proofs.YtkofimhnehkdoaaGreatDoor.Rf
def numsN (op : Int) : Nat := if op = 21 then 2 else if op = 22 ∨ op = 23 then 1 else 0
def numR (s : List UInt8) (most : Int) : Int × Int := if (numE s).2 = 6 then (0, 6) else if (numE s).2 ≠ 0 ∨ most < (numE s).1 then (0, 2) else ((numE s).1, 0)
def S.z : S := .mk [] true []
/-- the value, the width and the error of the numerals of a list -/
def numsR (op : Int) (l : List S) : Int × Int × Int :=
  if op = 21 then
    (if (numR (l.getD 1 S.z).atom 18446744073709551615).2 ≠ 0 then (0, 0, (numR (l.getD 1 S.z).atom 18446744073709551615).2) else
     if (numR (l.getD 2 S.z).atom 64).2 ≠ 0 then (0, 0, (numR (l.getD 2 S.z).atom 64).2) else
     ((numR (l.getD 1 S.z).atom 18446744073709551615).1, (numR (l.getD 2 S.z).atom 64).1, 0))
  else if op = 22 ∨ op = 23 then
    (if (numR (l.getD 1 S.z).atom 64).2 ≠ 0 then (0, 0, (numR (l.getD 1 S.z).atom 64).2) else (0, (numR (l.getD 1 S.z).atom 64).1, 0))
  else (0, 0, 0)
inductive TRs where
  | ok (t : List T) | err (e : Int)
def TRs.cons (r : TR) (s : TRs) : TRs := match r with
  | .err e => .err e
  | .ok t => match s with
    | .err e => .err e
    | .ok ts => .ok (t :: ts)
/-- the node with the operands that were read -/
def nodeR (op v w : Int) (s : TRs) : TR := match s with
  | .err e => .err e
  | .ok ts => if (widE op w v (ts.map T.width)).2 ≠ 0 then .err (widE op w v (ts.map T.width)).2 else .ok (.mk op (widE op w v (ts.map T.width)).1 v [] ts.isEmpty ts)
def headR (l : List S) : Bool := decide (l ≠ []) && ((ofE (l.getD 0 S.z).atom).2 && (!decide (arE (ofE (l.getD 0 S.z).atom).1 = 0) && decide ((l.length : Int) = 1 + numsN (ofE (l.getD 0 S.z).atom).1 + arE (ofE (l.getD 0 S.z).atom).1)))
mutual
def readS : S → TR
  | .mk a o l => if a ≠ [] then leafR a else
    if headR l = false then .err 6 else
    if (numsR (ofE (l.getD 0 S.z).atom).1 l).2.2 ≠ 0 then .err (numsR (ofE (l.getD 0 S.z).atom).1 l).2.2 else
    nodeR (ofE (l.getD 0 S.z).atom).1 (numsR (ofE (l.getD 0 S.z).atom).1 l).1 (numsR (ofE (l.getD 0 S.z).atom).1 l).2.1 (readsS l (1 + numsN (ofE (l.getD 0 S.z).atom).1))
def readsS : List S → Nat → TRs
  | [], _ => .ok []
  | x :: r, k + 1 => readsS r k
  | x :: r, 0 => TRs.cons (readS x) (readsS r 0)
end
theorem readsS_drop : ∀ (l : List S) (k : Nat), readsS l k = readsS (l.drop k) 0
  | [], k => by simp [readsS]
  | x :: r, 0 => by simp
  | x :: r, k + 1 => by simp [readsS, readsS_drop r k]
theorem numR_code (s : List UInt8) (m : Int) : (numR s m).2 = 0 ∨ (numR s m).2 = 2 ∨ (numR s m).2 = 6 := by
  unfold numR; split
  · simp
  · split <;> simp
theorem numR_bd (s : List UInt8) (m : Int) (hm : 0 ≤ m) : 0 ≤ (numR s m).1 ∧ (numR s m).1 ≤ m := by
  have := numE_bd s
  unfold numR; split
  · simp; omega
  · split
    · simp; omega
    · rename_i h; simp only; omega
end Go.Proofs.YtkofimhnehkdoaaGreatDoor.Rf
end
section
/- The reader of terms: numerals of a list. -/
set_option linter.unusedSimpArgs false
set_option linter.unusedVariables false
namespace Go.Proofs.YtkofimhnehkdoaaGreatDoor.Rf
section
variable {hp : List HObj} {lo : Nat} (q : Bool)
def TR1 (hp : List HObj) (k : IntKind) (r : Int × Int) : COut := if r.2 = 0 then .ret (.int k r.1) hp else .pan (.iface 78 (.agg [.int .i64 r.2])) hp
theorem ttNumerals_D (op : Int) : callD G0 IP n_termtext_numerals [.int .i64 op] hp lo q = some (.ret (.int .i64 (numsN op)) hp) := by
  rw [callD_eq]
  by_cases h1 : op = 21
  · subst h1; simp [IP_termtext_numerals, i_termtext_numerals, numsN]
  · by_cases h2 : op = 22
    · subst h2; simp [IP_termtext_numerals, i_termtext_numerals, numsN]
    · by_cases h3 : op = 23
      · subst h3; simp [IP_termtext_numerals, i_termtext_numerals, numsN]
      · simp [IP_termtext_numerals, i_termtext_numerals, numsN, h1, h2, h3]
theorem plain7_D (op : Int) : callD G0 IP n_saturateref07_plain [.int .i64 op] hp lo q = some (.ret (.int .i64 (numsN op)) hp) := by
  rw [callD_eq]
  by_cases h1 : op = 21
  · subst h1; simp [IP_saturateref07_plain, i_saturateref07_plain, numsN]
  · by_cases h2 : op = 22
    · subst h2; simp [IP_saturateref07_plain, i_saturateref07_plain, numsN]
    · by_cases h3 : op = 23
      · subst h3; simp [IP_saturateref07_plain, i_saturateref07_plain, numsN]
      · simp [IP_saturateref07_plain, i_saturateref07_plain, numsN, h1, h2, h3]
theorem number_D (a : List UInt8) (o : Own) (l : List AV) (hs : a.length ≤ 140737488355328) (m : Int) : callD G0 IP n_termtext_number [.agg [.str a, .list l o], .int .u64 m] hp lo false = some (TR1 hp .u64 (numR a m)) := by
  rw [callD_eq]
  have hn := fun (hp : List HObj) (lo : Nat) (q : Bool) => ttNumeral_D (hp := hp) (lo := lo) q a hs
  by_cases h0 : a = []
  · subst h0
    have e : numR [] m = (0, 6) := by rfl
    simp [IP_termtext_number, i_termtext_number, must_D, e, TR1]
  · by_cases h1 : (numE a).2 = 6
    · have e : numR a m = (0, 6) := by simp [numR, h1]
      simp [IP_termtext_number, i_termtext_number, must_D, hn, h0, h1, e, TR1]
    · by_cases h2 : (numE a).2 = 0
      · by_cases h3 : (numE a).1 ≤ m
        · have e : numR a m = ((numE a).1, 0) := by simp [numR, h2]; omega
          simp [IP_termtext_number, i_termtext_number, must_D, hn, h0, h2, h3, e, TR1]
        · have e : numR a m = (0, 2) := by simp [numR, h2]; omega
          simp [IP_termtext_number, i_termtext_number, must_D, hn, h0, h2, h3, e, TR1]
      · have e : numR a m = (0, 2) := by simp [numR, h1, h2]
        simp [IP_termtext_number, i_termtext_number, must_D, hn, h0, h1, h2, e, TR1]
end
end Go.Proofs.YtkofimhnehkdoaaGreatDoor.Rf
end
section
/- The reader of terms: numerals of a list, the reference's. -/
set_option linter.unusedSimpArgs false
set_option linter.unusedVariables false
namespace Go.Proofs.YtkofimhnehkdoaaGreatDoor.Rf
theorem numR_max (s : List UInt8) : numR s 18446744073709551615 = if (numE s).2 ≠ 0 then (0, (numE s).2) else ((numE s).1, 0) := by
  have := numE_bd s
  rcases numE_code s with h | h | h
  · have h2 : ¬ 18446744073709551615 < (numE s).1 := by omega
    simp [numR, h]; omega
  · simp [numR, h]
  · simp [numR, h]
theorem numR_64 (s : List UInt8) : numR s 64 = if (numE s).2 ≠ 0 then (0, (numE s).2) else if 64 < (numE s).1 then (0, 2) else ((numE s).1, 0) := by
  rcases numE_code s with h | h | h <;> simp [numR, h]
section
variable {hp : List HObj} {lo : Nat} (q : Bool)
abbrev nfr (op : Int) (l : List AV) (o : Own) (v w : Int) (i : Int) : Fr := [(0, .int .i64 op), (1, .list l o), (7, .int .u64 v), (8, .int .i64 w), (9, .int .i64 i)]
theorem num7_end (op : Int) (l : List AV) (o : Own) (v w i : Int) (h : ¬ i ≤ (numsN op : Int)) : loopD G0 IP lo l_saturateref07_numerals_0 ⟨nfr op l o v w i, hp⟩ = some (.exit 0, ⟨nfr op l o v w i ++ [(15, .bool false)], hp⟩) := by
  rw [loopD_eq, loopBody]
  simp [l_saturateref07_numerals_0, plain7_D, h]
theorem num7_err (op : Int) (l : List AV) (o : Own) (v w : Int) (i : Nat) (x : S) (hx : l[i]? = some x.av) (hs : x.atom.length ≤ 9223372036854775807) (h : (i : Int) ≤ (numsN op : Int)) (he : (numE x.atom).2 ≠ 0) :
    loopD G0 IP lo l_saturateref07_numerals_0 ⟨nfr op l o v w i, hp⟩ = some (.ret, ⟨[(4, .int .u64 0), (5, .int .i64 0), (6, .int .i64 (numE x.atom).2)], hp⟩) := by
  rw [loopD_eq, loopBody]
  have hn := fun (hp : List HObj) (lo : Nat) (q : Bool) => number7_D (hp := hp) (lo := lo) q x.atom hs
  obtain ⟨hil, hxe⟩ := List.getElem?_eq_some_iff.1 hx
  rw [S.av_eq] at hxe
  simp [l_saturateref07_numerals_0, plain7_D, h, hil, hxe, hn, he]
theorem num7_val (l : List AV) (o : Own) (v w : Int) (x : S) (hx : l[1]? = some x.av) (hs : x.atom.length ≤ 9223372036854775807) (he : (numE x.atom).2 = 0) :
    loopD G0 IP lo l_saturateref07_numerals_0 ⟨nfr 21 l o v w 1, hp⟩ = loopD G0 IP lo l_saturateref07_numerals_0 ⟨nfr 21 l o (numE x.atom).1 w 2, hp⟩ := by
  conv => lhs; rw [loopD_eq, loopBody]
  have hn := fun (hp : List HObj) (lo : Nat) (q : Bool) => number7_D (hp := hp) (lo := lo) q x.atom hs
  obtain ⟨hil, hxe⟩ := List.getElem?_eq_some_iff.1 hx
  rw [S.av_eq] at hxe
  have h : (1 : Int) ≤ (numsN 21 : Int) := by decide
  have hw : IntKind.wrap .i64 (1 + 1) = 2 := rfl
  have hil2 : (1 : Int) < (l.length : Int) := by omega
  simp [l_saturateref07_numerals_0, plain7_D, h, hil, hil2, hxe, hn, he, hw]
  rfl
theorem num7_big (op : Int) (l : List AV) (o : Own) (v w : Int) (i : Nat) (x : S) (hx : l[i]? = some x.av) (hs : x.atom.length ≤ 9223372036854775807) (h : (i : Int) ≤ (numsN op : Int)) (he : (numE x.atom).2 = 0) (hi : ¬ (i = 1 ∧ op = 21)) (hb : 64 < (numE x.atom).1) :
    loopD G0 IP lo l_saturateref07_numerals_0 ⟨nfr op l o v w i, hp⟩ = some (.ret, ⟨[(4, .int .u64 0), (5, .int .i64 0), (6, .int .i64 2)], hp⟩) := by
  rw [loopD_eq, loopBody]
  have hn := fun (hp : List HObj) (lo : Nat) (q : Bool) => number7_D (hp := hp) (lo := lo) q x.atom hs
  obtain ⟨hil, hxe⟩ := List.getElem?_eq_some_iff.1 hx
  rw [S.av_eq] at hxe
  by_cases h0 : i = 1
  · have h2 : ¬ op = 21 := fun e => hi ⟨by omega, e⟩
    subst h0
    have hil2 : (1 : Int) < (l.length : Int) := by omega
    simp only [Int.natCast_one] at h ⊢
    simp [l_saturateref07_numerals_0, plain7_D, h, hil, hxe, hil2, hn, he, h2, hb]
  · have h1 : ¬ (i : Int) = 1 := by omega
    simp [l_saturateref07_numerals_0, plain7_D, h, hil, hxe, hn, he, h1, hb]
theorem num7_w (op : Int) (l : List AV) (o : Own) (v w : Int) (i : Nat) (hi2 : i ≤ 2) (x : S) (hx : l[i]? = some x.av) (hs : x.atom.length ≤ 9223372036854775807) (h : (i : Int) ≤ (numsN op : Int)) (he : (numE x.atom).2 = 0) (hi : ¬ (i = 1 ∧ op = 21)) (hb : ¬ 64 < (numE x.atom).1) :
    loopD G0 IP lo l_saturateref07_numerals_0 ⟨nfr op l o v w i, hp⟩ = loopD G0 IP lo l_saturateref07_numerals_0 ⟨nfr op l o v (numE x.atom).1 ((i : Int) + 1), hp⟩ := by
  conv => lhs; rw [loopD_eq, loopBody]
  have hn := fun (hp : List HObj) (lo : Nat) (q : Bool) => number7_D (hp := hp) (lo := lo) q x.atom hs
  have hbd := numE_bd x.atom
  have e1 : IntKind.wrap .i64 (numE x.atom).1 = (numE x.atom).1 := wrap_small (by omega) (by omega)
  have hw : IntKind.wrap .i64 ((i : Int) + 1) = (i : Int) + 1 := wrap_small (by omega) (by omega)
  obtain ⟨hil, hxe⟩ := List.getElem?_eq_some_iff.1 hx
  rw [S.av_eq] at hxe
  by_cases h0 : i = 1
  · have h2 : ¬ op = 21 := fun e => hi ⟨by omega, e⟩
    subst h0
    have hil2 : (1 : Int) < (l.length : Int) := by omega
    simp only [Int.natCast_one] at h hw ⊢
    simp [l_saturateref07_numerals_0, plain7_D, h, hil, hxe, hil2, hn, he, h2, hb, e1, hw]
    rfl
  · have h1 : ¬ (i : Int) = 1 := by omega
    simp [l_saturateref07_numerals_0, plain7_D, h, hil, hxe, hn, he, h1, hb, e1, hw]
set_option maxHeartbeats 1000000 in
theorem numerals7_D (op : Int) (l : List S) (o : Own) (hl : numsN op < l.length) (hs : ∀ x, x ∈ l → x.atom.length ≤ 9223372036854775807) :
    callD G0 IP n_saturateref07_numerals [.int .i64 op, .list (S.avs l) o] hp lo q = some (.ret (.tup [.int .u64 (numsR op l).1, .int .i64 (numsR op l).2.1, .int .i64 (numsR op l).2.2]) hp) := by
  rw [callD_eq]
  by_cases h21 : op = 21
  · subst h21
    have hl : 2 < l.length := hl
    have g1 : (S.avs l)[1]? = some l[1].av := S.avs_get (by omega)
    have g2 : (S.avs l)[2]? = some l[2].av := S.avs_get (by omega)
    have d1 : l.getD 1 S.z = l[1] := by simp [List.getD, show 1 < l.length by omega]
    have d2 : l.getD 2 S.z = l[2] := by simp [List.getD, hl]
    have m1 := hs l[1] (List.getElem_mem _)
    have m2 := hs l[2] (List.getElem_mem _)
    have n1 : ((1 : Nat) : Int) ≤ (numsN 21 : Int) := by decide
    have n2 : ((2 : Nat) : Int) ≤ (numsN 21 : Int) := by decide
    simp only [numsR, if_true, d1, d2, numR_max, numR_64]
    by_cases e1 : (numE l[1].atom).2 = 0
    · have k1 := num7_val (hp := hp) (lo := hp.length) (S.avs l) o 0 0 l[1] g1 m1 e1
      by_cases e2 : (numE l[2].atom).2 = 0
      · by_cases b : (64 : Int) < (numE l[2].atom).1
        · have k2 : loopD G0 IP hp.length l_saturateref07_numerals_0 ⟨nfr 21 (S.avs l) o (numE l[1].atom).1 0 2, hp⟩ = _ := num7_big (hp := hp) (lo := hp.length) 21 (S.avs l) o (numE l[1].atom).1 0 2 l[2] g2 m2 n2 e2 (by omega) b
          simp [IP_saturateref07_numerals, i_saturateref07_numerals, k1, k2, e1, e2, b]
        · have k2 : loopD G0 IP hp.length l_saturateref07_numerals_0 ⟨nfr 21 (S.avs l) o (numE l[1].atom).1 0 2, hp⟩ = loopD G0 IP hp.length l_saturateref07_numerals_0 ⟨nfr 21 (S.avs l) o (numE l[1].atom).1 (numE l[2].atom).1 3, hp⟩ := num7_w (hp := hp) (lo := hp.length) 21 (S.avs l) o (numE l[1].atom).1 0 2 (by omega) l[2] g2 m2 n2 e2 (by omega) b
          have k3 := num7_end (hp := hp) (lo := hp.length) 21 (S.avs l) o (numE l[1].atom).1 (numE l[2].atom).1 3 (by decide)
          simp [IP_saturateref07_numerals, i_saturateref07_numerals, k1, k2, k3, e1, e2, b]
      · have k2 : loopD G0 IP hp.length l_saturateref07_numerals_0 ⟨nfr 21 (S.avs l) o (numE l[1].atom).1 0 2, hp⟩ = _ := num7_err (hp := hp) (lo := hp.length) 21 (S.avs l) o (numE l[1].atom).1 0 2 l[2] g2 m2 n2 e2
        simp [IP_saturateref07_numerals, i_saturateref07_numerals, k1, k2, e1, e2]
    · have k1 : loopD G0 IP hp.length l_saturateref07_numerals_0 ⟨nfr 21 (S.avs l) o 0 0 1, hp⟩ = _ := num7_err (hp := hp) (lo := hp.length) 21 (S.avs l) o 0 0 1 l[1] g1 m1 n1 e1
      simp [IP_saturateref07_numerals, i_saturateref07_numerals, k1, e1]
  · by_cases h2 : op = 22 ∨ op = 23
    · have hN : numsN op = 1 := by simp [numsN, h21, h2]
      rw [hN] at hl
      have g1 : (S.avs l)[1]? = some l[1].av := S.avs_get hl
      have d1 : l.getD 1 S.z = l[1] := by simp [List.getD, hl]
      have m1 := hs l[1] (List.getElem_mem _)
      have n1 : ((1 : Nat) : Int) ≤ (numsN op : Int) := by rw [hN]; decide
      simp only [numsR, if_neg h21, if_pos h2, d1, numR_64]
      by_cases e1 : (numE l[1].atom).2 = 0
      · by_cases b : (64 : Int) < (numE l[1].atom).1
        · have k1 : loopD G0 IP hp.length l_saturateref07_numerals_0 ⟨nfr op (S.avs l) o 0 0 1, hp⟩ = _ := num7_big (hp := hp) (lo := hp.length) op (S.avs l) o 0 0 1 l[1] g1 m1 n1 e1 (by omega) b
          simp [IP_saturateref07_numerals, i_saturateref07_numerals, k1, e1, b]
        · have k1 : loopD G0 IP hp.length l_saturateref07_numerals_0 ⟨nfr op (S.avs l) o 0 0 1, hp⟩ = loopD G0 IP hp.length l_saturateref07_numerals_0 ⟨nfr op (S.avs l) o 0 (numE l[1].atom).1 2, hp⟩ := num7_w (hp := hp) (lo := hp.length) op (S.avs l) o 0 0 1 (by omega) l[1] g1 m1 n1 e1 (by omega) b
          have k2 := num7_end (hp := hp) (lo := hp.length) op (S.avs l) o 0 (numE l[1].atom).1 2 (by rw [hN]; decide)
          simp [IP_saturateref07_numerals, i_saturateref07_numerals, k1, k2, e1, b]
      · have k1 : loopD G0 IP hp.length l_saturateref07_numerals_0 ⟨nfr op (S.avs l) o 0 0 1, hp⟩ = _ := num7_err (hp := hp) (lo := hp.length) op (S.avs l) o 0 0 1 l[1] g1 m1 n1 e1
        simp [IP_saturateref07_numerals, i_saturateref07_numerals, k1, e1]
    · have hN : numsN op = 0 := by simp [numsN, h21, h2]
      have k1 := num7_end (hp := hp) (lo := hp.length) op (S.avs l) o 0 0 1 (by rw [hN]; decide)
      simp only [numsR, if_neg h21, if_neg h2]
      simp [IP_saturateref07_numerals, i_saturateref07_numerals, k1]
end
end Go.Proofs.YtkofimhnehkdoaaGreatDoor.Rf
end
section
/- The reader of terms: the reference's. -/
set_option linter.unusedSimpArgs false
set_option linter.unusedVariables false
namespace Go.Proofs.YtkofimhnehkdoaaGreatDoor.Rf
section
variable {hp : List HObj} {lo : Nat} (q : Bool)
theorem of4_D (s : List UInt8) : callD G0 IP n_saturateref04_Of [.str s] hp lo q = some (.ret (.tup [.int .i64 (ofE s).1, .bool (ofE s).2]) hp) := by
  rw [callD_eq]
  have hname : ∀ i : Nat, i < 26 → nameE ((i : Int) + 1) = nm (i + 1) := fun i hi => by
    have : opOk ((i : Int) + 1) = true := by simp [opOk]; omega
    unfold nameE; rw [if_pos this]; congr 1
  have hloop := loop_some (G := G0) (IP := IP) (lo := hp.length) (b := l_saturateref04_Of_0)
    (fun i => ⟨[(0, .str s), (4, .int .i64 ((i : Int) + 1))], hp⟩) 26 (fun i => decide (nm (i + 1) = s)) (fun i => (.ret, ⟨[(2, .int .i64 ((i : Int) + 1)), (3, .bool true)], hp⟩))
    (.exit 0, ⟨[(0, .str s), (4, .int .i64 27), (6, .bool false)], hp⟩)
    (fun i hi hp1 => by
      have e1 : (i : Int) + 1 ≤ 26 := by omega
      have e5 : IntKind.wrap .i64 ((i : Int) + 1 + 1) = (i : Int) + 1 + 1 := wrap_small (by omega) (by omega)
      have e6 := hname i hi
      simp only [decide_eq_false_iff_not] at hp1
      simp [l_saturateref04_Of_0, name4_D, e1, e5, e6, hp1])
    (fun i hi hp1 => by
      have e1 : (i : Int) + 1 ≤ 26 := by omega
      have e6 := hname i hi
      simp only [decide_eq_true_eq] at hp1
      simp [l_saturateref04_Of_0, name4_D, e1, e6, hp1])
    (fun i s => by simp) (by simp [l_saturateref04_Of_0]) (by simp)
  simp only [Int.natCast_zero, Int.zero_add] at hloop
  rcases hloop with ⟨m, hm, hp1, hp2, hl⟩ | ⟨hno, hl⟩
  · have hf : (List.range 26).find? (fun i => decide (nm (i + 1) = s)) = some m := by
      rw [List.find?_range_eq_some]
      exact ⟨hp1, by simpa using hm, fun j hj => by simpa using hp2 j hj⟩
    have he : ofE s = (((m + 1 : Nat) : Int), true) := by simp [ofE, hf]
    simp [IP_saturateref04_Of, i_saturateref04_Of, hl, he]
  · have hf : (List.range 26).find? (fun i => decide (nm (i + 1) = s)) = none := by
      rw [List.find?_eq_none]
      intro i hi; simp at hi; have := hno i hi; simpa using this
    have he : ofE s = (0, false) := by simp [ofE, hf]
    simp [IP_saturateref04_Of, i_saturateref04_Of, hl, he]
end
theorem ofE_ok {s : List UInt8} (h : (ofE s).2 = true) : opOk (ofE s).1 = true := by
  unfold ofE at h ⊢
  split at h
  · rename_i i hi
    have := List.mem_of_find?_eq_some hi
    simp at this
    simp [opOk]; omega
  · simp at h
theorem leafB_ar {op : Int} (h : opOk op = true) : leafB op = decide (arE op = 0) := by
  rcases opOk_cases h with rfl | rfl | rfl | rfl | rfl | rfl | rfl | rfl | rfl | rfl | rfl | rfl | rfl | rfl | rfl | rfl | rfl | rfl | rfl | rfl | rfl | rfl | rfl | rfl | rfl | rfl
  all_goals rfl
theorem z_av : T.z.av = .agg [.int .i64 0, .int .i64 0, .int .u64 0, .str [], .list [] .nil] := rfl
theorem arE_bd (op : Int) : -1 ≤ arE op ∧ arE op ≤ 3 := by
  unfold arE; split
  · omega
  · split
    · omega
    · split
      · omega
      · split <;> omega
theorem numsN_bd (op : Int) : numsN op ≤ 2 := by
  unfold numsN; split
  · omega
  · split <;> omega
/-! atoms that are short enough -/
mutual
def S.sm : S → Prop
  | .mk a _ l => a.length ≤ 140737488355328 ∧ S.sms l
def S.sms : List S → Prop
  | [] => True
  | t :: r => t.sm ∧ S.sms r
end
theorem S.sms_iff : ∀ l : List S, S.sms l ↔ ∀ t, t ∈ l → t.sm
  | [] => by simp [S.sms]
  | t :: r => by simp [S.sms, S.sms_iff r]
theorem S.sm_eq (t : S) : t.sm ↔ t.atom.length ≤ 140737488355328 ∧ ∀ u, u ∈ t.list → u.sm := by
  cases t; simp only [S.sm, S.atom, S.list, S.sms_iff]
/-! an error is not zero -/
theorem constR_ne {l : List UInt8} {w e c : Int} (h : constR l w e = .err c) : c ≠ 0 := by
  unfold constR at h
  split at h
  · cases h; simp
  · split at h
    · cases h; simp
    · split at h
      · rename_i k; cases h; exact k
      · cases h
theorem leafR_ne {s : List UInt8} {c : Int} (h : leafR s = .err c) : c ≠ 0 := by
  unfold leafR at h
  split at h
  · cases h; simp
  · split at h
    · exact constR_ne h
    · split at h
      · cases h; simp
      · split at h
        · cases h; simp
        · cases h
mutual
theorem readS_ne : ∀ (e : S) (c : Int), readS e = .err c → c ≠ 0
  | .mk a o l, c, h => by
    rw [readS] at h
    split at h
    · exact leafR_ne h
    · split at h
      · cases h; simp
      · split at h
        · rename_i k; cases h; exact k
        · cases hs : readsS l (1 + numsN (ofE (l.getD 0 S.z).atom).1) with
          | err e => rw [hs] at h; simp only [nodeR] at h; cases h; exact readsS_ne l _ _ hs
          | ok ts =>
            rw [hs] at h; simp only [nodeR] at h
            split at h
            · rename_i k; cases h; exact k
            · cases h
theorem readsS_ne : ∀ (l : List S) (k : Nat) (c : Int), readsS l k = .err c → c ≠ 0
  | [], k, c, h => by simp [readsS] at h
  | x :: r, k + 1, c, h => by rw [readsS] at h; exact readsS_ne r k c h
  | x :: r, 0, c, h => by
    rw [readsS] at h
    cases hx : readS x with
    | err e => rw [hx] at h; simp only [TRs.cons] at h; cases h; exact readS_ne x _ hx
    | ok t =>
      cases hr : readsS r 0 with
      | err e => rw [hx, hr] at h; simp only [TRs.cons] at h; cases h; exact readsS_ne r 0 _ hr
      | ok us => rw [hx, hr] at h; simp only [TRs.cons] at h; cases h
end
def ownT (acc : List T) : Own := if acc.isEmpty then .nil else .own 5 0
@[simp] theorem ownT_cp (acc : List T) : (ownT acc).cp = ownB acc.isEmpty := by cases acc <;> rfl
@[simp] theorem ownT_app (acc : List T) (x : T) : ownT (acc ++ [x]) = .own 5 0 := by cases acc <;> rfl
theorem ownT_ok (acc : List T) : ownT acc = .nil ∨ ownT acc = .own 5 0 := by cases acc <;> simp [ownT]
theorem T.avs_app (a b : List T) : T.avs (a ++ b) = T.avs a ++ T.avs b := by simp [T.avs_eq]
def wds (acc : List T) : List AV := (acc.map T.width).map (AV.int .i64)
@[simp] theorem wds_len (acc : List T) : (wds acc).length = acc.length := by simp [wds]
@[simp] theorem wds_nil : wds [] = [] := rfl
theorem wds_app (acc : List T) (t : T) : wds (acc ++ [t]) = wds acc ++ [.int .i64 t.width] := by simp [wds]
abbrev boxZ : AV := .box [.int .i64 0, .int .i64 0, .int .u64 0, .str [], .list [] .nil]
abbrev fr7 (e : S) (op v w : Int) (acc : List T) (i : Int) : Fr := [(1, .box [.str e.atom, .list (S.avs e.list) (ownB e.o)]), (2, boxZ), (4, .int .i64 op), (6, .int .u64 v), (7, .int .i64 w), (9, .box [.int .i64 op, .int .i64 0, .int .u64 v, .str [], .list (T.avs acc) (ownT acc)]), (10, .list (wds acc) (.own 1 0)), (11, .int .i64 i)]
@[simp] theorem T.okSize_avs (l : List T) : okSize 5 (T.avs l) = true := by
  cases l with
  | nil => rfl
  | cons t r => simp [T.avs, T.av_eq]
@[simp] theorem okSize_wds (l : List T) : okSize 1 (wds l) = true := by
  cases l with
  | nil => rfl
  | cons t r => simp [wds]
def out7 (e : S) (op v w : Int) (hp : List HObj) (acc : List T) : TRs → Ex × St
  | .err c => (.ret, ⟨[(2, boxZ), (3, .int .i64 c)], hp⟩)
  | .ok ts => (.exit 0, ⟨fr7 e op v w (acc ++ ts) e.list.length ++ [(80, .bool false)], hp⟩)
theorem out7_cons (e : S) (op v w : Int) (hp : List HObj) (acc : List T) (t : T) (s : TRs) : out7 e op v w hp acc (TRs.cons (.ok t) s) = out7 e op v w hp (acc ++ [t]) s := by
  cases s <;> simp [out7, TRs.cons]
section
variable {hp : List HObj} {lo : Nat} (q : Bool)
set_option maxHeartbeats 1000000 in
theorem read7_L (e : S) (he : e.list.length ≤ 10) (op v w : Int) : ∀ (r p : List S) (acc : List T), e.list = p ++ r → acc.length ≤ p.length →
    (∀ x, x ∈ r → ∀ (hp : List HObj) (lo : Nat) (q : Bool), callD G0 IP n_saturateref07_Read [x.av] hp lo q = some ((readS x).tup hp)) →
    loopD G0 IP lo l_saturateref07_Read_0 ⟨fr7 e op v w acc p.length, hp⟩ =
      some (out7 e op v w hp acc (readsS r 0))
  | [], p, acc, h, ha, _ => by
    rw [loopD_eq, loopBody]
    simp at h
    simp [l_saturateref07_Read_0, readsS, h, out7]
  | x :: r, p, acc, h, ha, ih => by
    rw [loopD_eq, loopBody]
    have hlen : e.list.length = p.length + (r.length + 1) := by rw [h]; simp
    have h1 : (p.length : Int) < (e.list.length : Int) := by omega
    have hl : p.length < e.list.length := by omega
    have h2 : e.list[p.length] = x := by simp [h]
    have hw : IntKind.wrap .i64 ((p.length : Int) + 1) = (p.length : Int) + 1 := wrap_small (by omega) (by omega)
    have e1 := ih x (by simp) hp lo false
    have ne := readS_ne x
    rw [readsS]
    cases hx : readS x with
    | err c =>
      have hc := ne c hx
      rw [hx] at e1
      simp only [TR.tup, TR.t, TR.e, z_av] at e1
      rw [S.av_eq] at e1
      simp [l_saturateref07_Read_0, hl, h1, h2, S.av_eq x, e1, hc, TRs.cons, out7]
    | ok t =>
      rw [hx] at e1
      simp only [TR.tup, TR.t, TR.e] at e1
      rw [S.av_eq, T.av_eq] at e1
      have e2 := read7_L e he op v w r (p ++ [x]) (acc ++ [t]) (by rw [h]; simp) (by simp; omega) (fun y hy => ih y (by simp [hy]))
      simp only [List.length_append, List.length_cons, List.length_nil, Nat.zero_add, Int.natCast_add, Int.natCast_one] at e2
      have hb1 : (acc.length + 1) * 64 ≤ 140737488355328 := by omega
      have hb2 : acc.length + 1 ≤ 9223372036854775807 := by omega
      have hb3 : (acc.length + 1) * 8 ≤ 140737488355328 := by omega
      rw [fr7, wds_app, T.avs_app, ownT_app, show T.avs [t] = [.agg [.int .i64 t.op, .int .i64 t.width, .int .u64 t.val, .str t.name, .list (T.avs t.args) (ownB t.o)]] by simp [T.avs, T.av_eq]] at e2
      rw [out7_cons]
      simp [l_saturateref07_Read_0, hl, h1, h2, S.av_eq x, e1, hb1, hb2, hb3, ownT_ok, hw]
      exact e2
end
end Go.Proofs.YtkofimhnehkdoaaGreatDoor.Rf
end
section
/- What the writer of terms computes; what is written is read. -/
set_option linter.unusedSimpArgs false
set_option linter.unusedVariables false
namespace Go.Proofs.YtkofimhnehkdoaaGreatDoor.Rf
def notE (t : T) : Bool := decide (0 ≤ t.width) && (decide (t.width ≤ 64) && (decide ((t.args.length : Int) = arE t.op) && (if t.op = 1 ∨ t.op = 24 ∨ t.op = 25 then nameOk t.name && decide (t.val = 0) else if t.op = 2 ∨ t.op = 21 then decide (t.name = []) else decide (t.name = []) && decide (t.val = 0))))
theorem notE_mk (op w v : Int) (n : List UInt8) (o : Bool) (as : List T) : notE (.mk op w v n o as) = (decide (0 ≤ w) && (decide (w ≤ 64) && (decide ((as.length : Int) = arE op) && (if op = 1 ∨ op = 24 ∨ op = 25 then nameOk n && decide (v = 0) else if op = 2 ∨ op = 21 then decide (n = []) else decide (n = []) && decide (v = 0))))) := rfl
def decI (n : Int) : List UInt8 := dec n.toNat
def aS (a : List UInt8) : S := .mk a true []
/-- the atoms ahead of the operands -/
def headW (op w v : Int) : List S := aS (nameE op) :: ((if op = 21 then [aS (decI v)] else []) ++ (if op = 21 ∨ op = 22 ∨ op = 23 then [aS (decI w)] else []))
mutual
def writeT : T → S
  | .mk op w v n o as => if notE (.mk op w v n o as) = false then aS [63] else
    if op = 1 then aS (n ++ 58 :: decI w) else
    if op = 24 then aS (63 :: (n ++ 58 :: decI w)) else
    if op = 25 then aS (35 :: (n ++ 58 :: decI w)) else
    if op = 2 then aS (decI v ++ 58 :: decI w) else
    .mk [] false (headW op w v ++ writeTs as)
def writeTs : List T → List S
  | [] => []
  | t :: r => writeT t :: writeTs r
end
mutual
def T.valid : T → Bool
  | .mk op w v n o as => T.valids as && (notE (.mk op w v n o as) && (decide ((widE op w v (as.map T.width)).2 = 0) && decide ((widE op w v (as.map T.width)).1 = w)))
def T.valids : List T → Bool
  | [] => true
  | t :: r => t.valid && T.valids r
end
mutual
def T.norm : T → T
  | .mk op w v n o as => .mk op w v n as.isEmpty (T.norms as)
def T.norms : List T → List T
  | [] => []
  | t :: r => t.norm :: T.norms r
end
theorem writeTs_len : ∀ as : List T, (writeTs as).length = as.length
  | [] => rfl
  | t :: r => by simp [writeTs, writeTs_len r]
theorem T.norms_len : ∀ as : List T, (T.norms as).length = as.length
  | [] => rfl
  | t :: r => by simp [T.norms, T.norms_len r]
theorem T.norms_isEmpty (as : List T) : (T.norms as).isEmpty = as.isEmpty := by cases as <;> rfl
theorem T.norm_width (t : T) : t.norm.width = t.width := by cases t; rfl
theorem T.norms_width : ∀ as : List T, (T.norms as).map T.width = as.map T.width
  | [] => rfl
  | t :: r => by simp [T.norms, T.norms_width r, T.norm_width t]
mutual
theorem T.norm_same : ∀ t : T, t.norm.same t = true
  | .mk op w v n o as => by simp [T.norm, T.same, T.norms_same as]
theorem T.norms_same : ∀ as : List T, T.sames (T.norms as) as = true
  | [] => rfl
  | t :: r => by simp [T.norms, T.sames, T.norm_same t, T.norms_same r]
end
/-! numerals and names ahead of a colon -/
theorem idxB_app : ∀ (n r : List UInt8) (c : UInt8), c ∉ n → idxB (n ++ c :: r) c = n.length
  | [], r, c, _ => by simp [idxB]
  | b :: n, r, c, h => by
    have ih := idxB_app n r c (fun hm => h (by simp [hm]))
    have hb : ¬ b = c := fun e => h (by simp [e])
    have h1 : ¬ (n.length : Int) = -1 := by omega
    simp [idxB, hb, ih, h1]
theorem cutB_app (n r : List UInt8) (c : UInt8) (h : c ∉ n) : cutB (n ++ c :: r) c = (n, r, true) := by
  unfold cutB; rw [idxB_app n r c h, if_pos (by omega)]; simp
theorem nameOk_mem {n : List UInt8} (h : nameOk n = true) : n ≠ [] ∧ n.length ≤ 16 ∧ 97 ≤ bt n 0 ∧ bt n 0 ≤ 122 ∧ ∀ c, c ∈ n → nameC (c.toNat : Int) = true := by
  simp only [nameOk, lowC, Bool.and_eq_true, decide_eq_true_eq, List.all_eq_true] at h
  obtain ⟨h1, h2, ⟨h3, h4⟩, h5⟩ := h
  exact ⟨fun e => by subst e; simp at h1, h2, h3, h4, h5⟩
theorem nameOk_colon {n : List UInt8} (h : nameOk n = true) : (58 : UInt8) ∉ n := fun hm => by
  have := (nameOk_mem h).2.2.2.2 58 hm
  revert this; decide
theorem decI_digs (n : Int) : ∀ c, c ∈ decI n → isDig c = true := dec_digs _
theorem decI_colon (n : Int) : (58 : UInt8) ∉ decI n := fun hm => by
  have := decI_digs n 58 hm
  revert this; decide
theorem numE_decI {w : Int} (h0 : 0 ≤ w) (h1 : w < 18446744073709551616) : numE (decI w) = (w, 0) := by
  have h := numE_dec (n := w.toNat) (by omega)
  unfold decI; rw [h]
  have : ((w.toNat : Nat) : Int) = w := Int.toNat_of_nonneg h0
  rw [this]
theorem leaf_name {l n : List UInt8} {w : Int} (h0 : 0 ≤ w) (h1 : w ≤ 64) (hc : (58 : UInt8) ∉ l) (hn : leafNm l = n) (hk : nameOk n = true) (hd : ¬ (48 ≤ bt (l ++ 58 :: decI w) 0 ∧ bt (l ++ 58 :: decI w) 0 ≤ 57)) :
    leafR (l ++ 58 :: decI w) = .ok (.mk (leafOp l) w 0 n true []) := by
  unfold leafR
  rw [cutB_app _ _ _ hc]
  simp only [numE_decI h0 (show w < 18446744073709551616 by omega)]
  rw [if_neg (by simp), if_neg hd, hn, hk, if_neg (by simp), if_neg (by simp; omega)]
theorem leaf_const {v w : Int} (h0 : 0 ≤ w) (h1 : w ≤ 64) (g0 : 0 ≤ v) (g1 : v < 18446744073709551616) (hw : (widE 2 w v []).2 = 0) : leafR (decI v ++ 58 :: decI w) = .ok (.mk 2 w v [] true []) := by
  unfold leafR
  rw [cutB_app _ _ _ (decI_colon v)]
  simp only [numE_decI h0 (show w < 18446744073709551616 by omega)]
  have hd : 48 ≤ bt (decI v ++ 58 :: decI w) 0 ∧ bt (decI v ++ 58 :: decI w) 0 ≤ 57 := by
    cases hh : decI v with
    | nil => exact absurd hh (dec_ne _)
    | cons c r =>
      have := decI_digs v c (by rw [hh]; simp)
      simp only [isDig, Bool.and_eq_true, decide_eq_true_eq] at this
      have e : bt (c :: r ++ 58 :: decI w) 0 = (c.toNat : Int) := rfl
      rw [e]; omega
  rw [if_neg (by simp), if_pos hd]
  unfold constR
  simp only [numE_decI g0 g1]
  rw [if_neg (by simp), if_neg (by simp; omega), if_neg (by simp [hw])]
theorem ofE_name {op : Int} (h : opOk op = true) : ofE (nameE op) = (op, true) := by
  rcases opOk_cases h with rfl | rfl | rfl | rfl | rfl | rfl | rfl | rfl | rfl | rfl | rfl | rfl | rfl | rfl | rfl | rfl | rfl | rfl | rfl | rfl | rfl | rfl | rfl | rfl | rfl | rfl
  all_goals decide +kernel
theorem arE_ok {op : Int} (h : arE op ≠ -1) : opOk op = true := by
  cases h2 : opOk op with
  | true => rfl
  | false => exact absurd (by simp [arE, h2]) h
theorem arE_ne {op : Int} (h : opOk op = true) (h1 : op ≠ 1) (h2 : op ≠ 2) (h3 : op ≠ 24) (h4 : op ≠ 25) : arE op ≠ 0 := by
  unfold arE
  rw [if_neg (by simp [h]), if_neg (by omega)]
  split
  · omega
  · split <;> omega
theorem widE_any {op : Int} (w v w' v' : Int) (as : List Int) (h1 : op ≠ 1) (h2 : op ≠ 2) (h3 : op ≠ 24) (h4 : op ≠ 25) (h5 : op ≠ 21) (h6 : op ≠ 22) (h7 : op ≠ 23) : widE op w v as = widE op w' v' as := by
  unfold widE
  simp [h1, h2, h3, h4, h5, h6, h7]
theorem bt_cons (c : UInt8) (r : List UInt8) : bt (c :: r) 0 = (c.toNat : Int) := rfl
theorem bt_app {n r : List UInt8} (h : n ≠ []) : bt (n ++ r) 0 = bt n 0 := by
  cases n with
  | nil => exact absurd rfl h
  | cons c n => rfl
theorem numR_decI {v m : Int} (h0 : 0 ≤ v) (h1 : v ≤ m) (h2 : v < 18446744073709551616) : numR (decI v) m = (v, 0) := by
  unfold numR; rw [numE_decI h0 h2]; simp; omega
mutual
theorem read_write : ∀ t : T, t.wf → t.valid = true → readS (writeT t) = .ok t.norm
  | .mk op w v n o as, hw, hv => by
    simp only [T.wf] at hw
    obtain ⟨_, _, w3, _, _, _, w7⟩ := hw
    have wv : 0 ≤ v ∧ v < 18446744073709551616 := by simp [Lit.wf, IntKind.min, IntKind.max, IntKind.signed, IntKind.bits] at w3; omega
    simp only [T.valid, Bool.and_eq_true, decide_eq_true_eq] at hv
    obtain ⟨v1, v2, v3, v4⟩ := hv
    have ih := reads_writes as w7 v1
    have hN := v2
    rw [notE_mk] at hN
    simp only [Bool.and_eq_true, decide_eq_true_eq] at hN
    obtain ⟨n0, n1, n2, n3⟩ := hN
    have hop : opOk op = true := arE_ok (by omega)
    rw [writeT, if_neg (by rw [v2]; simp)]
    have leaf0 : arE op = 0 → as = [] := fun h => List.length_eq_zero_iff.1 (by omega)
    by_cases h1 : op = 1
    · subst h1
      obtain rfl := leaf0 rfl
      simp only [true_or, if_true, Bool.and_eq_true, decide_eq_true_eq] at n3
      obtain ⟨m1, m2⟩ := n3
      have hm := nameOk_mem m1
      have hb : bt (n ++ 58 :: decI w) 0 = bt n 0 := bt_app hm.1
      have e1 : leafNm n = n := by unfold leafNm; rw [if_neg (by omega)]
      have e2 : leafOp n = 1 := by unfold leafOp; rw [if_neg (by omega), if_neg (by omega)]
      rw [if_pos rfl, aS, readS, if_pos (by simp), leaf_name n0 n1 (nameOk_colon m1) e1 m1 (by rw [hb]; omega), e2, m2]
      rfl
    rw [if_neg h1]
    by_cases h2 : op = 24
    · subst h2
      obtain rfl := leaf0 rfl
      have n3' : (nameOk n && decide (v = 0)) = true := n3
      simp only [Bool.and_eq_true, decide_eq_true_eq] at n3'
      obtain ⟨m1, m2⟩ := n3'
      have hm := nameOk_mem m1
      rw [if_pos rfl, aS, readS, if_pos (by simp)]
      have hc : (58 : UInt8) ∉ (63 : UInt8) :: n := by
        intro h; rcases List.mem_cons.1 h with h | h
        · revert h; decide
        · exact nameOk_colon m1 h
      have := leaf_name (l := 63 :: n) n0 n1 hc (by rfl) m1 (by rw [List.cons_append, bt_cons]; decide)
      rw [List.cons_append] at this
      rw [this, m2]; rfl
    rw [if_neg h2]
    by_cases h3 : op = 25
    · subst h3
      obtain rfl := leaf0 rfl
      have n3' : (nameOk n && decide (v = 0)) = true := n3
      simp only [Bool.and_eq_true, decide_eq_true_eq] at n3'
      obtain ⟨m1, m2⟩ := n3'
      have hm := nameOk_mem m1
      rw [if_pos rfl, aS, readS, if_pos (by simp)]
      have hc : (58 : UInt8) ∉ (35 : UInt8) :: n := by
        intro h; rcases List.mem_cons.1 h with h | h
        · revert h; decide
        · exact nameOk_colon m1 h
      have := leaf_name (l := 35 :: n) n0 n1 hc (by rfl) m1 (by rw [List.cons_append, bt_cons]; decide)
      rw [List.cons_append] at this
      rw [this, m2]; rfl
    rw [if_neg h3]
    by_cases h4 : op = 2
    · subst h4
      obtain rfl := leaf0 rfl
      have n3' : decide (n = []) = true := n3
      simp only [decide_eq_true_eq] at n3'
      subst n3'
      rw [if_pos rfl, aS, readS, if_pos (by simp), leaf_const n0 n1 wv.1 wv.2 v3]
      rfl
    rw [if_neg h4]
    have hne := arE_ne hop h1 h4 h2 h3
    have hof := ofE_name hop
    rw [readS, if_neg (by simp)]
    by_cases h5 : op = 21
    · subst h5
      have n3' : decide (n = []) = true := n3
      simp only [decide_eq_true_eq] at n3'
      subst n3'
      have hL : headW 21 w v ++ writeTs as = aS (nameE 21) :: aS (decI v) :: aS (decI w) :: writeTs as := rfl
      rw [hL]
      have g0 : ((aS (nameE 21) :: aS (decI v) :: aS (decI w) :: writeTs as).getD 0 S.z).atom = nameE 21 := rfl
      have g1 : ((aS (nameE 21) :: aS (decI v) :: aS (decI w) :: writeTs as).getD 1 S.z).atom = decI v := rfl
      have g2 : ((aS (nameE 21) :: aS (decI v) :: aS (decI w) :: writeTs as).getD 2 S.z).atom = decI w := rfl
      have hR : headR (aS (nameE 21) :: aS (decI v) :: aS (decI w) :: writeTs as) = true := by
        unfold headR; rw [g0, hof]
        have e0 : (numsN 21 : Int) = 2 := rfl
        simp [hne, writeTs_len, e0]; omega
      have hn : numsR 21 (aS (nameE 21) :: aS (decI v) :: aS (decI w) :: writeTs as) = (v, w, 0) := by
        unfold numsR; rw [g1, g2, numR_decI wv.1 (by omega) wv.2, numR_decI n0 n1 (by omega)]; simp
      have hs : readsS (aS (nameE 21) :: aS (decI v) :: aS (decI w) :: writeTs as) (1 + numsN 21) = readsS (writeTs as) 0 := by
        show readsS _ 3 = _
        simp only [readsS]
      rw [if_neg (by rw [hR]; simp), g0, hof]
      simp only [hn, hs, ih]
      rw [if_neg (by simp)]
      simp only [nodeR, T.norms_width, v3, v4, T.norms_isEmpty]
      rw [if_neg (by simp)]; rfl
    · have n3' : (decide (n = []) && decide (v = 0)) = true := by
        rw [if_neg (by omega), if_neg (by omega)] at n3; exact n3
      simp only [Bool.and_eq_true, decide_eq_true_eq] at n3'
      obtain ⟨rfl, rfl⟩ := n3'
      by_cases h6 : op = 22 ∨ op = 23
      · have hL : headW op w 0 ++ writeTs as = aS (nameE op) :: aS (decI w) :: writeTs as := by simp [headW, h5, h6]
        rw [hL]
        have g0 : ((aS (nameE op) :: aS (decI w) :: writeTs as).getD 0 S.z).atom = nameE op := rfl
        have g1 : ((aS (nameE op) :: aS (decI w) :: writeTs as).getD 1 S.z).atom = decI w := rfl
        have hN : numsN op = 1 := by simp [numsN, h5, h6]
        have hR : headR (aS (nameE op) :: aS (decI w) :: writeTs as) = true := by
          unfold headR; rw [g0, hof]
          simp [hne, writeTs_len, hN]; omega
        have hn : numsR op (aS (nameE op) :: aS (decI w) :: writeTs as) = (0, w, 0) := by
          unfold numsR; rw [if_neg h5, if_pos h6, g1, numR_decI n0 n1 (by omega)]; simp
        have hs : readsS (aS (nameE op) :: aS (decI w) :: writeTs as) (1 + numsN op) = readsS (writeTs as) 0 := by
          rw [hN]; show readsS _ 2 = _
          simp only [readsS]
        rw [if_neg (by rw [hR]; simp), g0, hof]
        simp only [hn, hs, ih]
        rw [if_neg (by simp)]
        simp only [nodeR, T.norms_width, v3, v4, T.norms_isEmpty]
        rw [if_neg (by simp)]; rfl
      · have hL : headW op w 0 ++ writeTs as = aS (nameE op) :: writeTs as := by simp [headW, h5, h6]
        rw [hL]
        have g0 : ((aS (nameE op) :: writeTs as).getD 0 S.z).atom = nameE op := rfl
        have hN : numsN op = 0 := by simp [numsN, h5, h6]
        have hR : headR (aS (nameE op) :: writeTs as) = true := by
          unfold headR; rw [g0, hof]
          simp [hne, writeTs_len, hN]; omega
        have hn : numsR op (aS (nameE op) :: writeTs as) = (0, 0, 0) := by
          unfold numsR; rw [if_neg h5, if_neg h6]
        have hs : readsS (aS (nameE op) :: writeTs as) (1 + numsN op) = readsS (writeTs as) 0 := by
          rw [hN]; show readsS _ 1 = _
          simp only [readsS]
        rw [if_neg (by rw [hR]; simp), g0, hof]
        simp only [hn, hs, ih]
        rw [if_neg (by simp)]
        have hx := widE_any 0 0 w 0 (as.map T.width) h1 h4 h2 h3 h5 (fun e => h6 (.inl e)) (fun e => h6 (.inr e))
        simp only [nodeR, T.norms_width, hx, v3, v4, T.norms_isEmpty]
        rw [if_neg (by simp)]; rfl
theorem reads_writes : ∀ as : List T, T.wfs as → T.valids as = true → readsS (writeTs as) 0 = .ok (T.norms as)
  | [], _, _ => rfl
  | t :: r, hw, hv => by
    simp only [T.wfs] at hw
    simp only [T.valids, Bool.and_eq_true] at hv
    simp only [writeTs, readsS, read_write t hw.1 hv.1, reads_writes r hw.2 hv.2, TRs.cons, T.norms]
end
end Go.Proofs.YtkofimhnehkdoaaGreatDoor.Rf
end
