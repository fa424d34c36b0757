/- A part of the proof: see the last text. -/
import Derived.Test.YtkofimhnehkdoaaDoorRfG8
section
set_option linter.unusedSimpArgs false
set_option linter.unusedVariables false
namespace Go.Proofs.YtkofimhnehkdoaaDoor.Rf
theorem wrapU (n : Int) : IntKind.wrap .u64 n = n % 18446744073709551616 := by
  simp [IntKind.wrap, IntKind.signed, IntKind.bits]
theorem wrapU_small {n : Int} (h0 : 0 ≤ n) (h1 : n < 18446744073709551616) : IntKind.wrap .u64 n = n := by rw [wrapU]; omega
theorem wrap8_small {n : Int} (h0 : 0 ≤ n) (h1 : n < 256) : IntKind.wrap .u8 n = n := by
  simp [IntKind.wrap, IntKind.signed, IntKind.bits]; omega
theorem idxB_decs (c : UInt8) : (idxB [48, 49, 50, 51, 52, 53, 54, 55, 56, 57] c < 0) ↔ isDig c = false := by
  have h := idxB_mem [48, 49, 50, 51, 52, 53, 54, 55, 56, 57] c
  have h2 : c ∈ ([48, 49, 50, 51, 52, 53, 54, 55, 56, 57] : List UInt8) ↔ isDig c = true := by
    simp only [List.mem_cons, List.not_mem_nil, or_false, isDig, Bool.and_eq_true, decide_eq_true_eq, ← UInt8.toNat_inj]
    have := c.toNat_lt
    simp
    omega
  rw [h2] at h
  cases hd : isDig c with
  | true => rw [hd] at h; simp at h ⊢; omega
  | false => rw [hd] at h; simp at h ⊢; omega
theorem any_range_isDig (s : List UInt8) : ((List.range s.length).any fun i => !isDig (s.getD i 0)) = !s.all isDig := by
  induction s with
  | nil => rfl
  | cons c r ih =>
    rw [List.length_cons, List.range_succ_eq_map]
    simp [List.any_map, Function.comp_def] at ih ⊢
    rw [ih]
section
variable {hp : List HObj} {lo : Nat} (q : Bool)
theorem numeral_D (s : List UInt8) (hs : s.length ≤ 9223372036854775807) : callD G0 IP n_digits_numeral [.str s, .str [48, 49, 50, 51, 52, 53, 54, 55, 56, 57]] hp lo q = some (.ret (.bool (numOk s)) hp) := by
  rw [callD_eq]
  cases s with
  | nil => simp [IP_digits_numeral, i_digits_numeral, numOk]
  | cons a r =>
    generalize hse : a :: r = s at *
    have hne : s ≠ [] := by rw [← hse]; simp
    have h0 : s[0]? = some a := by rw [← hse]; rfl
    have hloop := loop_find (G := G0) (IP := IP) (lo := hp.length) (b := l_digits_numeral_0)
      (fun i => ⟨[(0, .str s), (1, .str [48, 49, 50, 51, 52, 53, 54, 55, 56, 57]), (19, .int .i64 s.length), (20, .int .i64 i)], hp⟩) s.length (fun i => !isDig (s.getD i 0))
      (.ret, ⟨[(4, .bool false)], hp⟩) (.exit 0, ⟨[(0, .str s), (1, .str [48, 49, 50, 51, 52, 53, 54, 55, 56, 57]), (19, .int .i64 s.length), (20, .int .i64 s.length), (21, .bool false)], hp⟩)
      (fun i hi hp => by
        have hw := wrap_succ hi hs
        have hd : ¬ idxB [48, 49, 50, 51, 52, 53, 54, 55, 56, 57] s[i] < 0 := by rw [idxB_decs]; simp [List.getD, hi] at hp; simp [hp]
        rw [← hw]
        simp [l_digits_numeral_0, hi, idxB_D, hd])
      (fun i hi hp => by
        have hd : idxB [48, 49, 50, 51, 52, 53, 54, 55, 56, 57] s[i] < 0 := by rw [idxB_decs]; simp [List.getD, hi] at hp; simp [hp]
        simp [l_digits_numeral_0, hi, idxB_D, hd])
      (by simp) (by simp [l_digits_numeral_0]) (by simp)
    rw [any_range_isDig] at hloop
    simp only [Int.natCast_zero] at hloop
    have hh : s.head? = some a := by rw [← hse]; rfl
    have hemp : s.isEmpty = false := by rw [← hse]; rfl
    by_cases hl : (1 : Int) < (s.length : Int)
    · have hl' : 1 < s.length := by omega
      by_cases ha : a = 48
      · subst ha
        simp [IP_digits_numeral, i_digits_numeral, numOk, hne, h0, hl, hl', hh, hemp]
      · have ha' : ¬ (a.toNat : Int) = 48 := by intro e; apply ha; apply UInt8.toNat_inj.1; simp; omega
        cases hd : s.all isDig with
        | true => simp [IP_digits_numeral, i_digits_numeral, numOk, hne, h0, hl, hl', hh, ha, ha', hloop, hd, hemp]
        | false => simp [IP_digits_numeral, i_digits_numeral, numOk, hne, h0, hl, hl', hh, ha, ha', hloop, hd, hemp]
    · have hl' : ¬ 1 < s.length := by omega
      cases hd : s.all isDig with
      | true => simp [IP_digits_numeral, i_digits_numeral, numOk, hne, h0, hl, hl', hh, hloop, hd, hemp]
      | false => simp [IP_digits_numeral, i_digits_numeral, numOk, hne, h0, hl, hl', hh, hloop, hd, hemp]
theorem digVal_take {s : List UInt8} {i : Nat} (h : i < s.length) : digVal (s.take (i + 1)) = 10 * digVal (s.take i) + (s[i].toNat - 48) := by
  rw [List.take_succ_eq_append_getElem h, digVal_snoc]
def pU (s : List UInt8) : AV := if 18446744073709551616 ≤ digVal s then .tup [.int .u64 18446744073709551615, .iface 124 (.int .i64 1)] else .tup [.int .u64 (digVal s), .nili]
theorem digVal_le {s : List UInt8} {i : Nat} (h : i ≤ s.length) : digVal (s.take i) ≤ digVal s := by
  have key : ∀ (k : Nat), i + k ≤ s.length → digVal (s.take i) ≤ digVal (s.take (i + k)) := by
    intro k
    induction k with
    | zero => intro _; exact Nat.le_refl _
    | succ k ih =>
      intro hk
      have := ih (by omega)
      rw [← Nat.add_assoc, digVal_take (by omega)]; omega
  have := key (s.length - i) (by omega)
  rwa [show i + (s.length - i) = s.length by omega, List.take_length] at this
theorem any_over (s : List UInt8) : ((List.range s.length).any fun i => decide (18446744073709551616 ≤ digVal (s.take (i + 1)))) = decide (18446744073709551616 ≤ digVal s) := by
  rw [Bool.eq_iff_iff]
  simp only [List.any_eq_true, List.mem_range, decide_eq_true_eq]
  constructor
  · rintro ⟨i, hi, h⟩; exact Nat.le_trans h (digVal_le (by omega))
  · intro h
    have hl : s.length ≠ 0 := by
      intro e
      have : s = [] := List.length_eq_zero_iff.1 e
      have h2 : digVal s = 0 := by subst this; rfl
      omega
    exact ⟨s.length - 1, by omega, by rwa [show s.length - 1 + 1 = s.length by omega, List.take_length]⟩
theorem parseUintI_D (s : List UInt8) (hs : s.length ≤ 140737488355328) (h0 : s ≠ []) (hd : s.all isDig = true) : callD G0 IP n_internal_strconv_ParseUint [.str s, .int .i64 10, .int .i64 64] hp lo false = some (.ret (pU s) hp) := by
  rw [callD_eq]
  have hc : ∀ i (h : i < s.length), 48 ≤ s[i].toNat ∧ s[i].toNat ≤ 57 := fun i h => by
    have := List.all_eq_true.1 hd s[i] (List.getElem_mem h)
    simpa [isDig] using this
  have hloop := loop_find (G := G0) (IP := IP) (lo := lo) (b := l_internal_strconv_ParseUint_0)
    (fun i => ⟨[(1, .int .i64 10), (8, .bool false), (9, .str s), (10, .int .u64 1844674407370955162), (11, .int .u64 18446744073709551615), (12, .bool false), (13, .int .u64 (digVal (s.take i))), (99, .list (s.map fun b => .int .u8 b.toNat) .no), (100, .int .i64 s.length), (101, .int .i64 i)], hp⟩)
    s.length (fun i => decide (18446744073709551616 ≤ digVal (s.take (i + 1))))
    (.ret, ⟨[(6, .int .u64 18446744073709551615), (7, .iface 124 (.int .i64 1))], hp⟩)
    (.exit 3, ⟨[(1, .int .i64 10), (8, .bool false), (9, .str s), (10, .int .u64 1844674407370955162), (11, .int .u64 18446744073709551615), (12, .bool false), (13, .int .u64 (digVal s)), (99, .list (s.map fun b => .int .u8 b.toNat) .no), (100, .int .i64 s.length), (101, .int .i64 s.length), (102, .bool false)], hp⟩)
    (fun i hi hp => by
      have hw := wrap_succ hi (by omega)
      obtain ⟨c1, c2⟩ := hc i hi
      simp only [decide_eq_false_iff_not] at hp
      have ht := digVal_take hi
      rw [ht] at hp
      have e1 : ¬ ((s[i].toNat : Int) = 95) := by omega
      have e2 : (48 : Int) ≤ (s[i].toNat : Int) := by omega
      have e3 : (s[i].toNat : Int) ≤ 57 := by omega
      have e4 : IntKind.wrap .u8 ((s[i].toNat : Int) - 48) = ((s[i].toNat - 48 : Nat) : Int) := by rw [wrap8_small (by omega) (by omega)]; omega
      have e5 : ¬ (10 : Int) ≤ ((s[i].toNat - 48 : Nat) : Int) := by omega
      have e6 : ¬ (1844674407370955162 : Int) ≤ (digVal (s.take i) : Int) := by omega
      have e7 : IntKind.wrap .u64 ((digVal (s.take i) : Int) * 10) = ((10 * digVal (s.take i) : Nat) : Int) := by rw [wrapU_small (by omega) (by omega)]; omega
      have e8 : IntKind.wrap .u64 ((s[i].toNat - 48 : Nat) : Int) = ((s[i].toNat - 48 : Nat) : Int) := wrapU_small (by omega) (by omega)
      have e9 : IntKind.wrap .u64 (((10 * digVal (s.take i) : Nat) : Int) + ((s[i].toNat - 48 : Nat) : Int)) = ((10 * digVal (s.take i) + (s[i].toNat - 48) : Nat) : Int) := by rw [wrapU_small (by omega) (by omega)]; omega
      have e10 : ¬ ((10 * digVal (s.take i) + (s[i].toNat - 48) : Nat) : Int) < ((10 * digVal (s.take i) : Nat) : Int) := by omega
      have e11 : ¬ ((10 * digVal (s.take i) + (s[i].toNat - 48) : Nat) : Int) > 18446744073709551615 := by omega
      rw [← hw, ht]
      generalize ((10 * digVal (s.take i) + (s[i].toNat - 48) : Nat) : Int) = N at *
      generalize ((10 * digVal (s.take i) : Nat) : Int) = M at *
      generalize ((s[i].toNat - 48 : Nat) : Int) = D at *
      generalize (digVal (s.take i) : Int) = V at *
      simp [l_internal_strconv_ParseUint_0, hi, e1, e2, e3, e4, e5, e6, e7, e8, e9, e10, e11, show IntKind.wrap .u8 10 = 10 from rfl, show IntKind.wrap .u64 10 = 10 from rfl])
    (fun i hi hp => by
      obtain ⟨c1, c2⟩ := hc i hi
      simp only [decide_eq_true_eq] at hp
      have ht := digVal_take hi
      rw [ht] at hp
      have e1 : ¬ ((s[i].toNat : Int) = 95) := by omega
      have e2 : (48 : Int) ≤ (s[i].toNat : Int) := by omega
      have e3 : (s[i].toNat : Int) ≤ 57 := by omega
      have e4 : IntKind.wrap .u8 ((s[i].toNat : Int) - 48) = ((s[i].toNat - 48 : Nat) : Int) := by rw [wrap8_small (by omega) (by omega)]; omega
      have e5 : ¬ (10 : Int) ≤ ((s[i].toNat - 48 : Nat) : Int) := by omega
      by_cases e6 : (1844674407370955162 : Int) ≤ (digVal (s.take i) : Int)
      · generalize ((s[i].toNat - 48 : Nat) : Int) = D at *
        generalize (digVal (s.take i) : Int) = V at *
        simp [l_internal_strconv_ParseUint_0, hi, e1, e2, e3, e4, e5, e6, show IntKind.wrap .u8 10 = 10 from rfl, show IntKind.wrap .u64 10 = 10 from rfl]
      · have e7 : IntKind.wrap .u64 ((digVal (s.take i) : Int) * 10) = ((10 * digVal (s.take i) : Nat) : Int) := by rw [wrapU_small (by omega) (by omega)]; omega
        have e8 : IntKind.wrap .u64 ((s[i].toNat - 48 : Nat) : Int) = ((s[i].toNat - 48 : Nat) : Int) := wrapU_small (by omega) (by omega)
        have e9 : IntKind.wrap .u64 (((10 * digVal (s.take i) : Nat) : Int) + ((s[i].toNat - 48 : Nat) : Int)) = (((10 * digVal (s.take i) + (s[i].toNat - 48) : Nat) : Int) - 18446744073709551616) := by rw [wrapU]; omega
        have e10 : (((10 * digVal (s.take i) + (s[i].toNat - 48) : Nat) : Int) - 18446744073709551616) < ((10 * digVal (s.take i) : Nat) : Int) := by omega
        generalize (((10 * digVal (s.take i) + (s[i].toNat - 48) : Nat) : Int) - 18446744073709551616) = N at *
        generalize ((10 * digVal (s.take i) : Nat) : Int) = M at *
        generalize ((s[i].toNat - 48 : Nat) : Int) = D at *
        generalize (digVal (s.take i) : Int) = V at *
        simp [l_internal_strconv_ParseUint_0, hi, e1, e2, e3, e4, e5, e6, e7, e8, e9, e10, show IntKind.wrap .u8 10 = 10 from rfl, show IntKind.wrap .u64 10 = 10 from rfl])
    (by simp) (by simp [l_internal_strconv_ParseUint_0]) (by simp)
  rw [any_over] at hloop
  simp only [List.take_zero, show digVal [] = 0 from rfl, Int.natCast_zero] at hloop
  by_cases hv : 18446744073709551616 ≤ digVal s
  · simp [IP_internal_strconv_ParseUint, i_internal_strconv_ParseUint, h0, hs, hloop, hv, pU, show IntKind.wrap .u64 64 = 64 from rfl, show IntKind.wrap .u64 18446744073709551616 = 0 from rfl, show IntKind.wrap .u64 (-1) = 18446744073709551615 from rfl, IntKind.bits]
  · simp [IP_internal_strconv_ParseUint, i_internal_strconv_ParseUint, h0, hs, hloop, hv, pU, show IntKind.wrap .u64 64 = 64 from rfl, show IntKind.wrap .u64 18446744073709551616 = 0 from rfl, show IntKind.wrap .u64 (-1) = 18446744073709551615 from rfl, IntKind.bits]
theorem numE_nonempty {s : List UInt8} (h : numOk s = true) : s ≠ [] ∧ s.all isDig = true := by
  simp only [numOk, Bool.and_eq_true] at h
  refine ⟨?_, h.2.2⟩
  intro e; subst e; simp at h
end
end Go.Proofs.YtkofimhnehkdoaaDoor.Rf
end
section
set_option linter.unusedSimpArgs false
set_option linter.unusedVariables false
namespace Go.Proofs.YtkofimhnehkdoaaDoor.Rf
def opN : List (List UInt8) := [[], [118, 97, 114], [99, 111, 110, 115, 116], [110, 111, 116], [110, 101, 103], [97, 110, 100], [111, 114], [120, 111, 114], [97, 100, 100], [115, 117, 98], [109, 117, 108], [117, 100, 105, 118], [117, 114, 101, 109], [115, 104, 108], [108, 115, 104, 114], [97, 115, 104, 114], [101, 113], [117, 108, 116], [115, 108, 116], [105, 116, 101], [99, 111, 110, 99, 97, 116], [101, 120, 116, 114, 97, 99, 116], [122, 101, 120, 116], [115, 101, 120, 116], [104, 111, 108, 101], [110, 117, 109], [101, 118, 97, 108]]
theorem g_0_eq : g_0 = opN.map AV.str := rfl
theorem g_0_len : g_0.length = 27 := rfl
def nm (n : Nat) : List UInt8 := opN.getD n []
theorem g_0_at {n : Nat} (h : n < 27) : (g_0.drop n).take 1 = [AV.str (nm n)] := by
  rw [g_0_eq, List.drop_eq_getElem_cons (by simpa [opN] using h)]
  simp [nm, List.getD, show n < opN.length by simpa [opN] using h]
def opOk (op : Int) : Bool := decide (1 ≤ op) && decide (op ≤ 26)
theorem opOk_cases {op : Int} (h : opOk op = true) : op = 1 ∨ op = 2 ∨ op = 3 ∨ op = 4 ∨ op = 5 ∨ op = 6 ∨ op = 7 ∨ op = 8 ∨ op = 9 ∨ op = 10 ∨ op = 11 ∨ op = 12 ∨ op = 13 ∨ op = 14 ∨ op = 15 ∨ op = 16 ∨ op = 17 ∨ op = 18 ∨ op = 19 ∨ op = 20 ∨ op = 21 ∨ op = 22 ∨ op = 23 ∨ op = 24 ∨ op = 25 ∨ op = 26 := by
  simp [opOk] at h; omega
theorem opOk_nat {op : Int} (h : opOk op = true) : ∃ n : Nat, op = n ∧ 1 ≤ n ∧ n ≤ 26 := by
  simp [opOk] at h; exact ⟨op.toNat, by omega, by omega, by omega⟩
def nameE (op : Int) : List UInt8 := if opOk op then nm op.toNat else []
def ofE (s : List UInt8) : Int × Bool := match (List.range 26).find? fun i => decide (nm (i + 1) = s) with | some i => (((i + 1 : Nat) : Int), true) | none => (0, false)
def arE (op : Int) : Int := if opOk op = false then -1 else if op = 1 ∨ op = 2 ∨ op = 24 ∨ op = 25 then 0 else if op = 3 ∨ op = 4 ∨ op = 21 ∨ op = 22 ∨ op = 23 ∨ op = 26 then 1 else if op = 19 then 3 else 2
def insE (w : Int) : Bool := decide (0 ≤ w) && decide (w ≤ 64)
def leafE (op w v : Int) : Int × Int := if insE w = false ∨ (op = 2 ∧ 0 < w ∧ 2 ^ w.toNat ≤ v) then (0, 3) else (w, 0)
def resE (op w v f : Int) : Int × Int := if w < 1 ∨ 64 < w ∨ f < 1 then (0, 3) else if (op ≠ 21 ∧ w < f) ∨ (op = 21 ∧ (f < w ∨ f - w < v)) then (0, 3) else (w, 0)
def widE (op w v : Int) (as : List Int) : Int × Int :=
  if opOk op = false ∨ (as.length : Int) ≠ arE op then (0, 4) else
  if as.all insE = false then (0, 3) else
  if op = 1 ∨ op = 2 ∨ op = 24 ∨ op = 25 then leafE op w v else
  if op = 3 ∨ op = 4 ∨ op = 26 then (as.getD 0 0, 0) else
  if op = 21 ∨ op = 22 ∨ op = 23 then resE op w v (as.getD 0 0) else
  if op = 19 then (if as.getD 0 0 = 1 ∧ as.getD 1 0 = as.getD 2 0 then (as.getD 1 0, 0) else (0, 3)) else
  if op = 20 then (if 1 ≤ as.getD 0 0 ∧ 1 ≤ as.getD 1 0 ∧ as.getD 0 0 + as.getD 1 0 ≤ 64 then (as.getD 0 0 + as.getD 1 0, 0) else (0, 3)) else
  if op = 16 ∨ op = 17 ∨ op = 18 then (if as.getD 0 0 = as.getD 1 0 then (1, 0) else (0, 3)) else
  if as.getD 0 0 = as.getD 1 0 then (as.getD 0 0, 0) else (0, 3)
section
variable {hp : List HObj} {lo : Nat} (q : Bool)
theorem known_D (op : Int) : callD G0 IP n_opinfo_known [.int .i64 op] hp lo q = some (.ret (.bool (opOk op)) hp) := by
  rw [callD_eq]
  by_cases h : 1 ≤ op
  · by_cases h2 : op ≤ 26 <;> simp [IP_opinfo_known, i_opinfo_known, opOk, h, h2]
  · simp [IP_opinfo_known, i_opinfo_known, opOk, h]
theorem opName_D (op : Int) : callD G0 IP n_opinfo_Name [.int .i64 op] hp lo q = some (.ret (.str (nameE op)) hp) := by
  rw [callD_eq]
  cases h : opOk op with
  | false => simp [IP_opinfo_Name, i_opinfo_Name, known_D, h, nameE]
  | true =>
    obtain ⟨n, rfl, h1, h2⟩ := opOk_nat h
    have e1 : (n : Int) < 27 := by omega
    have e2 : n + 1 ≤ 27 := by omega
    simp [IP_opinfo_Name, i_opinfo_Name, known_D, h, nameE, G0_0, e1, e2, g_0_at (show n < 27 by omega), g_0_len]
theorem opOf_D (s : List UInt8) : callD G0 IP n_opinfo_Of [.str s] hp lo q = some (.ret (.tup [.int .i64 (ofE s).1, .bool (ofE s).2]) hp) := by
  rw [callD_eq]
  have hloop := loop_some (G := G0) (IP := IP) (lo := hp.length) (b := l_opinfo_Of_0)
    (fun i => ⟨[(0, .str s), (4, .int .i64 ((i : Int) + 1))], hp⟩) 26 (fun i => decide (nm (i + 1) = s)) (fun i => (.ret, ⟨[(2, .int .i64 ((i : Int) + 1)), (3, .bool true)], hp⟩))
    (.exit 0, ⟨[(0, .str s), (4, .int .i64 27), (6, .bool false)], hp⟩)
    (fun i hi hp => by
      have e1 : (i : Int) + 1 ≤ 26 := by omega
      have e2 : (0 : Int) ≤ (i : Int) + 1 := by omega
      have e3 : (i : Int) + 1 < 27 := by omega
      have e4 : i + 1 + 1 ≤ 27 := by omega
      have e5 : IntKind.wrap .i64 ((i : Int) + 1 + 1) = (i : Int) + 1 + 1 := wrap_small (by omega) (by omega)
      have e6 : ((i : Int) + 1).toNat = i + 1 := by omega
      simp only [decide_eq_false_iff_not] at hp
      simp [l_opinfo_Of_0, G0_0, e1, e2, e3, e4, e5, e6, g_0_at (show i + 1 < 27 by omega), g_0_len, hp])
    (fun i hi hp => by
      have e1 : (i : Int) + 1 ≤ 26 := by omega
      have e2 : (0 : Int) ≤ (i : Int) + 1 := by omega
      have e3 : (i : Int) + 1 < 27 := by omega
      have e4 : i + 1 + 1 ≤ 27 := by omega
      have e6 : ((i : Int) + 1).toNat = i + 1 := by omega
      simp only [decide_eq_true_eq] at hp
      simp [l_opinfo_Of_0, G0_0, e1, e2, e3, e4, e6, g_0_at (show i + 1 < 27 by omega), g_0_len, hp])
    (fun i s => by simp) (by simp [l_opinfo_Of_0]) (by simp)
  simp only [Int.natCast_zero, Int.zero_add] at hloop
  rcases hloop with ⟨m, hm, hp1, hp2, hl⟩ | ⟨hno, hl⟩
  · have hf : (List.range 26).find? (fun i => decide (nm (i + 1) = s)) = some m := by
      rw [List.find?_range_eq_some]
      exact ⟨hp1, by simpa using hm, fun j hj => by simpa using hp2 j hj⟩
    have he : ofE s = (((m + 1 : Nat) : Int), true) := by simp [ofE, hf]
    simp [IP_opinfo_Of, i_opinfo_Of, hl, he]
  · have hf : (List.range 26).find? (fun i => decide (nm (i + 1) = s)) = none := by
      rw [List.find?_eq_none]
      intro i hi; simp at hi; have := hno i hi; simpa using this
    have he : ofE s = (0, false) := by simp [ofE, hf]
    simp [IP_opinfo_Of, i_opinfo_Of, hl, he]
theorem arity_D (op : Int) : callD G0 IP n_opinfo_Arity [.int .i64 op] hp lo q = some (.ret (.int .i64 (arE op)) hp) := by
  rw [callD_eq]
  cases h : opOk op with
  | true =>
    rcases opOk_cases h with rfl | rfl | rfl | rfl | rfl | rfl | rfl | rfl | rfl | rfl | rfl | rfl | rfl | rfl | rfl | rfl | rfl | rfl | rfl | rfl | rfl | rfl | rfl | rfl | rfl | rfl
    all_goals simp [IP_opinfo_Arity, i_opinfo_Arity, arE, opOk, show IntKind.wrap .i64 1 = 1 from rfl, show IntKind.wrap .i64 2 = 2 from rfl, show IntKind.wrap .i64 3 = 3 from rfl]
  | false =>
    have hk : ∀ k : Int, 1 ≤ k → k ≤ 26 → (op = k) = False := fun k h1 h2 => by
      simp only [eq_iff_iff, iff_false]; intro e; subst e; simp [opOk] at h; omega
    simp [IP_opinfo_Arity, i_opinfo_Arity, arE, h, hk]
theorem opLeaf_D (op : Int) : callD G0 IP n_opinfo_Leaf [.int .i64 op] hp lo q = some (.ret (.bool (decide (arE op = 0))) hp) := by
  rw [callD_eq]
  simp [IP_opinfo_Leaf, i_opinfo_Leaf, arity_D]
theorem inside_D (w : Int) : callD G0 IP n_opinfo_inside [.int .i64 w] hp lo q = some (.ret (.bool (insE w)) hp) := by
  rw [callD_eq]
  by_cases h : 0 ≤ w
  · by_cases h2 : w ≤ 64 <;> simp [IP_opinfo_inside, i_opinfo_inside, insE, h, h2]
  · simp [IP_opinfo_inside, i_opinfo_inside, insE, h]
theorem agreed_D (ok : Bool) (r : Int) : callD G0 IP n_opinfo_agreed [.bool ok, .int .i64 r] hp lo q = some (.ret (.tup [.int .i64 (if ok then r else 0), .int .i64 (if ok then 0 else 3)]) hp) := by
  rw [callD_eq]
  cases ok <;> simp [IP_opinfo_agreed, i_opinfo_agreed]
end
end Go.Proofs.YtkofimhnehkdoaaDoor.Rf
end
section
set_option linter.unusedSimpArgs false
set_option linter.unusedVariables false
namespace Go.Proofs.YtkofimhnehkdoaaDoor.Rf
theorem fdiv_pow {v : Int} (h0 : 0 ≤ v) {w : Nat} : (v.fdiv (2 ^ w) = 0) ↔ v < 2 ^ w := by
  have hp : (0 : Int) < 2 ^ w := Int.pow_pos (by omega)
  rw [Int.fdiv_eq_ediv_of_nonneg _ (by omega)]
  constructor
  · intro h
    have := Int.lt_ediv_add_one_mul_self v hp
    rw [h] at this; simpa using this
  · intro h; exact Int.ediv_eq_zero_of_lt h0 h
section
variable {hp : List HObj} {lo : Nat} (q : Bool)
theorem opLeafW_D (op w v : Int) (hv : 0 ≤ v) : callD G0 IP n_opinfo_leaf [.int .i64 op, .int .i64 w, .int .u64 v] hp lo q = some (.ret (.tup [.int .i64 (leafE op w v).1, .int .i64 (leafE op w v).2]) hp) := by
  rw [callD_eq]
  cases hi : insE w with
  | false => simp [IP_opinfo_leaf, i_opinfo_leaf, inside_D, hi, leafE]
  | true =>
    by_cases h1 : op = 2
    · by_cases h2 : 0 < w
      · have hw : w ≤ 64 := by simp [insE] at hi; exact hi.2
        have h3 : ¬ w < 0 := by omega
        have hm : min w.toNat 64 = w.toNat := by omega
        have hd := fdiv_pow hv (w := w.toNat)
        by_cases h4 : v < 2 ^ w.toNat
        · have h5 : ¬ (2 : Int) ^ w.toNat ≤ v := by omega
          simp [IP_opinfo_leaf, i_opinfo_leaf, inside_D, hi, leafE, h1, h2, h3, IntKind.bits, hm, hd.2 h4, h5]
        · have h5 : (2 : Int) ^ w.toNat ≤ v := by omega
          have h6 : ¬ v.fdiv (2 ^ w.toNat) = 0 := fun e => h4 (hd.1 e)
          simp [IP_opinfo_leaf, i_opinfo_leaf, inside_D, hi, leafE, h1, h2, h3, IntKind.bits, hm, h6, h5]
      · simp [IP_opinfo_leaf, i_opinfo_leaf, inside_D, hi, leafE, h1, h2]
    · simp [IP_opinfo_leaf, i_opinfo_leaf, inside_D, hi, leafE, h1]
theorem resized_D (op w v f : Int) (hf : f ≤ 64) (hv : 0 ≤ v) : callD G0 IP n_opinfo_resized [.int .i64 op, .int .i64 w, .int .u64 v, .int .i64 f] hp lo q = some (.ret (.tup [.int .i64 (resE op w v f).1, .int .i64 (resE op w v f).2]) hp) := by
  rw [callD_eq]
  by_cases h1 : w < 1
  · simp [IP_opinfo_resized, i_opinfo_resized, resE, h1]
  · by_cases h2 : 64 < w
    · simp [IP_opinfo_resized, i_opinfo_resized, resE, h1, h2]
    · by_cases h3 : f < 1
      · simp [IP_opinfo_resized, i_opinfo_resized, resE, h1, h2, h3]
      · by_cases h4 : op = 21
        · by_cases h5 : f < w
          · simp [IP_opinfo_resized, i_opinfo_resized, resE, h1, h2, h3, h4, h5]
          · have e1 : IntKind.wrap .i64 (f - w) = f - w := wrap_small (by omega) (by omega)
            have e2 : IntKind.wrap .u64 (f - w) = f - w := wrapU_small (by omega) (by omega)
            by_cases h6 : f - w < v
            · simp [IP_opinfo_resized, i_opinfo_resized, resE, h1, h2, h3, h4, h5, h6, e1, e2]
            · simp [IP_opinfo_resized, i_opinfo_resized, resE, h1, h2, h3, h4, h5, h6, e1, e2]
        · by_cases h5 : w < f
          · simp [IP_opinfo_resized, i_opinfo_resized, resE, h1, h2, h3, h4, h5]
          · simp [IP_opinfo_resized, i_opinfo_resized, resE, h1, h2, h3, h4, h5]
theorem any_ins (as : List Int) : ((List.range as.length).any fun i => !insE (as.getD i 0)) = !as.all insE := by
  induction as with
  | nil => rfl
  | cons c r ih =>
    rw [List.length_cons, List.range_succ_eq_map]
    simp [List.any_map, Function.comp_def] at ih ⊢
    rw [ih]
end
end Go.Proofs.YtkofimhnehkdoaaDoor.Rf
end
section
set_option linter.unusedSimpArgs false
set_option linter.unusedVariables false
namespace Go.Proofs.YtkofimhnehkdoaaDoor.Rf
section
variable {hp : List HObj} {lo : Nat} (q : Bool)
def wfr (op w v : Int) (as : List Int) (o : Own) (i : Nat) : Fr := [(0, .int .i64 op), (1, .int .i64 w), (2, .int .u64 v), (3, .list (as.map (AV.int .i64)) o), (22, .list (as.map (AV.int .i64)) o.cp), (23, .int .i64 as.length), (24, .int .i64 i)]
theorem width_loop (op w v : Int) (as : List Int) (o : Own) (ha : as.length ≤ 9223372036854775807) (hp : List HObj) (lo : Nat) : loopD G0 IP lo l_opinfo_Width_0 ⟨wfr op w v as o 0, hp⟩ =
    some (if as.all insE = false then (.ret, ⟨[(8, .int .i64 0), (9, .int .i64 3)], hp⟩) else (.exit 0, ⟨wfr op w v as o as.length ++ [(25, .bool false)], hp⟩)) := by
  have hloop := loop_find (G := G0) (IP := IP) (lo := lo) (b := l_opinfo_Width_0)
    (fun i => ⟨wfr op w v as o i, hp⟩) as.length (fun i => !insE (as.getD i 0))
    (.ret, ⟨[(8, .int .i64 0), (9, .int .i64 3)], hp⟩)
    (.exit 0, ⟨wfr op w v as o as.length ++ [(25, .bool false)], hp⟩)
    (fun i hi hp => by
      have hw := wrap_succ hi ha
      simp [List.getD, hi] at hp
      simp only [wfr]
      rw [← hw]
      simp [l_opinfo_Width_0, hi, inside_D, hp])
    (fun i hi hp => by
      simp [List.getD, hi] at hp
      simp [l_opinfo_Width_0, wfr, hi, inside_D, hp])
    (by simp) (by simp [l_opinfo_Width_0, wfr]) (by simp)
  rw [any_ins] at hloop
  rw [hloop]
  cases as.all insE <;> rfl
theorem width_bad (op w v : Int) (as : List Int) (o : Own) (h : opOk op = false ∨ (as.length : Int) ≠ arE op) : callD G0 IP n_opinfo_Width [.int .i64 op, .int .i64 w, .int .u64 v, .list (as.map (AV.int .i64)) o] hp lo q = some (.ret (.tup [.int .i64 0, .int .i64 4]) hp) := by
  rw [callD_eq]
  cases hk : opOk op with
  | false => simp [IP_opinfo_Width, i_opinfo_Width, known_D, hk]
  | true =>
    have hl : ¬ (as.length : Int) = arE op := by rcases h with h | h; rw [h] at hk; cases hk; exact h
    simp [IP_opinfo_Width, i_opinfo_Width, known_D, arity_D, hk, hl]
theorem width_out (op w v : Int) (as : List Int) (o : Own) (ha : as.length ≤ 9223372036854775807) (hk : opOk op = true) (hl : (as.length : Int) = arE op) (hall : as.all insE = false) : callD G0 IP n_opinfo_Width [.int .i64 op, .int .i64 w, .int .u64 v, .list (as.map (AV.int .i64)) o] hp lo q = some (.ret (.tup [.int .i64 0, .int .i64 3]) hp) := by
  rw [callD_eq]
  have hloop := width_loop op w v as o ha hp hp.length
  rw [if_pos hall] at hloop
  simp only [wfr, Int.natCast_zero, hl] at hloop
  simp [IP_opinfo_Width, i_opinfo_Width, known_D, arity_D, hk, hl, hloop]
theorem width_1 (w v : Int) (hv : 0 ≤ v)  (o : Own) (hall : List.all [] insE = true) : callD G0 IP n_opinfo_Width [.int .i64 1, .int .i64 w, .int .u64 v, .list (([] : List Int).map (AV.int .i64)) o] hp lo q =
    some (.ret (.tup [.int .i64 (leafE 1 w v).1, .int .i64 (leafE 1 w v).2]) hp) := by
  rw [callD_eq]
  have hloop := width_loop 1 w v [] o (by simp) hp hp.length
  rw [if_neg (by simp [hall])] at hloop
  simp [wfr] at hloop
  have hk : opOk 1 = true := rfl
  have hb : arE 1 = 0 := rfl
  have e := fun (hp : List HObj) (lo : Nat) (q : Bool) => opLeafW_D (hp := hp) (lo := lo) q 1 w v hv
  simp [IP_opinfo_Width, i_opinfo_Width, known_D, arity_D, hk, hb, hloop, e]
theorem width_2 (w v : Int) (hv : 0 ≤ v)  (o : Own) (hall : List.all [] insE = true) : callD G0 IP n_opinfo_Width [.int .i64 2, .int .i64 w, .int .u64 v, .list (([] : List Int).map (AV.int .i64)) o] hp lo q =
    some (.ret (.tup [.int .i64 (leafE 2 w v).1, .int .i64 (leafE 2 w v).2]) hp) := by
  rw [callD_eq]
  have hloop := width_loop 2 w v [] o (by simp) hp hp.length
  rw [if_neg (by simp [hall])] at hloop
  simp [wfr] at hloop
  have hk : opOk 2 = true := rfl
  have hb : arE 2 = 0 := rfl
  have e := fun (hp : List HObj) (lo : Nat) (q : Bool) => opLeafW_D (hp := hp) (lo := lo) q 2 w v hv
  simp [IP_opinfo_Width, i_opinfo_Width, known_D, arity_D, hk, hb, hloop, e]
theorem width_24 (w v : Int) (hv : 0 ≤ v)  (o : Own) (hall : List.all [] insE = true) : callD G0 IP n_opinfo_Width [.int .i64 24, .int .i64 w, .int .u64 v, .list (([] : List Int).map (AV.int .i64)) o] hp lo q =
    some (.ret (.tup [.int .i64 (leafE 24 w v).1, .int .i64 (leafE 24 w v).2]) hp) := by
  rw [callD_eq]
  have hloop := width_loop 24 w v [] o (by simp) hp hp.length
  rw [if_neg (by simp [hall])] at hloop
  simp [wfr] at hloop
  have hk : opOk 24 = true := rfl
  have hb : arE 24 = 0 := rfl
  have e := fun (hp : List HObj) (lo : Nat) (q : Bool) => opLeafW_D (hp := hp) (lo := lo) q 24 w v hv
  simp [IP_opinfo_Width, i_opinfo_Width, known_D, arity_D, hk, hb, hloop, e]
theorem width_25 (w v : Int) (hv : 0 ≤ v)  (o : Own) (hall : List.all [] insE = true) : callD G0 IP n_opinfo_Width [.int .i64 25, .int .i64 w, .int .u64 v, .list (([] : List Int).map (AV.int .i64)) o] hp lo q =
    some (.ret (.tup [.int .i64 (leafE 25 w v).1, .int .i64 (leafE 25 w v).2]) hp) := by
  rw [callD_eq]
  have hloop := width_loop 25 w v [] o (by simp) hp hp.length
  rw [if_neg (by simp [hall])] at hloop
  simp [wfr] at hloop
  have hk : opOk 25 = true := rfl
  have hb : arE 25 = 0 := rfl
  have e := fun (hp : List HObj) (lo : Nat) (q : Bool) => opLeafW_D (hp := hp) (lo := lo) q 25 w v hv
  simp [IP_opinfo_Width, i_opinfo_Width, known_D, arity_D, hk, hb, hloop, e]
theorem width_3 (w v : Int) (hv : 0 ≤ v) (a : Int) (o : Own) (hall : List.all [a] insE = true) : callD G0 IP n_opinfo_Width [.int .i64 3, .int .i64 w, .int .u64 v, .list (([a] : List Int).map (AV.int .i64)) o] hp lo q =
    some (.ret (.tup [.int .i64 (((a, 0) : Int × Int)).1, .int .i64 (((a, 0) : Int × Int)).2]) hp) := by
  rw [callD_eq]
  have hloop := width_loop 3 w v [a] o (by simp) hp hp.length
  rw [if_neg (by simp [hall])] at hloop
  simp [wfr] at hloop
  have hk : opOk 3 = true := rfl
  have hb : arE 3 = 1 := rfl
  simp [IP_opinfo_Width, i_opinfo_Width, known_D, arity_D, hk, hb, hloop]
theorem width_4 (w v : Int) (hv : 0 ≤ v) (a : Int) (o : Own) (hall : List.all [a] insE = true) : callD G0 IP n_opinfo_Width [.int .i64 4, .int .i64 w, .int .u64 v, .list (([a] : List Int).map (AV.int .i64)) o] hp lo q =
    some (.ret (.tup [.int .i64 (((a, 0) : Int × Int)).1, .int .i64 (((a, 0) : Int × Int)).2]) hp) := by
  rw [callD_eq]
  have hloop := width_loop 4 w v [a] o (by simp) hp hp.length
  rw [if_neg (by simp [hall])] at hloop
  simp [wfr] at hloop
  have hk : opOk 4 = true := rfl
  have hb : arE 4 = 1 := rfl
  simp [IP_opinfo_Width, i_opinfo_Width, known_D, arity_D, hk, hb, hloop]
theorem width_26 (w v : Int) (hv : 0 ≤ v) (a : Int) (o : Own) (hall : List.all [a] insE = true) : callD G0 IP n_opinfo_Width [.int .i64 26, .int .i64 w, .int .u64 v, .list (([a] : List Int).map (AV.int .i64)) o] hp lo q =
    some (.ret (.tup [.int .i64 (((a, 0) : Int × Int)).1, .int .i64 (((a, 0) : Int × Int)).2]) hp) := by
  rw [callD_eq]
  have hloop := width_loop 26 w v [a] o (by simp) hp hp.length
  rw [if_neg (by simp [hall])] at hloop
  simp [wfr] at hloop
  have hk : opOk 26 = true := rfl
  have hb : arE 26 = 1 := rfl
  simp [IP_opinfo_Width, i_opinfo_Width, known_D, arity_D, hk, hb, hloop]
theorem width_21 (w v : Int) (hv : 0 ≤ v) (a : Int) (o : Own) (hall : List.all [a] insE = true) : callD G0 IP n_opinfo_Width [.int .i64 21, .int .i64 w, .int .u64 v, .list (([a] : List Int).map (AV.int .i64)) o] hp lo q =
    some (.ret (.tup [.int .i64 (resE 21 w v a).1, .int .i64 (resE 21 w v a).2]) hp) := by
  rw [callD_eq]
  have hloop := width_loop 21 w v [a] o (by simp) hp hp.length
  rw [if_neg (by simp [hall])] at hloop
  simp [wfr] at hloop
  have hk : opOk 21 = true := rfl
  have hb : arE 21 = 1 := rfl
  have ha64 : a ≤ 64 := by simp [insE] at hall; exact hall.2
  have e := fun (hp : List HObj) (lo : Nat) (q : Bool) => resized_D (hp := hp) (lo := lo) q 21 w v a ha64 hv
  simp [IP_opinfo_Width, i_opinfo_Width, known_D, arity_D, hk, hb, hloop, e]
theorem width_22 (w v : Int) (hv : 0 ≤ v) (a : Int) (o : Own) (hall : List.all [a] insE = true) : callD G0 IP n_opinfo_Width [.int .i64 22, .int .i64 w, .int .u64 v, .list (([a] : List Int).map (AV.int .i64)) o] hp lo q =
    some (.ret (.tup [.int .i64 (resE 22 w v a).1, .int .i64 (resE 22 w v a).2]) hp) := by
  rw [callD_eq]
  have hloop := width_loop 22 w v [a] o (by simp) hp hp.length
  rw [if_neg (by simp [hall])] at hloop
  simp [wfr] at hloop
  have hk : opOk 22 = true := rfl
  have hb : arE 22 = 1 := rfl
  have ha64 : a ≤ 64 := by simp [insE] at hall; exact hall.2
  have e := fun (hp : List HObj) (lo : Nat) (q : Bool) => resized_D (hp := hp) (lo := lo) q 22 w v a ha64 hv
  simp [IP_opinfo_Width, i_opinfo_Width, known_D, arity_D, hk, hb, hloop, e]
theorem width_23 (w v : Int) (hv : 0 ≤ v) (a : Int) (o : Own) (hall : List.all [a] insE = true) : callD G0 IP n_opinfo_Width [.int .i64 23, .int .i64 w, .int .u64 v, .list (([a] : List Int).map (AV.int .i64)) o] hp lo q =
    some (.ret (.tup [.int .i64 (resE 23 w v a).1, .int .i64 (resE 23 w v a).2]) hp) := by
  rw [callD_eq]
  have hloop := width_loop 23 w v [a] o (by simp) hp hp.length
  rw [if_neg (by simp [hall])] at hloop
  simp [wfr] at hloop
  have hk : opOk 23 = true := rfl
  have hb : arE 23 = 1 := rfl
  have ha64 : a ≤ 64 := by simp [insE] at hall; exact hall.2
  have e := fun (hp : List HObj) (lo : Nat) (q : Bool) => resized_D (hp := hp) (lo := lo) q 23 w v a ha64 hv
  simp [IP_opinfo_Width, i_opinfo_Width, known_D, arity_D, hk, hb, hloop, e]
theorem width_19 (w v : Int) (hv : 0 ≤ v) (a : Int) (b : Int) (c : Int) (o : Own) (hall : List.all [a, b, c] insE = true) : callD G0 IP n_opinfo_Width [.int .i64 19, .int .i64 w, .int .u64 v, .list (([a, b, c] : List Int).map (AV.int .i64)) o] hp lo q =
    some (.ret (.tup [.int .i64 (if a = 1 ∧ b = c then ((b, 0) : Int × Int) else (0, 3)).1, .int .i64 (if a = 1 ∧ b = c then ((b, 0) : Int × Int) else (0, 3)).2]) hp) := by
  rw [callD_eq]
  have hloop := width_loop 19 w v [a, b, c] o (by simp) hp hp.length
  rw [if_neg (by simp [hall])] at hloop
  simp [wfr] at hloop
  have hk : opOk 19 = true := rfl
  have hb : arE 19 = 3 := rfl
  by_cases h1 : a = 1
  · subst h1
    by_cases h2 : b = c
    · subst h2
      simp [IP_opinfo_Width, i_opinfo_Width, known_D, arity_D, hk, hb, hloop, agreed_D]
    · simp [IP_opinfo_Width, i_opinfo_Width, known_D, arity_D, hk, hb, hloop, agreed_D, h2]
  · simp [IP_opinfo_Width, i_opinfo_Width, known_D, arity_D, hk, hb, hloop, agreed_D, h1]
theorem width_20 (w v : Int) (hv : 0 ≤ v) (a : Int) (b : Int) (o : Own) (hall : List.all [a, b] insE = true) : callD G0 IP n_opinfo_Width [.int .i64 20, .int .i64 w, .int .u64 v, .list (([a, b] : List Int).map (AV.int .i64)) o] hp lo q =
    some (.ret (.tup [.int .i64 (if 1 ≤ a ∧ 1 ≤ b ∧ a + b ≤ 64 then ((a + b, 0) : Int × Int) else (0, 3)).1, .int .i64 (if 1 ≤ a ∧ 1 ≤ b ∧ a + b ≤ 64 then ((a + b, 0) : Int × Int) else (0, 3)).2]) hp) := by
  rw [callD_eq]
  have hloop := width_loop 20 w v [a, b] o (by simp) hp hp.length
  rw [if_neg (by simp [hall])] at hloop
  simp [wfr] at hloop
  have hk : opOk 20 = true := rfl
  have hb : arE 20 = 2 := rfl
  have ha : 0 ≤ a ∧ a ≤ 64 ∧ 0 ≤ b ∧ b ≤ 64 := by simp [insE] at hall; omega
  have e1 : IntKind.wrap .i64 (a + b) = a + b := wrap_small (by omega) (by omega)
  by_cases h1 : 1 ≤ a
  · by_cases h2 : 1 ≤ b
    · by_cases h3 : a + b ≤ 64
      · simp [IP_opinfo_Width, i_opinfo_Width, known_D, arity_D, hk, hb, hloop, agreed_D, h1, h2, h3, e1]
      · simp [IP_opinfo_Width, i_opinfo_Width, known_D, arity_D, hk, hb, hloop, agreed_D, h1, h2, h3, e1]
    · simp [IP_opinfo_Width, i_opinfo_Width, known_D, arity_D, hk, hb, hloop, agreed_D, h1, h2, e1]
  · simp [IP_opinfo_Width, i_opinfo_Width, known_D, arity_D, hk, hb, hloop, agreed_D, h1, e1]
theorem width_16 (w v : Int) (hv : 0 ≤ v) (a : Int) (b : Int) (o : Own) (hall : List.all [a, b] insE = true) : callD G0 IP n_opinfo_Width [.int .i64 16, .int .i64 w, .int .u64 v, .list (([a, b] : List Int).map (AV.int .i64)) o] hp lo q =
    some (.ret (.tup [.int .i64 (if a = b then ((1, 0) : Int × Int) else (0, 3)).1, .int .i64 (if a = b then ((1, 0) : Int × Int) else (0, 3)).2]) hp) := by
  rw [callD_eq]
  have hloop := width_loop 16 w v [a, b] o (by simp) hp hp.length
  rw [if_neg (by simp [hall])] at hloop
  simp [wfr] at hloop
  have hk : opOk 16 = true := rfl
  have hb : arE 16 = 2 := rfl
  by_cases h1 : a = b
  · subst h1
    simp [IP_opinfo_Width, i_opinfo_Width, known_D, arity_D, hk, hb, hloop, agreed_D]
  · simp [IP_opinfo_Width, i_opinfo_Width, known_D, arity_D, hk, hb, hloop, agreed_D, h1]
theorem width_17 (w v : Int) (hv : 0 ≤ v) (a : Int) (b : Int) (o : Own) (hall : List.all [a, b] insE = true) : callD G0 IP n_opinfo_Width [.int .i64 17, .int .i64 w, .int .u64 v, .list (([a, b] : List Int).map (AV.int .i64)) o] hp lo q =
    some (.ret (.tup [.int .i64 (if a = b then ((1, 0) : Int × Int) else (0, 3)).1, .int .i64 (if a = b then ((1, 0) : Int × Int) else (0, 3)).2]) hp) := by
  rw [callD_eq]
  have hloop := width_loop 17 w v [a, b] o (by simp) hp hp.length
  rw [if_neg (by simp [hall])] at hloop
  simp [wfr] at hloop
  have hk : opOk 17 = true := rfl
  have hb : arE 17 = 2 := rfl
  by_cases h1 : a = b
  · subst h1
    simp [IP_opinfo_Width, i_opinfo_Width, known_D, arity_D, hk, hb, hloop, agreed_D]
  · simp [IP_opinfo_Width, i_opinfo_Width, known_D, arity_D, hk, hb, hloop, agreed_D, h1]
theorem width_18 (w v : Int) (hv : 0 ≤ v) (a : Int) (b : Int) (o : Own) (hall : List.all [a, b] insE = true) : callD G0 IP n_opinfo_Width [.int .i64 18, .int .i64 w, .int .u64 v, .list (([a, b] : List Int).map (AV.int .i64)) o] hp lo q =
    some (.ret (.tup [.int .i64 (if a = b then ((1, 0) : Int × Int) else (0, 3)).1, .int .i64 (if a = b then ((1, 0) : Int × Int) else (0, 3)).2]) hp) := by
  rw [callD_eq]
  have hloop := width_loop 18 w v [a, b] o (by simp) hp hp.length
  rw [if_neg (by simp [hall])] at hloop
  simp [wfr] at hloop
  have hk : opOk 18 = true := rfl
  have hb : arE 18 = 2 := rfl
  by_cases h1 : a = b
  · subst h1
    simp [IP_opinfo_Width, i_opinfo_Width, known_D, arity_D, hk, hb, hloop, agreed_D]
  · simp [IP_opinfo_Width, i_opinfo_Width, known_D, arity_D, hk, hb, hloop, agreed_D, h1]
theorem width_5 (w v : Int) (hv : 0 ≤ v) (a : Int) (b : Int) (o : Own) (hall : List.all [a, b] insE = true) : callD G0 IP n_opinfo_Width [.int .i64 5, .int .i64 w, .int .u64 v, .list (([a, b] : List Int).map (AV.int .i64)) o] hp lo q =
    some (.ret (.tup [.int .i64 (if a = b then ((a, 0) : Int × Int) else (0, 3)).1, .int .i64 (if a = b then ((a, 0) : Int × Int) else (0, 3)).2]) hp) := by
  rw [callD_eq]
  have hloop := width_loop 5 w v [a, b] o (by simp) hp hp.length
  rw [if_neg (by simp [hall])] at hloop
  simp [wfr] at hloop
  have hk : opOk 5 = true := rfl
  have hb : arE 5 = 2 := rfl
  by_cases h1 : a = b
  · subst h1
    simp [IP_opinfo_Width, i_opinfo_Width, known_D, arity_D, hk, hb, hloop, agreed_D]
  · simp [IP_opinfo_Width, i_opinfo_Width, known_D, arity_D, hk, hb, hloop, agreed_D, h1]
theorem width_6 (w v : Int) (hv : 0 ≤ v) (a : Int) (b : Int) (o : Own) (hall : List.all [a, b] insE = true) : callD G0 IP n_opinfo_Width [.int .i64 6, .int .i64 w, .int .u64 v, .list (([a, b] : List Int).map (AV.int .i64)) o] hp lo q =
    some (.ret (.tup [.int .i64 (if a = b then ((a, 0) : Int × Int) else (0, 3)).1, .int .i64 (if a = b then ((a, 0) : Int × Int) else (0, 3)).2]) hp) := by
  rw [callD_eq]
  have hloop := width_loop 6 w v [a, b] o (by simp) hp hp.length
  rw [if_neg (by simp [hall])] at hloop
  simp [wfr] at hloop
  have hk : opOk 6 = true := rfl
  have hb : arE 6 = 2 := rfl
  by_cases h1 : a = b
  · subst h1
    simp [IP_opinfo_Width, i_opinfo_Width, known_D, arity_D, hk, hb, hloop, agreed_D]
  · simp [IP_opinfo_Width, i_opinfo_Width, known_D, arity_D, hk, hb, hloop, agreed_D, h1]
theorem width_7 (w v : Int) (hv : 0 ≤ v) (a : Int) (b : Int) (o : Own) (hall : List.all [a, b] insE = true) : callD G0 IP n_opinfo_Width [.int .i64 7, .int .i64 w, .int .u64 v, .list (([a, b] : List Int).map (AV.int .i64)) o] hp lo q =
    some (.ret (.tup [.int .i64 (if a = b then ((a, 0) : Int × Int) else (0, 3)).1, .int .i64 (if a = b then ((a, 0) : Int × Int) else (0, 3)).2]) hp) := by
  rw [callD_eq]
  have hloop := width_loop 7 w v [a, b] o (by simp) hp hp.length
  rw [if_neg (by simp [hall])] at hloop
  simp [wfr] at hloop
  have hk : opOk 7 = true := rfl
  have hb : arE 7 = 2 := rfl
  by_cases h1 : a = b
  · subst h1
    simp [IP_opinfo_Width, i_opinfo_Width, known_D, arity_D, hk, hb, hloop, agreed_D]
  · simp [IP_opinfo_Width, i_opinfo_Width, known_D, arity_D, hk, hb, hloop, agreed_D, h1]
theorem width_8 (w v : Int) (hv : 0 ≤ v) (a : Int) (b : Int) (o : Own) (hall : List.all [a, b] insE = true) : callD G0 IP n_opinfo_Width [.int .i64 8, .int .i64 w, .int .u64 v, .list (([a, b] : List Int).map (AV.int .i64)) o] hp lo q =
    some (.ret (.tup [.int .i64 (if a = b then ((a, 0) : Int × Int) else (0, 3)).1, .int .i64 (if a = b then ((a, 0) : Int × Int) else (0, 3)).2]) hp) := by
  rw [callD_eq]
  have hloop := width_loop 8 w v [a, b] o (by simp) hp hp.length
  rw [if_neg (by simp [hall])] at hloop
  simp [wfr] at hloop
  have hk : opOk 8 = true := rfl
  have hb : arE 8 = 2 := rfl
  by_cases h1 : a = b
  · subst h1
    simp [IP_opinfo_Width, i_opinfo_Width, known_D, arity_D, hk, hb, hloop, agreed_D]
  · simp [IP_opinfo_Width, i_opinfo_Width, known_D, arity_D, hk, hb, hloop, agreed_D, h1]
theorem width_9 (w v : Int) (hv : 0 ≤ v) (a : Int) (b : Int) (o : Own) (hall : List.all [a, b] insE = true) : callD G0 IP n_opinfo_Width [.int .i64 9, .int .i64 w, .int .u64 v, .list (([a, b] : List Int).map (AV.int .i64)) o] hp lo q =
    some (.ret (.tup [.int .i64 (if a = b then ((a, 0) : Int × Int) else (0, 3)).1, .int .i64 (if a = b then ((a, 0) : Int × Int) else (0, 3)).2]) hp) := by
  rw [callD_eq]
  have hloop := width_loop 9 w v [a, b] o (by simp) hp hp.length
  rw [if_neg (by simp [hall])] at hloop
  simp [wfr] at hloop
  have hk : opOk 9 = true := rfl
  have hb : arE 9 = 2 := rfl
  by_cases h1 : a = b
  · subst h1
    simp [IP_opinfo_Width, i_opinfo_Width, known_D, arity_D, hk, hb, hloop, agreed_D]
  · simp [IP_opinfo_Width, i_opinfo_Width, known_D, arity_D, hk, hb, hloop, agreed_D, h1]
theorem width_10 (w v : Int) (hv : 0 ≤ v) (a : Int) (b : Int) (o : Own) (hall : List.all [a, b] insE = true) : callD G0 IP n_opinfo_Width [.int .i64 10, .int .i64 w, .int .u64 v, .list (([a, b] : List Int).map (AV.int .i64)) o] hp lo q =
    some (.ret (.tup [.int .i64 (if a = b then ((a, 0) : Int × Int) else (0, 3)).1, .int .i64 (if a = b then ((a, 0) : Int × Int) else (0, 3)).2]) hp) := by
  rw [callD_eq]
  have hloop := width_loop 10 w v [a, b] o (by simp) hp hp.length
  rw [if_neg (by simp [hall])] at hloop
  simp [wfr] at hloop
  have hk : opOk 10 = true := rfl
  have hb : arE 10 = 2 := rfl
  by_cases h1 : a = b
  · subst h1
    simp [IP_opinfo_Width, i_opinfo_Width, known_D, arity_D, hk, hb, hloop, agreed_D]
  · simp [IP_opinfo_Width, i_opinfo_Width, known_D, arity_D, hk, hb, hloop, agreed_D, h1]
theorem width_11 (w v : Int) (hv : 0 ≤ v) (a : Int) (b : Int) (o : Own) (hall : List.all [a, b] insE = true) : callD G0 IP n_opinfo_Width [.int .i64 11, .int .i64 w, .int .u64 v, .list (([a, b] : List Int).map (AV.int .i64)) o] hp lo q =
    some (.ret (.tup [.int .i64 (if a = b then ((a, 0) : Int × Int) else (0, 3)).1, .int .i64 (if a = b then ((a, 0) : Int × Int) else (0, 3)).2]) hp) := by
  rw [callD_eq]
  have hloop := width_loop 11 w v [a, b] o (by simp) hp hp.length
  rw [if_neg (by simp [hall])] at hloop
  simp [wfr] at hloop
  have hk : opOk 11 = true := rfl
  have hb : arE 11 = 2 := rfl
  by_cases h1 : a = b
  · subst h1
    simp [IP_opinfo_Width, i_opinfo_Width, known_D, arity_D, hk, hb, hloop, agreed_D]
  · simp [IP_opinfo_Width, i_opinfo_Width, known_D, arity_D, hk, hb, hloop, agreed_D, h1]
theorem width_12 (w v : Int) (hv : 0 ≤ v) (a : Int) (b : Int) (o : Own) (hall : List.all [a, b] insE = true) : callD G0 IP n_opinfo_Width [.int .i64 12, .int .i64 w, .int .u64 v, .list (([a, b] : List Int).map (AV.int .i64)) o] hp lo q =
    some (.ret (.tup [.int .i64 (if a = b then ((a, 0) : Int × Int) else (0, 3)).1, .int .i64 (if a = b then ((a, 0) : Int × Int) else (0, 3)).2]) hp) := by
  rw [callD_eq]
  have hloop := width_loop 12 w v [a, b] o (by simp) hp hp.length
  rw [if_neg (by simp [hall])] at hloop
  simp [wfr] at hloop
  have hk : opOk 12 = true := rfl
  have hb : arE 12 = 2 := rfl
  by_cases h1 : a = b
  · subst h1
    simp [IP_opinfo_Width, i_opinfo_Width, known_D, arity_D, hk, hb, hloop, agreed_D]
  · simp [IP_opinfo_Width, i_opinfo_Width, known_D, arity_D, hk, hb, hloop, agreed_D, h1]
theorem width_13 (w v : Int) (hv : 0 ≤ v) (a : Int) (b : Int) (o : Own) (hall : List.all [a, b] insE = true) : callD G0 IP n_opinfo_Width [.int .i64 13, .int .i64 w, .int .u64 v, .list (([a, b] : List Int).map (AV.int .i64)) o] hp lo q =
    some (.ret (.tup [.int .i64 (if a = b then ((a, 0) : Int × Int) else (0, 3)).1, .int .i64 (if a = b then ((a, 0) : Int × Int) else (0, 3)).2]) hp) := by
  rw [callD_eq]
  have hloop := width_loop 13 w v [a, b] o (by simp) hp hp.length
  rw [if_neg (by simp [hall])] at hloop
  simp [wfr] at hloop
  have hk : opOk 13 = true := rfl
  have hb : arE 13 = 2 := rfl
  by_cases h1 : a = b
  · subst h1
    simp [IP_opinfo_Width, i_opinfo_Width, known_D, arity_D, hk, hb, hloop, agreed_D]
  · simp [IP_opinfo_Width, i_opinfo_Width, known_D, arity_D, hk, hb, hloop, agreed_D, h1]
theorem width_14 (w v : Int) (hv : 0 ≤ v) (a : Int) (b : Int) (o : Own) (hall : List.all [a, b] insE = true) : callD G0 IP n_opinfo_Width [.int .i64 14, .int .i64 w, .int .u64 v, .list (([a, b] : List Int).map (AV.int .i64)) o] hp lo q =
    some (.ret (.tup [.int .i64 (if a = b then ((a, 0) : Int × Int) else (0, 3)).1, .int .i64 (if a = b then ((a, 0) : Int × Int) else (0, 3)).2]) hp) := by
  rw [callD_eq]
  have hloop := width_loop 14 w v [a, b] o (by simp) hp hp.length
  rw [if_neg (by simp [hall])] at hloop
  simp [wfr] at hloop
  have hk : opOk 14 = true := rfl
  have hb : arE 14 = 2 := rfl
  by_cases h1 : a = b
  · subst h1
    simp [IP_opinfo_Width, i_opinfo_Width, known_D, arity_D, hk, hb, hloop, agreed_D]
  · simp [IP_opinfo_Width, i_opinfo_Width, known_D, arity_D, hk, hb, hloop, agreed_D, h1]
theorem width_15 (w v : Int) (hv : 0 ≤ v) (a : Int) (b : Int) (o : Own) (hall : List.all [a, b] insE = true) : callD G0 IP n_opinfo_Width [.int .i64 15, .int .i64 w, .int .u64 v, .list (([a, b] : List Int).map (AV.int .i64)) o] hp lo q =
    some (.ret (.tup [.int .i64 (if a = b then ((a, 0) : Int × Int) else (0, 3)).1, .int .i64 (if a = b then ((a, 0) : Int × Int) else (0, 3)).2]) hp) := by
  rw [callD_eq]
  have hloop := width_loop 15 w v [a, b] o (by simp) hp hp.length
  rw [if_neg (by simp [hall])] at hloop
  simp [wfr] at hloop
  have hk : opOk 15 = true := rfl
  have hb : arE 15 = 2 := rfl
  by_cases h1 : a = b
  · subst h1
    simp [IP_opinfo_Width, i_opinfo_Width, known_D, arity_D, hk, hb, hloop, agreed_D]
  · simp [IP_opinfo_Width, i_opinfo_Width, known_D, arity_D, hk, hb, hloop, agreed_D, h1]
end
end Go.Proofs.YtkofimhnehkdoaaDoor.Rf
end
section
set_option linter.unusedSimpArgs false
set_option linter.unusedVariables false
namespace Go.Proofs.YtkofimhnehkdoaaDoor.Rf
section
variable {hp : List HObj} {lo : Nat} (q : Bool)
end
end Go.Proofs.YtkofimhnehkdoaaDoor.Rf
end
section
set_option linter.unusedSimpArgs false
set_option linter.unusedVariables false
namespace Go.Proofs.YtkofimhnehkdoaaDoor.Rf
theorem len0 {as : List Int} (h : (as.length : Int) = 0) : as = [] := List.eq_nil_of_length_eq_zero (by omega)
theorem len1 {as : List Int} (h : (as.length : Int) = 1) : ∃ a, as = [a] := by
  rcases as with _ | ⟨a, _ | ⟨b, r⟩⟩
  · simp at h
  · exact ⟨a, rfl⟩
  · simp at h; omega
theorem len2 {as : List Int} (h : (as.length : Int) = 2) : ∃ a b, as = [a, b] := by
  rcases as with _ | ⟨a, _ | ⟨b, _ | ⟨c, r⟩⟩⟩
  · simp at h
  · simp at h
  · exact ⟨a, b, rfl⟩
  · simp at h; omega
theorem len3 {as : List Int} (h : (as.length : Int) = 3) : ∃ a b c, as = [a, b, c] := by
  rcases as with _ | ⟨a, _ | ⟨b, _ | ⟨c, _ | ⟨d, r⟩⟩⟩⟩
  · simp at h
  · simp at h
  · simp at h
  · exact ⟨a, b, c, rfl⟩
  · simp at h; omega
theorem widE_in {op w v : Int} {as : List Int} (h : ¬ (opOk op = false ∨ (as.length : Int) ≠ arE op)) (hall : as.all insE = true) : widE op w v as = (if op = 1 ∨ op = 2 ∨ op = 24 ∨ op = 25 then leafE op w v else
        if op = 3 ∨ op = 4 ∨ op = 26 then (as.getD 0 0, 0) else
        if op = 21 ∨ op = 22 ∨ op = 23 then resE op w v (as.getD 0 0) else
        if op = 19 then (if as.getD 0 0 = 1 ∧ as.getD 1 0 = as.getD 2 0 then (as.getD 1 0, 0) else (0, 3)) else
        if op = 20 then (if 1 ≤ as.getD 0 0 ∧ 1 ≤ as.getD 1 0 ∧ as.getD 0 0 + as.getD 1 0 ≤ 64 then (as.getD 0 0 + as.getD 1 0, 0) else (0, 3)) else
        if op = 16 ∨ op = 17 ∨ op = 18 then (if as.getD 0 0 = as.getD 1 0 then (1, 0) else (0, 3)) else
        if as.getD 0 0 = as.getD 1 0 then (as.getD 0 0, 0) else (0, 3)) := by
  rw [widE, if_neg h, if_neg (by simp [hall])]
section
variable {hp : List HObj} {lo : Nat} (q : Bool)
theorem width_D (op w v : Int) (hv : 0 ≤ v) (as : List Int) (o : Own) (ha : as.length ≤ 9223372036854775807) : callD G0 IP n_opinfo_Width [.int .i64 op, .int .i64 w, .int .u64 v, .list (as.map (AV.int .i64)) o] hp lo q =
    some (.ret (.tup [.int .i64 (widE op w v as).1, .int .i64 (widE op w v as).2]) hp) := by
  by_cases h : opOk op = false ∨ (as.length : Int) ≠ arE op
  · rw [width_bad q op w v as o h, widE, if_pos h]
  · have hk : opOk op = true := by cases hk : opOk op <;> simp_all
    have hl : (as.length : Int) = arE op := Decidable.byContradiction fun e => h (.inr e)
    cases hall : as.all insE with
    | false => rw [width_out q op w v as o ha hk hl hall, widE, if_neg h, if_pos hall]
    | true =>
      rw [widE_in h hall]
      rcases opOk_cases hk with rfl | rfl | rfl | rfl | rfl | rfl | rfl | rfl | rfl | rfl | rfl | rfl | rfl | rfl | rfl | rfl | rfl | rfl | rfl | rfl | rfl | rfl | rfl | rfl | rfl | rfl
      · obtain rfl := len0 hl; exact width_1 q w v hv o hall
      · obtain rfl := len0 hl; exact width_2 q w v hv o hall
      · obtain ⟨a, rfl⟩ := len1 hl; exact width_3 q w v hv a o hall
      · obtain ⟨a, rfl⟩ := len1 hl; exact width_4 q w v hv a o hall
      · obtain ⟨a, b, rfl⟩ := len2 hl; exact width_5 q w v hv a b o hall
      · obtain ⟨a, b, rfl⟩ := len2 hl; exact width_6 q w v hv a b o hall
      · obtain ⟨a, b, rfl⟩ := len2 hl; exact width_7 q w v hv a b o hall
      · obtain ⟨a, b, rfl⟩ := len2 hl; exact width_8 q w v hv a b o hall
      · obtain ⟨a, b, rfl⟩ := len2 hl; exact width_9 q w v hv a b o hall
      · obtain ⟨a, b, rfl⟩ := len2 hl; exact width_10 q w v hv a b o hall
      · obtain ⟨a, b, rfl⟩ := len2 hl; exact width_11 q w v hv a b o hall
      · obtain ⟨a, b, rfl⟩ := len2 hl; exact width_12 q w v hv a b o hall
      · obtain ⟨a, b, rfl⟩ := len2 hl; exact width_13 q w v hv a b o hall
      · obtain ⟨a, b, rfl⟩ := len2 hl; exact width_14 q w v hv a b o hall
      · obtain ⟨a, b, rfl⟩ := len2 hl; exact width_15 q w v hv a b o hall
      · obtain ⟨a, b, rfl⟩ := len2 hl; exact width_16 q w v hv a b o hall
      · obtain ⟨a, b, rfl⟩ := len2 hl; exact width_17 q w v hv a b o hall
      · obtain ⟨a, b, rfl⟩ := len2 hl; exact width_18 q w v hv a b o hall
      · obtain ⟨a, b, c, rfl⟩ := len3 hl; exact width_19 q w v hv a b c o hall
      · obtain ⟨a, b, rfl⟩ := len2 hl; exact width_20 q w v hv a b o hall
      · obtain ⟨a, rfl⟩ := len1 hl; exact width_21 q w v hv a o hall
      · obtain ⟨a, rfl⟩ := len1 hl; exact width_22 q w v hv a o hall
      · obtain ⟨a, rfl⟩ := len1 hl; exact width_23 q w v hv a o hall
      · obtain rfl := len0 hl; exact width_24 q w v hv o hall
      · obtain rfl := len0 hl; exact width_25 q w v hv o hall
      · obtain ⟨a, rfl⟩ := len1 hl; exact width_26 q w v hv a o hall
end
end Go.Proofs.YtkofimhnehkdoaaDoor.Rf
end
section
set_option linter.unusedSimpArgs false
set_option linter.unusedVariables false
namespace Go.Proofs.YtkofimhnehkdoaaDoor.Rf
section
variable {hp : List HObj} {lo : Nat} (q : Bool)
end
end Go.Proofs.YtkofimhnehkdoaaDoor.Rf
end
section
set_option linter.unusedSimpArgs false
set_option linter.unusedVariables false
namespace Go.Proofs.YtkofimhnehkdoaaDoor.Rf
section
variable {hp : List HObj} {lo : Nat} (q : Bool)
end
end Go.Proofs.YtkofimhnehkdoaaDoor.Rf
end
section
set_option linter.unusedSimpArgs false
set_option linter.unusedVariables false
namespace Go.Proofs.YtkofimhnehkdoaaDoor.Rf
section
variable {hp : List HObj} {lo : Nat} (q : Bool)
theorem bytesOf_map : ∀ s : List UInt8, bytesOf (s.map fun b => AV.int .u8 b.toNat) = some s
  | [] => rfl
  | b :: r => by
    have h := bytesOf_map r
    have h1 : (b.toNat : Int) < 256 := by have := b.toNat_lt; omega
    simp only [List.map_cons, bytesOf]
    rw [if_pos ⟨by omega, h1⟩, h]
    simp
theorem clone_D (s : List UInt8) (hs : s.length ≤ 140737488355328) : callD G0 IP n_internal_stringslite_Clone [.str s] hp lo q = some (.ret (.str s) hp) := by
  rw [callD_eq]
  by_cases h0 : s = []
  · subst h0
    simp [IP_internal_stringslite_Clone, i_internal_stringslite_Clone]
  · have hl : s.length ≠ 0 := fun e => h0 (List.length_eq_zero_iff.1 e)
    have h1 : (0 : Int) < (s.length : Int) := by omega
    have h2 : (s.length : Int) ≤ 9223372036854775807 := by omega
    have h3 : s.length ≤ s.length := Nat.le_refl _
    have hb := bytesOf_map s
    have htk : List.take s.length (s.map fun b => AV.int .u8 b.toNat) = s.map fun b => AV.int .u8 b.toNat := List.take_of_length_le (by simp)
    simp [IP_internal_stringslite_Clone, i_internal_stringslite_Clone, h0, hl, h1, h2, hs, hb, htk, Nat.pos_of_ne_zero hl]
theorem rangeError_D (f s : List UInt8) (hs : s.length ≤ 140737488355328) : callD G0 IP n_strconv_rangeError [.str f, .str s] hp lo false = some (.ret (.ptr hp.length 0) (hp ++ [.cells 0 [.str f, .str s, .iface 135 .none]])) := by
  rw [callD_eq]
  have e := fun (hp : List HObj) (lo : Nat) (q : Bool) => clone_D (hp := hp) (lo := lo) q s hs
  simp [IP_strconv_rangeError, i_strconv_rangeError, e, G0_6, g_6]
theorem toError_D (f s : List UInt8) (hs : s.length ≤ 140737488355328) (b c : Int) : callD G0 IP n_strconv_toError [.str f, .str s, .int .i64 b, .int .i64 c, .iface 124 (.int .i64 1)] hp lo false = some (.ret (.iface 126 (.ptr hp.length 0)) (hp ++ [.cells 0 [.str f, .str s, .iface 135 .none]])) := by
  rw [callD_eq]
  have e := fun (hp : List HObj) (lo : Nat) => rangeError_D (hp := hp) (lo := lo) f s hs
  simp [IP_strconv_toError, i_strconv_toError, e]
theorem parseUint_D (s : List UInt8) (hs : s.length ≤ 140737488355328) (h0 : s ≠ []) (hd : s.all isDig = true) : ∃ hp', callD G0 IP n_strconv_ParseUint [.str s, .int .i64 10, .int .i64 64] hp lo false =
    some (.ret (if 18446744073709551616 ≤ digVal s then .tup [.int .u64 18446744073709551615, .iface 126 (.ptr hp.length 0)] else .tup [.int .u64 (digVal s), .nili]) hp') := by
  have e := fun (hp : List HObj) (lo : Nat) => parseUintI_D (hp := hp) (lo := lo) s hs h0 hd
  have e2 := fun (f : List UInt8) (hp : List HObj) (lo : Nat) (b c : Int) => toError_D (hp := hp) (lo := lo) f s hs b c
  by_cases hv : 18446744073709551616 ≤ digVal s
  · refine ⟨hp ++ [.cells 0 [.str [80, 97, 114, 115, 101, 85, 105, 110, 116], .str s, .iface 135 .none]], ?_⟩
    rw [callD_eq]
    simp only [pU, if_pos hv] at e ⊢
    simp [IP_strconv_ParseUint, i_strconv_ParseUint, e, e2]
  · refine ⟨hp, ?_⟩
    rw [callD_eq]
    simp only [pU, if_neg hv] at e ⊢
    simp [IP_strconv_ParseUint, i_strconv_ParseUint, e, e2]
theorem digitsParse_D (s : List UInt8) (hs : s.length ≤ 140737488355328) (hx : hasPre s [48, 120] = false) : callD G0 IP n_digits_Parse [.str s] hp lo q = some (.ret (.tup [.int .u64 (numE s).1, .int .i64 (numE s).2]) hp) := by
  rw [callD_eq]
  have e1 := fun (hp : List HObj) (lo : Nat) (q : Bool) => numeral_D (hp := hp) (lo := lo) q s (by omega)
  cases hn : numOk s with
  | false => simp [IP_digits_Parse, i_digits_Parse, cutPre_D, hx, e1, hn, numE]
  | true =>
    obtain ⟨h0, hd⟩ := numE_nonempty hn
    obtain ⟨hp', e2⟩ := parseUint_D (hp := hp) (lo := hp.length) s hs h0 hd
    by_cases hv : 18446744073709551616 ≤ digVal s
    · rw [if_pos hv] at e2
      simp [IP_digits_Parse, i_digits_Parse, cutPre_D, hx, e1, hn, numE, e2, hv]
    · rw [if_neg hv] at e2
      simp [IP_digits_Parse, i_digits_Parse, cutPre_D, hx, e1, hn, numE, e2, hv]
theorem numOk_0x {s : List UInt8} (h : hasPre s [48, 120] = true) : numOk s = false := by
  simp only [hasPre, Bool.and_eq_true, decide_eq_true_eq] at h
  match s, h with
  | a :: b :: r, ⟨_, h⟩ =>
    simp at h
    obtain ⟨rfl, rfl⟩ := h
    simp [numOk]
theorem ttNumeral_D (s : List UInt8) (hs : s.length ≤ 140737488355328) : callD G0 IP n_termtext_numeral [.str s] hp lo q = some (.ret (.tup [.int .u64 (numE s).1, .int .i64 (numE s).2]) hp) := by
  rw [callD_eq]
  cases hx : hasPre s [48, 120] with
  | true => simp [IP_termtext_numeral, i_termtext_numeral, hasPre_D, hx, numE, numOk_0x hx]
  | false =>
    have e := fun (hp : List HObj) (lo : Nat) (q : Bool) => digitsParse_D (hp := hp) (lo := lo) q s hs hx
    simp [IP_termtext_numeral, i_termtext_numeral, hasPre_D, hx, e]
end
end Go.Proofs.YtkofimhnehkdoaaDoor.Rf
end
section
set_option linter.unusedSimpArgs false
set_option linter.unusedVariables false
namespace Go.Proofs.YtkofimhnehkdoaaDoor.Rf
def bt (s : List UInt8) (i : Nat) : Int := ((s.getD i 0).toNat : Int)
theorem bt_some {s : List UInt8} {i : Nat} (h : i < s.length) : ∃ c : UInt8, s[i]? = some c ∧ bt s i = (c.toNat : Int) := ⟨s[i], by simp [h], by simp [bt, h]⟩
def lowC (n : Int) : Bool := decide (97 ≤ n) && decide (n ≤ 122)
def nameC (n : Int) : Bool := lowC n || (decide (48 ≤ n) && decide (n ≤ 57)) || decide (n = 95)
def nameOk (s : List UInt8) : Bool := decide (1 ≤ s.length) && (decide (s.length ≤ 16) && (lowC (bt s 0) && s.all fun c => nameC (c.toNat : Int)))
inductive TR where
  | ok (t : T) | err (e : Int)
def T.z : T := .mk 0 0 0 [] true []
def TR.t : TR → T | .ok t => t | .err _ => T.z
def TR.e : TR → Int | .ok _ => 0 | .err e => e
def TR.out (hp : List HObj) : TR → COut
  | .ok t => .ret t.av hp
  | .err e => .pan (.iface 42 (.agg [.int .i64 e])) hp
def TR.tup (hp : List HObj) (r : TR) : COut := .ret (.tup [r.t.av, .int .i64 r.e]) hp
def constR (left : List UInt8) (w e : Int) : TR :=
  if (numE left).2 = 6 then .err 6 else
  if ¬ (e = 0 ∧ (numE left).2 = 0 ∧ w ≤ 64) then .err 2 else
  if (widE 2 w (numE left).1 []).2 ≠ 0 then .err (widE 2 w (numE left).1 []).2 else
  .ok (.mk 2 w (numE left).1 [] true [])
def leafOp (l : List UInt8) : Int := if bt l 0 = 63 then 24 else if bt l 0 = 35 then 25 else 1
def leafNm (l : List UInt8) : List UInt8 := if bt l 0 = 63 ∨ bt l 0 = 35 then l.drop 1 else l
def leafR (s : List UInt8) : TR :=
  if (cutB s 58).2.2 = false ∨ (numE (cutB s 58).2.1).2 = 6 then .err 6 else
  if 48 ≤ bt s 0 ∧ bt s 0 ≤ 57 then constR (cutB s 58).1 (numE (cutB s 58).2.1).1 (numE (cutB s 58).2.1).2 else
  if nameOk (leafNm (cutB s 58).1) = false then .err 5 else
  if ¬ ((numE (cutB s 58).2.1).2 = 0 ∧ (numE (cutB s 58).2.1).1 ≤ 64) then .err 2 else
  .ok (.mk (leafOp (cutB s 58).1) (numE (cutB s 58).2.1).1 0 (leafNm (cutB s 58).1) true [])
end Go.Proofs.YtkofimhnehkdoaaDoor.Rf
end
section
set_option linter.unusedSimpArgs false
set_option linter.unusedVariables false
namespace Go.Proofs.YtkofimhnehkdoaaDoor.Rf
theorem any_names (s : List UInt8) : ((List.range s.length).any fun i => !nameC (bt s i)) = !(s.all fun c => nameC (c.toNat : Int)) := by
  induction s with
  | nil => rfl
  | cons c r ih =>
    rw [List.length_cons, List.range_succ_eq_map]
    simp [List.any_map, Function.comp_def, bt] at ih ⊢
    rw [ih]
section
variable {hp : List HObj} {lo : Nat} (q : Bool)
theorem must_D (ok : Bool) (e : Int) : callD G0 IP n_termtext_must [.bool ok, .int .i64 e] hp lo false = some (if ok then .ret (.tup []) hp else .pan (.iface 42 (.agg [.int .i64 e])) hp) := by
  rw [callD_eq]
  cases ok <;> simp [IP_termtext_must, i_termtext_must]
theorem failT_D (e : Int) : callD G0 IP n_termtext_fail [.int .i64 e] hp lo false = some (if e = 0 then .ret (.tup []) hp else .pan (.iface 42 (.agg [.int .i64 e])) hp) := by
  rw [callD_eq]
  by_cases h : e = 0 <;> simp [IP_termtext_fail, i_termtext_fail, h]
theorem name_D (s : List UInt8) (hs : s.length ≤ 9223372036854775807) : callD G0 IP n_term_Name [.str s] hp lo q = some (.ret (.bool (nameOk s)) hp) := by
  rw [callD_eq]
  by_cases h1 : s.length < 1
  · have h0 : ¬ 1 ≤ s.length := by omega
    have hi : (s.length : Int) < 1 := by omega
    simp [IP_term_Name, i_term_Name, nameOk, hi, h0]
  · have h1' : 1 ≤ s.length := by omega
    have hi : ¬ (s.length : Int) < 1 := by omega
    by_cases h2 : 16 < s.length
    · have h2' : (16 : Int) < (s.length : Int) := by omega
      have h0 : ¬ s.length ≤ 16 := by omega
      simp [IP_term_Name, i_term_Name, nameOk, hi, h2', h0]
    · have h2' : ¬ (16 : Int) < (s.length : Int) := by omega
      obtain ⟨c, h4, hb⟩ := bt_some (s := s) (i := 0) (by omega)
      have h3 : s.length ≤ 16 := by omega
      by_cases h5 : (c.toNat : Int) < 97
      · have g : lowC (c.toNat : Int) = false := by simp [lowC]; omega
        simp [IP_term_Name, i_term_Name, nameOk, hi, h2', h4, hb, h5, g]
      · by_cases h6 : 122 < (c.toNat : Int)
        · have g : lowC (c.toNat : Int) = false := by simp [lowC]; omega
          simp [IP_term_Name, i_term_Name, nameOk, hi, h2', h4, hb, h5, h6, g]
        · have g : lowC (c.toNat : Int) = true := by simp [lowC]; omega
          have hloop := loop_find (G := G0) (IP := IP) (lo := hp.length) (b := l_term_Name_0)
            (fun i => ⟨[(0, .str s), (24, .int .i64 s.length), (25, .int .i64 i)], hp⟩) s.length (fun i => !nameC (bt s i))
            (.ret, ⟨[(2, .bool false)], hp⟩) (.exit 0, ⟨[(0, .str s), (24, .int .i64 s.length), (25, .int .i64 s.length), (26, .bool false)], hp⟩)
            (fun i hi hp => by
              have hw := wrap_succ hi hs
              obtain ⟨c, h4, hb⟩ := bt_some (s := s) (i := i) hi
              have h4' : s[i] = c := by simpa [hi] using h4
              rw [hb] at hp
              rw [← hw]
              by_cases a1 : (c.toNat : Int) < 97
              · by_cases a2 : (c.toNat : Int) < 48
                · simp [nameC, lowC] at hp; omega
                · by_cases a3 : 57 < (c.toNat : Int)
                  · have a4 : (c.toNat : Int) = 95 := by simp [nameC, lowC] at hp; omega
                    simp [l_term_Name_0, h4, h4', hi, a1, a2, a3, a4]
                  · simp [l_term_Name_0, h4, h4', hi, a1, a2, a3]
              · by_cases a2 : 122 < (c.toNat : Int)
                · simp [nameC, lowC] at hp; omega
                · simp [l_term_Name_0, h4, h4', hi, a1, a2])
            (fun i hi hp => by
              obtain ⟨c, h4, hb⟩ := bt_some (s := s) (i := i) hi
              have h4' : s[i] = c := by simpa [hi] using h4
              rw [hb] at hp
              have a4 : ¬ (c.toNat : Int) = 95 := by simp [nameC, lowC] at hp; omega
              by_cases a1 : (c.toNat : Int) < 97
              · by_cases a2 : (c.toNat : Int) < 48
                · simp [l_term_Name_0, h4, h4', hi, a1, a2, a4]
                · have a3 : 57 < (c.toNat : Int) := by simp [nameC, lowC] at hp; omega
                  simp [l_term_Name_0, h4, h4', hi, a1, a2, a3, a4]
              · have a2 : 122 < (c.toNat : Int) := by simp [nameC, lowC] at hp; omega
                have a3 : 57 < (c.toNat : Int) := by omega
                have a5 : ¬ (c.toNat : Int) < 48 := by omega
                simp [l_term_Name_0, h4, h4', hi, a1, a2, a3, a4, a5])
            (by simp) (by simp [l_term_Name_0]) (by simp)
          rw [any_names] at hloop
          simp only [Int.natCast_zero] at hloop
          cases h : s.all fun c => nameC (c.toNat : Int) with
          | true => rw [h] at hloop; simp only [Bool.not_true, Bool.false_eq_true, if_false] at hloop; simp [IP_term_Name, i_term_Name, hi, h2', h4, h5, h6, hloop, nameOk, hb, g, h1', h3, h]
          | false => rw [h] at hloop; simp only [Bool.not_false, if_true] at hloop; simp [IP_term_Name, i_term_Name, hi, h2', h4, h5, h6, hloop, nameOk, hb, g, h1', h3, h]
end
end Go.Proofs.YtkofimhnehkdoaaDoor.Rf
end
section
set_option linter.unusedSimpArgs false
set_option linter.unusedVariables false
namespace Go.Proofs.YtkofimhnehkdoaaDoor.Rf
theorem numE_bd (s : List UInt8) : 0 ≤ (numE s).1 ∧ (numE s).1 < 18446744073709551616 := by
  unfold numE
  split
  · omega
  · split <;> omega
theorem numE_code (s : List UInt8) : (numE s).2 = 0 ∨ (numE s).2 = 2 ∨ (numE s).2 = 6 := by
  unfold numE
  split
  · simp
  · split <;> simp
mutual
@[simp] theorem T.av_clo (n : Nat) : ∀ t : T, AV.closed n t.av = true
  | .mk _ _ _ _ o as => by simp [T.av, AV.closed, AV.closedL, T.avs_clo n as]
@[simp] theorem T.avs_clo (n : Nat) : ∀ as : List T, AV.closedL n (T.avs as) = true
  | [] => rfl
  | t :: r => by simp [T.avs, AV.closedL, T.av_clo n t, T.avs_clo n r]
end
theorem leaf_kind (l : List UInt8) : (∃ r, l = 63 :: r) ∨ (∃ r, l = 35 :: r) ∨ (hasPre l [63] = false ∧ hasPre l [35] = false ∧ leafOp l = 1 ∧ leafNm l = l) := by
  rcases l with _ | ⟨c, r⟩
  · exact .inr (.inr ⟨rfl, rfl, rfl, rfl⟩)
  · by_cases h : c = 63
    · exact .inl ⟨r, by rw [h]⟩
    · by_cases h2 : c = 35
      · exact .inr (.inl ⟨r, by rw [h2]⟩)
      · have a : ¬ (c.toNat : Int) = 63 := fun e => h (UInt8.toNat_inj.1 (by simp only [show UInt8.toNat 63 = 63 from rfl, show UInt8.toNat 35 = 35 from rfl]; omega))
        have b : ¬ (c.toNat : Int) = 35 := fun e => h2 (UInt8.toNat_inj.1 (by simp only [show UInt8.toNat 63 = 63 from rfl, show UInt8.toNat 35 = 35 from rfl]; omega))
        exact .inr (.inr ⟨by simp [hasPre, h], by simp [hasPre, h2], by simp [leafOp, bt, a, b], by simp [leafNm, bt, a, b]⟩)
section
variable {hp : List HObj} {lo : Nat} (q : Bool)
theorem constant_D (left : List UInt8) (hs : left.length ≤ 140737488355328) (w e : Int) (hw : 0 ≤ w) : callD G0 IP n_termtext_constant [.str left, .int .u64 w, .int .i64 e] hp lo false = some ((constR left w e).out hp) := by
  rw [callD_eq]
  have hn := fun (hp : List HObj) (lo : Nat) (q : Bool) => ttNumeral_D (hp := hp) (lo := lo) q left hs
  have hb := numE_bd left
  by_cases h1 : (numE left).2 = 6
  · simp [IP_termtext_constant, i_termtext_constant, hn, h1, must_D, constR, TR.out]
  · by_cases h2 : e = 0
    · by_cases h3 : (numE left).2 = 0
      · by_cases h4 : w ≤ 64
        · have e1 : IntKind.wrap .i64 w = w := wrap_small (by omega) (by omega)
          have hW := fun (hp : List HObj) (lo : Nat) (q : Bool) => width_D (hp := hp) (lo := lo) q 2 w (numE left).1 hb.1 [] .nil (by simp)
          simp only [List.map_nil] at hW
          by_cases h5 : (widE 2 w (numE left).1 []).2 = 0
          · simp [IP_termtext_constant, i_termtext_constant, hn, h2, h3, h4, h5, must_D, failT_D, constR, TR.out, e1, hW, T.av, T.avs, ownB]
          · simp [IP_termtext_constant, i_termtext_constant, hn, h2, h3, h4, h5, must_D, failT_D, constR, TR.out, e1, hW]
        · simp [IP_termtext_constant, i_termtext_constant, hn, h2, h3, h4, must_D, constR, TR.out]
      · simp [IP_termtext_constant, i_termtext_constant, hn, h1, h2, h3, must_D, constR, TR.out]
    · simp [IP_termtext_constant, i_termtext_constant, hn, h1, h2, must_D, constR, TR.out]
set_option maxHeartbeats 1000000 in
theorem leafT_D (s : List UInt8) (h0 : s ≠ []) (hs : s.length ≤ 140737488355328) : callD G0 IP n_termtext_leaf [.str s] hp lo false = some ((leafR s).out hp) := by
  rw [callD_eq]
  have hc := fun (hp : List HObj) (lo : Nat) (q : Bool) => cut1_D (hp := hp) (lo := lo) q s (by omega) 58
  have hl1 : (cutB s 58).1.length ≤ 140737488355328 := by
    unfold cutB; split
    · simp only [List.length_take]; omega
    · simp only; omega
  have hl2 : (cutB s 58).2.1.length ≤ 140737488355328 := by
    unfold cutB; split
    · simp only [List.length_drop]; omega
    · simp
  have hn := fun (hp : List HObj) (lo : Nat) (q : Bool) => ttNumeral_D (hp := hp) (lo := lo) q (cutB s 58).2.1 hl2
  have hb := numE_bd (cutB s 58).2.1
  have hk := fun (hp : List HObj) (lo : Nat) => constant_D (hp := hp) (lo := lo) (cutB s 58).1 hl1 (numE (cutB s 58).2.1).1 (numE (cutB s 58).2.1).2 hb.1
  have hL : leafR s = if (cutB s 58).2.2 = false ∨ (numE (cutB s 58).2.1).2 = 6 then .err 6 else
    if 48 ≤ bt s 0 ∧ bt s 0 ≤ 57 then constR (cutB s 58).1 (numE (cutB s 58).2.1).1 (numE (cutB s 58).2.1).2 else
    if nameOk (leafNm (cutB s 58).1) = false then .err 5 else
    if ¬ ((numE (cutB s 58).2.1).2 = 0 ∧ (numE (cutB s 58).2.1).1 ≤ 64) then .err 2 else
    .ok (.mk (leafOp (cutB s 58).1) (numE (cutB s 58).2.1).1 0 (leafNm (cutB s 58).1) true []) := rfl
  obtain ⟨c, h4, hbt⟩ := bt_some (s := s) (i := 0) (by cases s; exact absurd rfl h0; simp)
  have h4' : s.head? = some c := by rw [List.head?_eq_getElem?]; exact h4
  rw [hL, hbt]
  generalize hcl : (cutB s 58).1 = l at *
  generalize hcr : (cutB s 58).2.1 = r at *
  generalize hcf : (cutB s 58).2.2 = f at *
  cases f with
  | false => simp [IP_termtext_leaf, i_termtext_leaf, hc, hn, must_D, TR.out]
  | true =>
    by_cases h1 : (numE r).2 = 6
    · simp [IP_termtext_leaf, i_termtext_leaf, hc, hn, must_D, TR.out, h1]
    · by_cases hd : 48 ≤ (c.toNat : Int) ∧ (c.toNat : Int) ≤ 57
      · rw [if_neg (by simp [h1]), if_pos hd]
        cases hx : constR l (numE r).1 (numE r).2 with
        | ok t => rw [hx] at hk; simp [TR.out] at hk; simp [IP_termtext_leaf, i_termtext_leaf, hc, hn, must_D, TR.out, h1, hd.1, hd.2, h4, hk, T.av_eq]
        | err e => rw [hx] at hk; simp [TR.out] at hk; simp [IP_termtext_leaf, i_termtext_leaf, hc, hn, must_D, TR.out, h1, hd.1, hd.2, h4, hk]
      · rw [if_neg (by simp [h1]), if_neg hd]
        have hd' : (48 ≤ (c.toNat : Int) ∧ ¬ (c.toNat : Int) ≤ 57) ∨ ¬ 48 ≤ (c.toNat : Int) := by omega
        have hr := numE_code r
        rcases leaf_kind l with ⟨l', rfl⟩ | ⟨l', rfl⟩ | ⟨k1, k2, k3, k4⟩
        · have k1 : hasPre (63 :: l') [63] = true := by simp [hasPre]
          have k3 : leafOp (63 :: l') = 24 := rfl
          have k4 : leafNm (63 :: l') = l' := rfl
          have hm := fun (hp : List HObj) (lo : Nat) (q : Bool) => name_D (hp := hp) (lo := lo) q l' (by simp at hl1; omega)
          rw [k3, k4]
          cases hN : nameOk l' with
          | false =>
            rcases hd' with ⟨d1, d2⟩ | d1
            · simp [IP_termtext_leaf, i_termtext_leaf, hc, hn, must_D, hasPre_D, hm, TR.out, h1, h4, k1, d1, d2, hN]
            · simp [IP_termtext_leaf, i_termtext_leaf, hc, hn, must_D, hasPre_D, hm, TR.out, h1, h4, k1, d1, hN]
          | true =>
            by_cases h5 : (numE r).2 = 0
            · by_cases h6 : (numE r).1 ≤ 64
              · have e1 : IntKind.wrap .i64 (numE r).1 = (numE r).1 := wrap_small (by omega) (by omega)
                rcases hd' with ⟨d1, d2⟩ | d1
                · simp [IP_termtext_leaf, i_termtext_leaf, hc, hn, must_D, hasPre_D, hm, TR.out, h1, h4, k1, d1, d2, hN, h5, h6, e1, T.av, T.avs, ownB]
                · simp [IP_termtext_leaf, i_termtext_leaf, hc, hn, must_D, hasPre_D, hm, TR.out, h1, h4, k1, d1, hN, h5, h6, e1, T.av, T.avs, ownB]
              · rcases hd' with ⟨d1, d2⟩ | d1
                · simp [IP_termtext_leaf, i_termtext_leaf, hc, hn, must_D, hasPre_D, hm, TR.out, h1, h4, k1, d1, d2, hN, h5, h6]
                · simp [IP_termtext_leaf, i_termtext_leaf, hc, hn, must_D, hasPre_D, hm, TR.out, h1, h4, k1, d1, hN, h5, h6]
            · rcases hd' with ⟨d1, d2⟩ | d1
              · simp [IP_termtext_leaf, i_termtext_leaf, hc, hn, must_D, hasPre_D, hm, TR.out, h1, h4, k1, d1, d2, hN, h5]
              · simp [IP_termtext_leaf, i_termtext_leaf, hc, hn, must_D, hasPre_D, hm, TR.out, h1, h4, k1, d1, hN, h5]
        · have k1 : hasPre (35 :: l') [63] = false := by simp [hasPre]
          have k2 : hasPre (35 :: l') [35] = true := by simp [hasPre]
          have k3 : leafOp (35 :: l') = 25 := rfl
          have k4 : leafNm (35 :: l') = l' := rfl
          have hm := fun (hp : List HObj) (lo : Nat) (q : Bool) => name_D (hp := hp) (lo := lo) q l' (by simp at hl1; omega)
          rw [k3, k4]
          cases hN : nameOk l' with
          | false =>
            rcases hd' with ⟨d1, d2⟩ | d1
            · simp [IP_termtext_leaf, i_termtext_leaf, hc, hn, must_D, hasPre_D, hm, TR.out, h1, h4, k1, k2, d1, d2, hN]
            · simp [IP_termtext_leaf, i_termtext_leaf, hc, hn, must_D, hasPre_D, hm, TR.out, h1, h4, k1, k2, d1, hN]
          | true =>
            by_cases h5 : (numE r).2 = 0
            · by_cases h6 : (numE r).1 ≤ 64
              · have e1 : IntKind.wrap .i64 (numE r).1 = (numE r).1 := wrap_small (by omega) (by omega)
                rcases hd' with ⟨d1, d2⟩ | d1
                · simp [IP_termtext_leaf, i_termtext_leaf, hc, hn, must_D, hasPre_D, hm, TR.out, h1, h4, k1, k2, d1, d2, hN, h5, h6, e1, T.av, T.avs, ownB]
                · simp [IP_termtext_leaf, i_termtext_leaf, hc, hn, must_D, hasPre_D, hm, TR.out, h1, h4, k1, k2, d1, hN, h5, h6, e1, T.av, T.avs, ownB]
              · rcases hd' with ⟨d1, d2⟩ | d1
                · simp [IP_termtext_leaf, i_termtext_leaf, hc, hn, must_D, hasPre_D, hm, TR.out, h1, h4, k1, k2, d1, d2, hN, h5, h6]
                · simp [IP_termtext_leaf, i_termtext_leaf, hc, hn, must_D, hasPre_D, hm, TR.out, h1, h4, k1, k2, d1, hN, h5, h6]
            · rcases hd' with ⟨d1, d2⟩ | d1
              · simp [IP_termtext_leaf, i_termtext_leaf, hc, hn, must_D, hasPre_D, hm, TR.out, h1, h4, k1, k2, d1, d2, hN, h5]
              · simp [IP_termtext_leaf, i_termtext_leaf, hc, hn, must_D, hasPre_D, hm, TR.out, h1, h4, k1, k2, d1, hN, h5]
        · have hm := fun (hp : List HObj) (lo : Nat) (q : Bool) => name_D (hp := hp) (lo := lo) q l (by omega)
          rw [k3, k4]
          cases hN : nameOk l with
          | false =>
            rcases hd' with ⟨d1, d2⟩ | d1
            · simp [IP_termtext_leaf, i_termtext_leaf, hc, hn, must_D, hasPre_D, hm, TR.out, h1, h4, k1, k2, d1, d2, hN]
            · simp [IP_termtext_leaf, i_termtext_leaf, hc, hn, must_D, hasPre_D, hm, TR.out, h1, h4, k1, k2, d1, hN]
          | true =>
            by_cases h5 : (numE r).2 = 0
            · by_cases h6 : (numE r).1 ≤ 64
              · have e1 : IntKind.wrap .i64 (numE r).1 = (numE r).1 := wrap_small (by omega) (by omega)
                rcases hd' with ⟨d1, d2⟩ | d1
                · simp [IP_termtext_leaf, i_termtext_leaf, hc, hn, must_D, hasPre_D, hm, TR.out, h1, h4, k1, k2, d1, d2, hN, h5, h6, e1, T.av, T.avs, ownB]
                · simp [IP_termtext_leaf, i_termtext_leaf, hc, hn, must_D, hasPre_D, hm, TR.out, h1, h4, k1, k2, d1, hN, h5, h6, e1, T.av, T.avs, ownB]
              · rcases hd' with ⟨d1, d2⟩ | d1
                · simp [IP_termtext_leaf, i_termtext_leaf, hc, hn, must_D, hasPre_D, hm, TR.out, h1, h4, k1, k2, d1, d2, hN, h5, h6]
                · simp [IP_termtext_leaf, i_termtext_leaf, hc, hn, must_D, hasPre_D, hm, TR.out, h1, h4, k1, k2, d1, hN, h5, h6]
            · rcases hd' with ⟨d1, d2⟩ | d1
              · simp [IP_termtext_leaf, i_termtext_leaf, hc, hn, must_D, hasPre_D, hm, TR.out, h1, h4, k1, k2, d1, d2, hN, h5]
              · simp [IP_termtext_leaf, i_termtext_leaf, hc, hn, must_D, hasPre_D, hm, TR.out, h1, h4, k1, k2, d1, hN, h5]
end
end Go.Proofs.YtkofimhnehkdoaaDoor.Rf
end
section
set_option linter.unusedSimpArgs false
set_option linter.unusedVariables false
namespace Go.Proofs.YtkofimhnehkdoaaDoor.Rf
def w7 (s : List UInt8) : Int × Int := if (numE s).2 ≠ 0 then (0, (numE s).2) else if 64 < (numE s).1 then (0, 2) else ((numE s).1, 0)
section
variable {hp : List HObj} {lo : Nat} (q : Bool)
end
end Go.Proofs.YtkofimhnehkdoaaDoor.Rf
end
section
set_option linter.unusedSimpArgs false
set_option linter.unusedVariables false
namespace Go.Proofs.YtkofimhnehkdoaaDoor.Rf
section
variable {hp : List HObj} {lo : Nat} (q : Bool)
end
end Go.Proofs.YtkofimhnehkdoaaDoor.Rf
end
section
set_option linter.unusedSimpArgs false
set_option linter.unusedVariables false
namespace Go.Proofs.YtkofimhnehkdoaaDoor.Rf
section
variable {hp : List HObj} {lo : Nat} (q : Bool)
end
end Go.Proofs.YtkofimhnehkdoaaDoor.Rf
end
section
set_option linter.unusedSimpArgs false
set_option linter.unusedVariables false
namespace Go.Proofs.YtkofimhnehkdoaaDoor.Rf
def numsN (op : Int) : Nat := if op = 21 then 2 else if op = 22 ∨ op = 23 then 1 else 0
def numR (s : List UInt8) (most : Int) : Int × Int := if (numE s).2 = 6 then (0, 6) else if (numE s).2 ≠ 0 ∨ most < (numE s).1 then (0, 2) else ((numE s).1, 0)
def S.z : S := .mk [] true []
def numsR (op : Int) (l : List S) : Int × Int × Int :=
  if op = 21 then
    (if (numR (l.getD 1 S.z).atom 18446744073709551615).2 ≠ 0 then (0, 0, (numR (l.getD 1 S.z).atom 18446744073709551615).2) else
     if (numR (l.getD 2 S.z).atom 64).2 ≠ 0 then (0, 0, (numR (l.getD 2 S.z).atom 64).2) else
     ((numR (l.getD 1 S.z).atom 18446744073709551615).1, (numR (l.getD 2 S.z).atom 64).1, 0))
  else if op = 22 ∨ op = 23 then
    (if (numR (l.getD 1 S.z).atom 64).2 ≠ 0 then (0, 0, (numR (l.getD 1 S.z).atom 64).2) else (0, (numR (l.getD 1 S.z).atom 64).1, 0))
  else (0, 0, 0)
inductive TRs where
  | ok (t : List T) | err (e : Int)
def TRs.cons (r : TR) (s : TRs) : TRs := match r with
  | .err e => .err e
  | .ok t => match s with
    | .err e => .err e
    | .ok ts => .ok (t :: ts)
def nodeR (op v w : Int) (s : TRs) : TR := match s with
  | .err e => .err e
  | .ok ts => if (widE op w v (ts.map T.width)).2 ≠ 0 then .err (widE op w v (ts.map T.width)).2 else .ok (.mk op (widE op w v (ts.map T.width)).1 v [] ts.isEmpty ts)
def headR (l : List S) : Bool := decide (l ≠ []) && ((ofE (l.getD 0 S.z).atom).2 && (!decide (arE (ofE (l.getD 0 S.z).atom).1 = 0) && decide ((l.length : Int) = 1 + numsN (ofE (l.getD 0 S.z).atom).1 + arE (ofE (l.getD 0 S.z).atom).1)))
mutual
def readS : S → TR
  | .mk a o l => if a ≠ [] then leafR a else
    if headR l = false then .err 6 else
    if (numsR (ofE (l.getD 0 S.z).atom).1 l).2.2 ≠ 0 then .err (numsR (ofE (l.getD 0 S.z).atom).1 l).2.2 else
    nodeR (ofE (l.getD 0 S.z).atom).1 (numsR (ofE (l.getD 0 S.z).atom).1 l).1 (numsR (ofE (l.getD 0 S.z).atom).1 l).2.1 (readsS l (1 + numsN (ofE (l.getD 0 S.z).atom).1))
def readsS : List S → Nat → TRs
  | [], _ => .ok []
  | x :: r, k + 1 => readsS r k
  | x :: r, 0 => TRs.cons (readS x) (readsS r 0)
end
theorem numR_bd (s : List UInt8) (m : Int) (hm : 0 ≤ m) : 0 ≤ (numR s m).1 ∧ (numR s m).1 ≤ m := by
  have := numE_bd s
  unfold numR; split
  · simp; omega
  · split
    · simp; omega
    · rename_i h; simp only; omega
end Go.Proofs.YtkofimhnehkdoaaDoor.Rf
end
section
set_option linter.unusedSimpArgs false
set_option linter.unusedVariables false
namespace Go.Proofs.YtkofimhnehkdoaaDoor.Rf
def notE (t : T) : Bool := decide (0 ≤ t.width) && (decide (t.width ≤ 64) && (decide ((t.args.length : Int) = arE t.op) && (if t.op = 1 ∨ t.op = 24 ∨ t.op = 25 then nameOk t.name && decide (t.val = 0) else if t.op = 2 ∨ t.op = 21 then decide (t.name = []) else decide (t.name = []) && decide (t.val = 0))))
theorem notE_mk (op w v : Int) (n : List UInt8) (o : Bool) (as : List T) : notE (.mk op w v n o as) = (decide (0 ≤ w) && (decide (w ≤ 64) && (decide ((as.length : Int) = arE op) && (if op = 1 ∨ op = 24 ∨ op = 25 then nameOk n && decide (v = 0) else if op = 2 ∨ op = 21 then decide (n = []) else decide (n = []) && decide (v = 0))))) := rfl
def decI (n : Int) : List UInt8 := dec n.toNat
def aS (a : List UInt8) : S := .mk a true []
def headW (op w v : Int) : List S := aS (nameE op) :: ((if op = 21 then [aS (decI v)] else []) ++ (if op = 21 ∨ op = 22 ∨ op = 23 then [aS (decI w)] else []))
mutual
def writeT : T → S
  | .mk op w v n o as => if notE (.mk op w v n o as) = false then aS [63] else
    if op = 1 then aS (n ++ 58 :: decI w) else
    if op = 24 then aS (63 :: (n ++ 58 :: decI w)) else
    if op = 25 then aS (35 :: (n ++ 58 :: decI w)) else
    if op = 2 then aS (decI v ++ 58 :: decI w) else
    .mk [] false (headW op w v ++ writeTs as)
def writeTs : List T → List S
  | [] => []
  | t :: r => writeT t :: writeTs r
end
mutual
def T.valid : T → Bool
  | .mk op w v n o as => T.valids as && (notE (.mk op w v n o as) && (decide ((widE op w v (as.map T.width)).2 = 0) && decide ((widE op w v (as.map T.width)).1 = w)))
def T.valids : List T → Bool
  | [] => true
  | t :: r => t.valid && T.valids r
end
mutual
def T.norm : T → T
  | .mk op w v n o as => .mk op w v n as.isEmpty (T.norms as)
def T.norms : List T → List T
  | [] => []
  | t :: r => t.norm :: T.norms r
end
theorem writeTs_len : ∀ as : List T, (writeTs as).length = as.length
  | [] => rfl
  | t :: r => by simp [writeTs, writeTs_len r]
theorem T.norms_isEmpty (as : List T) : (T.norms as).isEmpty = as.isEmpty := by cases as <;> rfl
theorem T.norm_width (t : T) : t.norm.width = t.width := by cases t; rfl
theorem T.norms_width : ∀ as : List T, (T.norms as).map T.width = as.map T.width
  | [] => rfl
  | t :: r => by simp [T.norms, T.norms_width r, T.norm_width t]
theorem idxB_app : ∀ (n r : List UInt8) (c : UInt8), c ∉ n → idxB (n ++ c :: r) c = n.length
  | [], r, c, _ => by simp [idxB]
  | b :: n, r, c, h => by
    have ih := idxB_app n r c (fun hm => h (by simp [hm]))
    have hb : ¬ b = c := fun e => h (by simp [e])
    have h1 : ¬ (n.length : Int) = -1 := by omega
    simp [idxB, hb, ih, h1]
theorem cutB_app (n r : List UInt8) (c : UInt8) (h : c ∉ n) : cutB (n ++ c :: r) c = (n, r, true) := by
  unfold cutB; rw [idxB_app n r c h, if_pos (by omega)]; simp
theorem nameOk_mem {n : List UInt8} (h : nameOk n = true) : n ≠ [] ∧ n.length ≤ 16 ∧ 97 ≤ bt n 0 ∧ bt n 0 ≤ 122 ∧ ∀ c, c ∈ n → nameC (c.toNat : Int) = true := by
  simp only [nameOk, lowC, Bool.and_eq_true, decide_eq_true_eq, List.all_eq_true] at h
  obtain ⟨h1, h2, ⟨h3, h4⟩, h5⟩ := h
  exact ⟨fun e => by subst e; simp at h1, h2, h3, h4, h5⟩
theorem nameOk_colon {n : List UInt8} (h : nameOk n = true) : (58 : UInt8) ∉ n := fun hm => by
  have := (nameOk_mem h).2.2.2.2 58 hm
  revert this; decide
theorem decI_digs (n : Int) : ∀ c, c ∈ decI n → isDig c = true := dec_digs _
theorem decI_colon (n : Int) : (58 : UInt8) ∉ decI n := fun hm => by
  have := decI_digs n 58 hm
  revert this; decide
theorem numE_decI {w : Int} (h0 : 0 ≤ w) (h1 : w < 18446744073709551616) : numE (decI w) = (w, 0) := by
  have h := numE_dec (n := w.toNat) (by omega)
  unfold decI; rw [h]
  have : ((w.toNat : Nat) : Int) = w := Int.toNat_of_nonneg h0
  rw [this]
theorem leaf_name {l n : List UInt8} {w : Int} (h0 : 0 ≤ w) (h1 : w ≤ 64) (hc : (58 : UInt8) ∉ l) (hn : leafNm l = n) (hk : nameOk n = true) (hd : ¬ (48 ≤ bt (l ++ 58 :: decI w) 0 ∧ bt (l ++ 58 :: decI w) 0 ≤ 57)) :
    leafR (l ++ 58 :: decI w) = .ok (.mk (leafOp l) w 0 n true []) := by
  unfold leafR
  rw [cutB_app _ _ _ hc]
  simp only [numE_decI h0 (show w < 18446744073709551616 by omega)]
  rw [if_neg (by simp), if_neg hd, hn, hk, if_neg (by simp), if_neg (by simp; omega)]
theorem leaf_const {v w : Int} (h0 : 0 ≤ w) (h1 : w ≤ 64) (g0 : 0 ≤ v) (g1 : v < 18446744073709551616) (hw : (widE 2 w v []).2 = 0) : leafR (decI v ++ 58 :: decI w) = .ok (.mk 2 w v [] true []) := by
  unfold leafR
  rw [cutB_app _ _ _ (decI_colon v)]
  simp only [numE_decI h0 (show w < 18446744073709551616 by omega)]
  have hd : 48 ≤ bt (decI v ++ 58 :: decI w) 0 ∧ bt (decI v ++ 58 :: decI w) 0 ≤ 57 := by
    cases hh : decI v with
    | nil => exact absurd hh (dec_ne _)
    | cons c r =>
      have := decI_digs v c (by rw [hh]; simp)
      simp only [isDig, Bool.and_eq_true, decide_eq_true_eq] at this
      have e : bt (c :: r ++ 58 :: decI w) 0 = (c.toNat : Int) := rfl
      rw [e]; omega
  rw [if_neg (by simp), if_pos hd]
  unfold constR
  simp only [numE_decI g0 g1]
  rw [if_neg (by simp), if_neg (by simp; omega), if_neg (by simp [hw])]
theorem ofE_name {op : Int} (h : opOk op = true) : ofE (nameE op) = (op, true) := by
  rcases opOk_cases h with rfl | rfl | rfl | rfl | rfl | rfl | rfl | rfl | rfl | rfl | rfl | rfl | rfl | rfl | rfl | rfl | rfl | rfl | rfl | rfl | rfl | rfl | rfl | rfl | rfl | rfl
  all_goals decide +kernel
theorem arE_ok {op : Int} (h : arE op ≠ -1) : opOk op = true := by
  cases h2 : opOk op with
  | true => rfl
  | false => exact absurd (by simp [arE, h2]) h
theorem arE_ne {op : Int} (h : opOk op = true) (h1 : op ≠ 1) (h2 : op ≠ 2) (h3 : op ≠ 24) (h4 : op ≠ 25) : arE op ≠ 0 := by
  unfold arE
  rw [if_neg (by simp [h]), if_neg (by omega)]
  split
  · omega
  · split <;> omega
theorem widE_any {op : Int} (w v w' v' : Int) (as : List Int) (h1 : op ≠ 1) (h2 : op ≠ 2) (h3 : op ≠ 24) (h4 : op ≠ 25) (h5 : op ≠ 21) (h6 : op ≠ 22) (h7 : op ≠ 23) : widE op w v as = widE op w' v' as := by
  unfold widE
  simp [h1, h2, h3, h4, h5, h6, h7]
theorem bt_cons (c : UInt8) (r : List UInt8) : bt (c :: r) 0 = (c.toNat : Int) := rfl
theorem bt_app {n r : List UInt8} (h : n ≠ []) : bt (n ++ r) 0 = bt n 0 := by
  cases n with
  | nil => exact absurd rfl h
  | cons c n => rfl
theorem numR_decI {v m : Int} (h0 : 0 ≤ v) (h1 : v ≤ m) (h2 : v < 18446744073709551616) : numR (decI v) m = (v, 0) := by
  unfold numR; rw [numE_decI h0 h2]; simp; omega
mutual
theorem read_write : ∀ t : T, t.wf → t.valid = true → readS (writeT t) = .ok t.norm
  | .mk op w v n o as, hw, hv => by
    simp only [T.wf] at hw
    obtain ⟨_, _, w3, _, _, _, w7⟩ := hw
    have wv : 0 ≤ v ∧ v < 18446744073709551616 := by simp [Lit.wf, IntKind.min, IntKind.max, IntKind.signed, IntKind.bits] at w3; omega
    simp only [T.valid, Bool.and_eq_true, decide_eq_true_eq] at hv
    obtain ⟨v1, v2, v3, v4⟩ := hv
    have ih := reads_writes as w7 v1
    have hN := v2
    rw [notE_mk] at hN
    simp only [Bool.and_eq_true, decide_eq_true_eq] at hN
    obtain ⟨n0, n1, n2, n3⟩ := hN
    have hop : opOk op = true := arE_ok (by omega)
    rw [writeT, if_neg (by rw [v2]; simp)]
    have leaf0 : arE op = 0 → as = [] := fun h => List.length_eq_zero_iff.1 (by omega)
    by_cases h1 : op = 1
    · subst h1
      obtain rfl := leaf0 rfl
      simp only [true_or, if_true, Bool.and_eq_true, decide_eq_true_eq] at n3
      obtain ⟨m1, m2⟩ := n3
      have hm := nameOk_mem m1
      have hb : bt (n ++ 58 :: decI w) 0 = bt n 0 := bt_app hm.1
      have e1 : leafNm n = n := by unfold leafNm; rw [if_neg (by omega)]
      have e2 : leafOp n = 1 := by unfold leafOp; rw [if_neg (by omega), if_neg (by omega)]
      rw [if_pos rfl, aS, readS, if_pos (by simp), leaf_name n0 n1 (nameOk_colon m1) e1 m1 (by rw [hb]; omega), e2, m2]
      rfl
    rw [if_neg h1]
    by_cases h2 : op = 24
    · subst h2
      obtain rfl := leaf0 rfl
      have n3' : (nameOk n && decide (v = 0)) = true := n3
      simp only [Bool.and_eq_true, decide_eq_true_eq] at n3'
      obtain ⟨m1, m2⟩ := n3'
      have hm := nameOk_mem m1
      rw [if_pos rfl, aS, readS, if_pos (by simp)]
      have hc : (58 : UInt8) ∉ (63 : UInt8) :: n := by
        intro h; rcases List.mem_cons.1 h with h | h
        · revert h; decide
        · exact nameOk_colon m1 h
      have := leaf_name (l := 63 :: n) n0 n1 hc (by rfl) m1 (by rw [List.cons_append, bt_cons]; decide)
      rw [List.cons_append] at this
      rw [this, m2]; rfl
    rw [if_neg h2]
    by_cases h3 : op = 25
    · subst h3
      obtain rfl := leaf0 rfl
      have n3' : (nameOk n && decide (v = 0)) = true := n3
      simp only [Bool.and_eq_true, decide_eq_true_eq] at n3'
      obtain ⟨m1, m2⟩ := n3'
      have hm := nameOk_mem m1
      rw [if_pos rfl, aS, readS, if_pos (by simp)]
      have hc : (58 : UInt8) ∉ (35 : UInt8) :: n := by
        intro h; rcases List.mem_cons.1 h with h | h
        · revert h; decide
        · exact nameOk_colon m1 h
      have := leaf_name (l := 35 :: n) n0 n1 hc (by rfl) m1 (by rw [List.cons_append, bt_cons]; decide)
      rw [List.cons_append] at this
      rw [this, m2]; rfl
    rw [if_neg h3]
    by_cases h4 : op = 2
    · subst h4
      obtain rfl := leaf0 rfl
      have n3' : decide (n = []) = true := n3
      simp only [decide_eq_true_eq] at n3'
      subst n3'
      rw [if_pos rfl, aS, readS, if_pos (by simp), leaf_const n0 n1 wv.1 wv.2 v3]
      rfl
    rw [if_neg h4]
    have hne := arE_ne hop h1 h4 h2 h3
    have hof := ofE_name hop
    rw [readS, if_neg (by simp)]
    by_cases h5 : op = 21
    · subst h5
      have n3' : decide (n = []) = true := n3
      simp only [decide_eq_true_eq] at n3'
      subst n3'
      have hL : headW 21 w v ++ writeTs as = aS (nameE 21) :: aS (decI v) :: aS (decI w) :: writeTs as := rfl
      rw [hL]
      have g0 : ((aS (nameE 21) :: aS (decI v) :: aS (decI w) :: writeTs as).getD 0 S.z).atom = nameE 21 := rfl
      have g1 : ((aS (nameE 21) :: aS (decI v) :: aS (decI w) :: writeTs as).getD 1 S.z).atom = decI v := rfl
      have g2 : ((aS (nameE 21) :: aS (decI v) :: aS (decI w) :: writeTs as).getD 2 S.z).atom = decI w := rfl
      have hR : headR (aS (nameE 21) :: aS (decI v) :: aS (decI w) :: writeTs as) = true := by
        unfold headR; rw [g0, hof]
        have e0 : (numsN 21 : Int) = 2 := rfl
        simp [hne, writeTs_len, e0]; omega
      have hn : numsR 21 (aS (nameE 21) :: aS (decI v) :: aS (decI w) :: writeTs as) = (v, w, 0) := by
        unfold numsR; rw [g1, g2, numR_decI wv.1 (by omega) wv.2, numR_decI n0 n1 (by omega)]; simp
      have hs : readsS (aS (nameE 21) :: aS (decI v) :: aS (decI w) :: writeTs as) (1 + numsN 21) = readsS (writeTs as) 0 := by
        show readsS _ 3 = _
        simp only [readsS]
      rw [if_neg (by rw [hR]; simp), g0, hof]
      simp only [hn, hs, ih]
      rw [if_neg (by simp)]
      simp only [nodeR, T.norms_width, v3, v4, T.norms_isEmpty]
      rw [if_neg (by simp)]; rfl
    · have n3' : (decide (n = []) && decide (v = 0)) = true := by
        rw [if_neg (by omega), if_neg (by omega)] at n3; exact n3
      simp only [Bool.and_eq_true, decide_eq_true_eq] at n3'
      obtain ⟨rfl, rfl⟩ := n3'
      by_cases h6 : op = 22 ∨ op = 23
      · have hL : headW op w 0 ++ writeTs as = aS (nameE op) :: aS (decI w) :: writeTs as := by simp [headW, h5, h6]
        rw [hL]
        have g0 : ((aS (nameE op) :: aS (decI w) :: writeTs as).getD 0 S.z).atom = nameE op := rfl
        have g1 : ((aS (nameE op) :: aS (decI w) :: writeTs as).getD 1 S.z).atom = decI w := rfl
        have hN : numsN op = 1 := by simp [numsN, h5, h6]
        have hR : headR (aS (nameE op) :: aS (decI w) :: writeTs as) = true := by
          unfold headR; rw [g0, hof]
          simp [hne, writeTs_len, hN]; omega
        have hn : numsR op (aS (nameE op) :: aS (decI w) :: writeTs as) = (0, w, 0) := by
          unfold numsR; rw [if_neg h5, if_pos h6, g1, numR_decI n0 n1 (by omega)]; simp
        have hs : readsS (aS (nameE op) :: aS (decI w) :: writeTs as) (1 + numsN op) = readsS (writeTs as) 0 := by
          rw [hN]; show readsS _ 2 = _
          simp only [readsS]
        rw [if_neg (by rw [hR]; simp), g0, hof]
        simp only [hn, hs, ih]
        rw [if_neg (by simp)]
        simp only [nodeR, T.norms_width, v3, v4, T.norms_isEmpty]
        rw [if_neg (by simp)]; rfl
      · have hL : headW op w 0 ++ writeTs as = aS (nameE op) :: writeTs as := by simp [headW, h5, h6]
        rw [hL]
        have g0 : ((aS (nameE op) :: writeTs as).getD 0 S.z).atom = nameE op := rfl
        have hN : numsN op = 0 := by simp [numsN, h5, h6]
        have hR : headR (aS (nameE op) :: writeTs as) = true := by
          unfold headR; rw [g0, hof]
          simp [hne, writeTs_len, hN]; omega
        have hn : numsR op (aS (nameE op) :: writeTs as) = (0, 0, 0) := by
          unfold numsR; rw [if_neg h5, if_neg h6]
        have hs : readsS (aS (nameE op) :: writeTs as) (1 + numsN op) = readsS (writeTs as) 0 := by
          rw [hN]; show readsS _ 1 = _
          simp only [readsS]
        rw [if_neg (by rw [hR]; simp), g0, hof]
        simp only [hn, hs, ih]
        rw [if_neg (by simp)]
        have hx := widE_any 0 0 w 0 (as.map T.width) h1 h4 h2 h3 h5 (fun e => h6 (.inl e)) (fun e => h6 (.inr e))
        simp only [nodeR, T.norms_width, hx, v3, v4, T.norms_isEmpty]
        rw [if_neg (by simp)]; rfl
theorem reads_writes : ∀ as : List T, T.wfs as → T.valids as = true → readsS (writeTs as) 0 = .ok (T.norms as)
  | [], _, _ => rfl
  | t :: r, hw, hv => by
    simp only [T.wfs] at hw
    simp only [T.valids, Bool.and_eq_true] at hv
    simp only [writeTs, readsS, read_write t hw.1 hv.1, reads_writes r hw.2 hv.2, TRs.cons, T.norms]
end
end Go.Proofs.YtkofimhnehkdoaaDoor.Rf
end
section
set_option linter.unusedSimpArgs false
set_option linter.unusedVariables false
namespace Go.Proofs.YtkofimhnehkdoaaDoor.Rf
section
variable {hp : List HObj} {lo : Nat}
theorem fb_tail (hlo : lo ≤ hp.length) (p r : List AV) (n u i : Nat) (hi : i ≤ 7) (hn : i ≤ n) (hu : u < 10 ^ i) (f : List AV) (hf : f.length = i) :
    ∃ fr, evalC G0 (callD G0 IP) (loopD G0 IP lo) lo fbTail ⟨frB hp p.length n u i ++ [(20, .bool false)], HB hp (p ++ (f ++ r))⟩ = some (.normal, ⟨fr, HB hp (p ++ (digA (digN i u) ++ r))⟩) := by
  match i, hi with
  | 0, _ => exact fb_tail0 hlo p r n u hn hu f hf
  | 1, _ => exact fb_tail1 hlo p r n u hn hu f hf
  | 2, _ => exact fb_tail2 hlo p r n u hn hu f hf
  | 3, _ => exact fb_tail3 hlo p r n u hn hu f hf
  | 4, _ => exact fb_tail4 hlo p r n u hn hu f hf
  | 5, _ => exact fb_tail5 hlo p r n u hn hu f hf
  | 6, _ => exact fb_tail6 hlo p r n u hn hu f hf
  | 7, _ => exact fb_tail7 hlo p r n u hn hu f hf
theorem fb_body : i_internal_strconv_formatBase10.body = .seq (.region [oO 17 (.mv (tU 0)), oO 18 (.len (tU 17) .list), oO 4 (.mv (tV 18))] [0, 1, 4]) (.seq (.block 0 (.loop l_internal_strconv_formatBase10_0)) fbTail) := rfl
theorem formatBase10_D (hlo : lo ≤ hp.length) (p f r : List AV) (n u : Nat) (hf : f.length = n) (hn : n ≤ 20) (hu : u < 10 ^ n) (hu2 : u < 18446744073709551616) :
    callD G0 IP n_internal_strconv_formatBase10 [.sref hp.length p.length n 1, .int .u64 u] (HB hp (p ++ (f ++ r))) lo false = some (.ret (.tup []) (HB hp (p ++ (digA (digN n u) ++ r)))) := by
  have h1 := fb_loop (hp := hp) (lo := lo) hlo p r n (by omega) n f [] u hf (by simp) hu2
  simp only [digA, List.map_nil, List.nil_append, List.append_nil] at h1
  have hsum : n % 8 + 8 * (n / 8) = n := by omega
  have hu3 : u / 10 ^ (8 * (n / 8)) < 10 ^ (n % 8) := by
    rw [Nat.div_lt_iff_lt_mul (Nat.pow_pos (by omega)), ← Nat.pow_add, hsum]; exact hu
  obtain ⟨fr, h2⟩ := fb_tail (hp := hp) (lo := lo) hlo p (digA (digN (8 * (n / 8)) u) ++ r) n (u / 10 ^ (8 * (n / 8))) (n % 8) (by omega) (by omega) hu3 (f.take (n % 8)) (by simp; omega)
  have h3 : digA (digN n u) = digA (digN (n % 8) (u / 10 ^ (8 * (n / 8)))) ++ digA (digN (8 * (n / 8)) u) := by
    rw [← digA_app, ← digN_app, hsum]
  rw [h3]
  simp only [digA] at h2 ⊢
  clear h3 hsum hu3
  generalize u / 10 ^ (8 * (n / 8)) = w at *
  generalize n % 8 = m at *
  rw [callD_eq]
  have g1 : i_internal_strconv_formatBase10.arity = 2 := rfl
  have g2 : i_internal_strconv_formatBase10.res = [] := rfl
  have g3 : i_internal_strconv_formatBase10.rcv = none := rfl
  have g4 : i_internal_strconv_formatBase10.dfr = none := rfl
  have g5 : i_internal_strconv_formatBase10.frz = [] := rfl
  have g6 : i_internal_strconv_formatBase10.still = false := rfl
  simp only [List.cons_append, List.nil_append] at h2
  simp [IP_internal_strconv_formatBase10, g1, g2, g3, g4, g5, g6, fb_body, hf, h1, h2]
theorem bytesOf_digA (l : List UInt8) : bytesOf (l.map fun c => AV.int .u8 (c.toNat : Int)) = some l := bytesOf_bytes l
abbrev Z24 : List AV := [.int .u8 0, .int .u8 0, .int .u8 0, .int .u8 0, .int .u8 0, .int .u8 0, .int .u8 0, .int .u8 0, .int .u8 0, .int .u8 0, .int .u8 0, .int .u8 0, .int .u8 0, .int .u8 0, .int .u8 0, .int .u8 0, .int .u8 0, .int .u8 0, .int .u8 0, .int .u8 0, .int .u8 0, .int .u8 0, .int .u8 0, .int .u8 0]
theorem formatUint_D (u : Nat) (hu : u < 18446744073709551616) (hp : List HObj) (lo : Nat) (q : Bool) : callD G0 IP n_internal_strconv_FormatUint [.int .u64 u, .int .i64 10] hp lo q = some (.ret (.str (dec u)) hp) := by
  rw [callD_eq]
  by_cases h : u < 100
  · have h' : (u : Int) < 100 := by omega
    have hw : IntKind.wrap .i64 (u : Int) = u := wrap_small (by omega) (by omega)
    have e := fun (hp : List HObj) (lo : Nat) (q : Bool) => small_D (hp := hp) (lo := lo) q u h
    simp [IP_internal_strconv_FormatUint, i_internal_strconv_FormatUint, h', hw, e]
  · have h' : ¬ (u : Int) < 100 := by omega
    obtain ⟨n, n1, n2, n3, n4⟩ := numDigits_D u (by omega) hu
    have hd : digN (n + 1) u = dec u := digN_dec n u n3 (.inr n2)
    have e1 := formatBase10_D (hp := hp) (lo := hp.length) (Nat.le_refl _) [] (Z24.take (n + 1)) (Z24.drop (n + 1)) (n + 1) u (by simp; omega) (by omega) n3 hu
    rw [List.take_append_drop, hd] at e1
    have k1 : (0 : Int) ≤ (n : Int) + 1 := by omega
    have k2 : n + 1 ≤ 24 := by omega
    have k3 : ((n : Int) + 1).toNat = n + 1 := by omega
    have hl : (dec u).length = n + 1 := by rw [← hd, digN_len]
    simp [digA] at e1
    have k4 : 24 ≤ (dec u).length + (23 - n) := by omega
    have k5 : ∀ X, List.take (n + 1) (((dec u).map fun c => AV.int .u8 (c.toNat : Int)) ++ X) = (dec u).map fun c => AV.int .u8 (c.toNat : Int) := fun X => List.take_left' (by simp; omega)
    have k6 : n + 1 ≤ (dec u).length + (23 - n) := by omega
    simp [IP_internal_strconv_FormatUint, i_internal_strconv_FormatUint, h', n4, k1, k2, k3, k4, k5, k6, bytesOf_digA, e1]
theorem formatUintS_D (u : Nat) (hu : u < 18446744073709551616) (hp : List HObj) (lo : Nat) (q : Bool) : callD G0 IP n_strconv_FormatUint [.int .u64 u, .int .i64 10] hp lo q = some (.ret (.str (dec u)) hp) := by
  rw [callD_eq]
  simp [IP_strconv_FormatUint, i_strconv_FormatUint, formatUint_D u hu]
theorem decT_D (v : Int) (h0 : 0 ≤ v) (hv : v < 18446744073709551616) (hp : List HObj) (lo : Nat) (q : Bool) : callD G0 IP n_digits_Dec [.int .u64 v] hp lo q = some (.ret (.str (decI v)) hp) := by
  have e := formatUintS_D v.toNat (by omega)
  rw [Int.toNat_of_nonneg h0] at e
  rw [callD_eq]
  simp [IP_digits_Dec, i_digits_Dec, e, decI]
theorem intT_D (w : Int) (h0 : 0 ≤ w) (hw : w ≤ 64) (hp : List HObj) (lo : Nat) (q : Bool) : callD G0 IP n_digits_Int [.int .i64 w] hp lo q = some (.ret (.str (decI w)) hp) := by
  have e1 := fun (hp : List HObj) (lo : Nat) (q : Bool) => small_D (hp := hp) (lo := lo) q w.toNat (by omega)
  rw [Int.toNat_of_nonneg h0] at e1
  have k : w < 100 := by omega
  have e2 : ∀ (hp : List HObj) (lo : Nat) (q : Bool), callD G0 IP n_internal_strconv_FormatInt [.int .i64 w, .int .i64 10] hp lo q = some (.ret (.str (decI w)) hp) := fun hp lo q => by
    rw [callD_eq]; simp [IP_internal_strconv_FormatInt, i_internal_strconv_FormatInt, h0, k, e1, decI]
  have e3 : ∀ (hp : List HObj) (lo : Nat) (q : Bool), callD G0 IP n_internal_strconv_Itoa [.int .i64 w] hp lo q = some (.ret (.str (decI w)) hp) := fun hp lo q => by
    rw [callD_eq]; simp [IP_internal_strconv_Itoa, i_internal_strconv_Itoa, e2]
  have e4 : ∀ (hp : List HObj) (lo : Nat) (q : Bool), callD G0 IP n_strconv_Itoa [.int .i64 w] hp lo q = some (.ret (.str (decI w)) hp) := fun hp lo q => by
    rw [callD_eq]; simp [IP_strconv_Itoa, i_strconv_Itoa, e3]
  rw [callD_eq]
  simp [IP_digits_Int, i_digits_Int, e4]
end
end Go.Proofs.YtkofimhnehkdoaaDoor.Rf
end
section
set_option linter.unusedSimpArgs false
set_option linter.unusedVariables false
namespace Go.Proofs.YtkofimhnehkdoaaDoor.Rf
section
variable {hp : List HObj} {lo : Nat}
set_option maxHeartbeats 4000000 in
theorem notable_D (t : T) (hw : t.wf) (hp : List HObj) (lo : Nat) (q : Bool) : callD G0 IP n_termtext_notable [t.av] hp lo q = some (.ret (.bool (notE t)) hp) := by
  rw [callD_eq]
  have hwf := (T.wf_eq t).1 hw
  cases t with | mk op w v n o as =>
  rw [notE_mk, T.av_eq]
  simp only [T.op, T.width, T.val, T.name, T.o, T.args] at hwf ⊢
  have en := fun (hp : List HObj) (lo : Nat) (q : Bool) => name_D (hp := hp) (lo := lo) q n hwf.2.2.2.1
  by_cases h1 : w < 0
  · have h1' : ¬ 0 ≤ w := by omega
    simp [IP_termtext_notable, i_termtext_notable, h1, h1']
  have h1' : 0 ≤ w := by omega
  by_cases h2 : 64 < w
  · have h2' : ¬ w ≤ 64 := by omega
    simp [IP_termtext_notable, i_termtext_notable, h1, h1', h2, h2']
  have h2' : w ≤ 64 := by omega
  by_cases h3 : (as.length : Int) = arE op
  · by_cases k1 : op = 1
    · subst k1
      simp [IP_termtext_notable, i_termtext_notable, arity_D, h1, h1', h2, h2', h3, en]
      cases nameOk n <;> simp
    by_cases k2 : op = 24
    · subst k2
      simp [IP_termtext_notable, i_termtext_notable, arity_D, h1, h1', h2, h2', h3, en]
      cases nameOk n <;> simp
    by_cases k3 : op = 25
    · subst k3
      simp [IP_termtext_notable, i_termtext_notable, arity_D, h1, h1', h2, h2', h3, en]
      cases nameOk n <;> simp
    by_cases k4 : op = 2
    · subst k4
      simp [IP_termtext_notable, i_termtext_notable, arity_D, h1, h1', h2, h2', h3]
      cases n <;> simp
    by_cases k5 : op = 21
    · subst k5
      simp [IP_termtext_notable, i_termtext_notable, arity_D, h1, h1', h2, h2', h3]
      cases n <;> simp
    rcases n with _ | ⟨c, n'⟩
    · simp [IP_termtext_notable, i_termtext_notable, arity_D, h1, h1', h2, h2', h3, k1, k2, k3, k4, k5]
    · simp [IP_termtext_notable, i_termtext_notable, arity_D, h1, h1', h2, h2', h3, k1, k2, k3, k4, k5]
  · simp [IP_termtext_notable, i_termtext_notable, arity_D, h1, h1', h2, h2', h3]
theorem atom_D (s : List UInt8) (hp : List HObj) (lo : Nat) (q : Bool) : callD G0 IP n_termtext_atom [.str s] hp lo q = some (.ret (.agg [.str s, .list [] .nil]) hp) := by
  rw [callD_eq]
  simp [IP_termtext_atom, i_termtext_atom]
end
end Go.Proofs.YtkofimhnehkdoaaDoor.Rf
end
section
set_option linter.unusedSimpArgs false
set_option linter.unusedVariables false
namespace Go.Proofs.YtkofimhnehkdoaaDoor.Rf
section
variable {hp : List HObj} {lo : Nat} (q : Bool)
def TR1 (hp : List HObj) (k : IntKind) (r : Int × Int) : COut := if r.2 = 0 then .ret (.int k r.1) hp else .pan (.iface 42 (.agg [.int .i64 r.2])) hp
theorem ttNumerals_D (op : Int) : callD G0 IP n_termtext_numerals [.int .i64 op] hp lo q = some (.ret (.int .i64 (numsN op)) hp) := by
  rw [callD_eq]
  by_cases h1 : op = 21
  · subst h1; simp [IP_termtext_numerals, i_termtext_numerals, numsN]
  · by_cases h2 : op = 22
    · subst h2; simp [IP_termtext_numerals, i_termtext_numerals, numsN]
    · by_cases h3 : op = 23
      · subst h3; simp [IP_termtext_numerals, i_termtext_numerals, numsN]
      · simp [IP_termtext_numerals, i_termtext_numerals, numsN, h1, h2, h3]
theorem number_D (a : List UInt8) (o : Own) (l : List AV) (hs : a.length ≤ 140737488355328) (m : Int) : callD G0 IP n_termtext_number [.agg [.str a, .list l o], .int .u64 m] hp lo false = some (TR1 hp .u64 (numR a m)) := by
  rw [callD_eq]
  have hn := fun (hp : List HObj) (lo : Nat) (q : Bool) => ttNumeral_D (hp := hp) (lo := lo) q a hs
  by_cases h0 : a = []
  · subst h0
    have e : numR [] m = (0, 6) := by rfl
    simp [IP_termtext_number, i_termtext_number, must_D, e, TR1]
  · by_cases h1 : (numE a).2 = 6
    · have e : numR a m = (0, 6) := by simp [numR, h1]
      simp [IP_termtext_number, i_termtext_number, must_D, hn, h0, h1, e, TR1]
    · by_cases h2 : (numE a).2 = 0
      · by_cases h3 : (numE a).1 ≤ m
        · have e : numR a m = ((numE a).1, 0) := by simp [numR, h2]; omega
          simp [IP_termtext_number, i_termtext_number, must_D, hn, h0, h2, h3, e, TR1]
        · have e : numR a m = (0, 2) := by simp [numR, h2]; omega
          simp [IP_termtext_number, i_termtext_number, must_D, hn, h0, h2, h3, e, TR1]
      · have e : numR a m = (0, 2) := by simp [numR, h1, h2]
        simp [IP_termtext_number, i_termtext_number, must_D, hn, h0, h1, h2, e, TR1]
end
end Go.Proofs.YtkofimhnehkdoaaDoor.Rf
end
section
set_option linter.unusedSimpArgs false
set_option linter.unusedVariables false
namespace Go.Proofs.YtkofimhnehkdoaaDoor.Rf
section
variable {hp : List HObj} {lo : Nat} (q : Bool)
end
end Go.Proofs.YtkofimhnehkdoaaDoor.Rf
end
section
set_option linter.unusedSimpArgs false
set_option linter.unusedVariables false
namespace Go.Proofs.YtkofimhnehkdoaaDoor.Rf
section
variable {hp : List HObj} {lo : Nat} (q : Bool)
end
theorem ofE_ok {s : List UInt8} (h : (ofE s).2 = true) : opOk (ofE s).1 = true := by
  unfold ofE at h ⊢
  split at h
  · rename_i i hi
    have := List.mem_of_find?_eq_some hi
    simp at this
    simp [opOk]; omega
  · simp at h
theorem arE_bd (op : Int) : -1 ≤ arE op ∧ arE op ≤ 3 := by
  unfold arE; split
  · omega
  · split
    · omega
    · split
      · omega
      · split <;> omega
theorem numsN_bd (op : Int) : numsN op ≤ 2 := by
  unfold numsN; split
  · omega
  · split <;> omega
mutual
def S.sm : S → Prop
  | .mk a _ l => a.length ≤ 140737488355328 ∧ S.sms l
def S.sms : List S → Prop
  | [] => True
  | t :: r => t.sm ∧ S.sms r
end
theorem S.sms_iff : ∀ l : List S, S.sms l ↔ ∀ t, t ∈ l → t.sm
  | [] => by simp [S.sms]
  | t :: r => by simp [S.sms, S.sms_iff r]
theorem S.sm_eq (t : S) : t.sm ↔ t.atom.length ≤ 140737488355328 ∧ ∀ u, u ∈ t.list → u.sm := by
  cases t; simp only [S.sm, S.atom, S.list, S.sms_iff]
theorem constR_ne {l : List UInt8} {w e c : Int} (h : constR l w e = .err c) : c ≠ 0 := by
  unfold constR at h
  split at h
  · cases h; simp
  · split at h
    · cases h; simp
    · split at h
      · rename_i k; cases h; exact k
      · cases h
theorem leafR_ne {s : List UInt8} {c : Int} (h : leafR s = .err c) : c ≠ 0 := by
  unfold leafR at h
  split at h
  · cases h; simp
  · split at h
    · exact constR_ne h
    · split at h
      · cases h; simp
      · split at h
        · cases h; simp
        · cases h
mutual
theorem readS_ne : ∀ (e : S) (c : Int), readS e = .err c → c ≠ 0
  | .mk a o l, c, h => by
    rw [readS] at h
    split at h
    · exact leafR_ne h
    · split at h
      · cases h; simp
      · split at h
        · rename_i k; cases h; exact k
        · cases hs : readsS l (1 + numsN (ofE (l.getD 0 S.z).atom).1) with
          | err e => rw [hs] at h; simp only [nodeR] at h; cases h; exact readsS_ne l _ _ hs
          | ok ts =>
            rw [hs] at h; simp only [nodeR] at h
            split at h
            · rename_i k; cases h; exact k
            · cases h
theorem readsS_ne : ∀ (l : List S) (k : Nat) (c : Int), readsS l k = .err c → c ≠ 0
  | [], k, c, h => by simp [readsS] at h
  | x :: r, k + 1, c, h => by rw [readsS] at h; exact readsS_ne r k c h
  | x :: r, 0, c, h => by
    rw [readsS] at h
    cases hx : readS x with
    | err e => rw [hx] at h; simp only [TRs.cons] at h; cases h; exact readS_ne x _ hx
    | ok t =>
      cases hr : readsS r 0 with
      | err e => rw [hx, hr] at h; simp only [TRs.cons] at h; cases h; exact readsS_ne r 0 _ hr
      | ok us => rw [hx, hr] at h; simp only [TRs.cons] at h; cases h
end
def ownT (acc : List T) : Own := if acc.isEmpty then .nil else .own 5 0
@[simp] theorem ownT_cp (acc : List T) : (ownT acc).cp = ownB acc.isEmpty := by cases acc <;> rfl
@[simp] theorem ownT_app (acc : List T) (x : T) : ownT (acc ++ [x]) = .own 5 0 := by cases acc <;> rfl
theorem ownT_ok (acc : List T) : ownT acc = .nil ∨ ownT acc = .own 5 0 := by cases acc <;> simp [ownT]
theorem T.avs_app (a b : List T) : T.avs (a ++ b) = T.avs a ++ T.avs b := by simp [T.avs_eq]
def wds (acc : List T) : List AV := (acc.map T.width).map (AV.int .i64)
@[simp] theorem wds_len (acc : List T) : (wds acc).length = acc.length := by simp [wds]
@[simp] theorem wds_nil : wds [] = [] := rfl
theorem wds_app (acc : List T) (t : T) : wds (acc ++ [t]) = wds acc ++ [.int .i64 t.width] := by simp [wds]
abbrev boxZ : AV := .box [.int .i64 0, .int .i64 0, .int .u64 0, .str [], .list [] .nil]
@[simp] theorem T.okSize_avs (l : List T) : okSize 5 (T.avs l) = true := by
  cases l with
  | nil => rfl
  | cons t r => simp [T.avs, T.av_eq]
@[simp] theorem okSize_wds (l : List T) : okSize 1 (wds l) = true := by
  cases l with
  | nil => rfl
  | cons t r => simp [wds]
section
variable {hp : List HObj} {lo : Nat} (q : Bool)
end
end Go.Proofs.YtkofimhnehkdoaaDoor.Rf
end
section
set_option linter.unusedSimpArgs false
set_option linter.unusedVariables false
namespace Go.Proofs.YtkofimhnehkdoaaDoor.Rf
theorem insE_all {as : List Int} (h : ¬ as.all insE = false) (i : Nat) : 0 ≤ as.getD i 0 ∧ as.getD i 0 ≤ 64 := by
  have h : as.all insE = true := by cases hh : as.all insE <;> simp_all
  by_cases hi : i < as.length
  · have e : as.getD i 0 = as[i] := by simp [List.getD, hi]
    have := List.all_eq_true.1 h as[i] (List.getElem_mem hi)
    simp only [insE, Bool.and_eq_true, decide_eq_true_eq] at this
    rw [e]; exact this
  · have e : as.getD i 0 = 0 := by simp [List.getD, hi]
    rw [e]; omega
theorem widE_idem {op w v : Int} {as : List Int} (h : (widE op w v as).2 = 0) : opOk op = true ∧ (as.length : Int) = arE op ∧ 0 ≤ (widE op w v as).1 ∧ (widE op w v as).1 ≤ 64 ∧ widE op (widE op w v as).1 v as = ((widE op w v as).1, 0) := by
  by_cases c1 : opOk op = false ∨ (as.length : Int) ≠ arE op
  · unfold widE at h; rw [if_pos c1] at h; simp at h
  by_cases c2 : as.all insE = false
  · unfold widE at h; rw [if_neg c1, if_pos c2] at h; simp at h
  have hop : opOk op = true := by cases hh : opOk op <;> simp_all
  have hlen : (as.length : Int) = arE op := by
    by_cases e : (as.length : Int) = arE op
    · exact e
    · exact absurd (.inr e) c1
  refine ⟨hop, hlen, ?_⟩
  have g := insE_all c2
  have g0 := g 0
  have g1 := g 1
  unfold widE at h ⊢
  simp only [if_neg c1, if_neg c2] at h ⊢
  by_cases k1 : op = 1 ∨ op = 2 ∨ op = 24 ∨ op = 25
  · simp only [if_pos k1] at h ⊢
    unfold leafE at h ⊢
    by_cases k : insE w = false ∨ (op = 2 ∧ 0 < w ∧ 2 ^ w.toNat ≤ v)
    · rw [if_pos k] at h; simp at h
    · simp only [if_neg k]
      have : insE w = true := by cases hh : insE w <;> simp_all
      simp only [insE, Bool.and_eq_true, decide_eq_true_eq] at this
      exact ⟨this.1, this.2, trivial⟩
  simp only [if_neg k1] at h ⊢
  by_cases k2 : op = 3 ∨ op = 4 ∨ op = 26
  · simp only [if_pos k2]; exact ⟨g0.1, g0.2, trivial⟩
  simp only [if_neg k2] at h ⊢
  by_cases k3 : op = 21 ∨ op = 22 ∨ op = 23
  · simp only [if_pos k3] at h ⊢
    unfold resE at h ⊢
    by_cases k : w < 1 ∨ 64 < w ∨ as.getD 0 0 < 1
    · rw [if_pos k] at h; simp at h
    · simp only [if_neg k] at h ⊢
      by_cases k' : (op ≠ 21 ∧ w < as.getD 0 0) ∨ (op = 21 ∧ (as.getD 0 0 < w ∨ as.getD 0 0 - w < v))
      · rw [if_pos k'] at h; simp at h
      · simp only [if_neg k']
        rw [if_neg k]
        exact ⟨by omega, by omega, rfl⟩
  simp only [if_neg k3] at h ⊢
  by_cases k4 : op = 19
  · simp only [if_pos k4] at h ⊢
    by_cases k : as.getD 0 0 = 1 ∧ as.getD 1 0 = as.getD 2 0
    · simp only [if_pos k]; exact ⟨g1.1, g1.2, trivial⟩
    · rw [if_neg k] at h; simp at h
  simp only [if_neg k4] at h ⊢
  by_cases k5 : op = 20
  · simp only [if_pos k5] at h ⊢
    by_cases k : 1 ≤ as.getD 0 0 ∧ 1 ≤ as.getD 1 0 ∧ as.getD 0 0 + as.getD 1 0 ≤ 64
    · simp only [if_pos k]; exact ⟨by omega, by omega, trivial⟩
    · rw [if_neg k] at h; simp at h
  simp only [if_neg k5] at h ⊢
  by_cases k6 : op = 16 ∨ op = 17 ∨ op = 18
  · simp only [if_pos k6] at h ⊢
    by_cases k : as.getD 0 0 = as.getD 1 0
    · simp only [if_pos k]; exact ⟨by omega, by omega, trivial⟩
    · rw [if_neg k] at h; simp at h
  simp only [if_neg k6] at h ⊢
  by_cases k : as.getD 0 0 = as.getD 1 0
  · simp only [if_pos k]; exact ⟨g0.1, g0.2, trivial⟩
  · rw [if_neg k] at h; simp at h
theorem i64_wf {n : Int} (h0 : 0 ≤ n) (h1 : n ≤ 1000) : (Lit.int .i64 n).wf = true := by simp [Lit.wf, IntKind.min, IntKind.max, IntKind.signed, IntKind.bits]; omega
theorem u64_wf {n : Int} (h0 : 0 ≤ n) (h1 : n < 18446744073709551616) : (Lit.int .u64 n).wf = true := by simp [Lit.wf, IntKind.min, IntKind.max, IntKind.signed, IntKind.bits]; omega
theorem constR_valid {l : List UInt8} {w e : Int} {t : T} (hw : 0 ≤ w) (h : constR l w e = .ok t) : t.valid = true ∧ t.wf := by
  have hb := numE_bd l
  unfold constR at h
  split at h
  · cases h
  · split at h
    · cases h
    · rename_i k
      have k : e = 0 ∧ (numE l).2 = 0 ∧ w ≤ 64 := Decidable.not_not.1 k
      split at h
      · cases h
      · rename_i k2
        have k2 : (widE 2 w (numE l).1 []).2 = 0 := Decidable.not_not.1 k2
        cases h
        obtain ⟨i1, i2, i3, i4, i5⟩ := widE_idem k2
        have i6 : (widE 2 w (numE l).1 []).1 = w := by
          unfold widE at k2 ⊢
          rw [if_neg (by decide), if_neg (by decide), if_pos (by decide)] at k2 ⊢
          unfold leafE at k2 ⊢
          split at k2
          · simp at k2
          · rename_i k3; rw [if_neg k3]
        refine ⟨?_, ?_⟩
        · simp only [T.valid, T.valids, List.map_nil, k2, i6]
          simp [notE_mk, hw, k.2.2]; rfl
        · simp only [T.wf, T.wfs]
          exact ⟨by decide, i64_wf hw (by omega), u64_wf hb.1 hb.2, by simp, by simp, by simp, trivial⟩
theorem leafOp_cases (l : List UInt8) : leafOp l = 1 ∨ leafOp l = 24 ∨ leafOp l = 25 := by
  unfold leafOp; split
  · simp
  · split <;> simp
theorem name_valid {op w : Int} {n : List UInt8} (h : op = 1 ∨ op = 24 ∨ op = 25) (h0 : 0 ≤ w) (h1 : w ≤ 64) (hn : nameOk n = true) : (T.mk op w 0 n true []).valid = true ∧ (T.mk op w 0 n true []).wf := by
  have ins : insE w = true := by simp [insE, h0, h1]
  have hm := nameOk_mem hn
  refine ⟨?_, ?_⟩
  · have hw : widE op w 0 [] = (w, 0) := by
      have h2 : op ≠ 2 := by omega
      have h3 : op = 1 ∨ op = 2 ∨ op = 24 ∨ op = 25 := by omega
      have h4 : opOk op = true := by simp [opOk]; omega
      have h5 : arE op = 0 := by rcases h with rfl | rfl | rfl <;> rfl
      unfold widE
      rw [if_neg (by simp [h4, h5]), if_neg (by simp), if_pos h3]
      unfold leafE
      rw [if_neg (by simp [ins, h2])]
    have h5 : arE op = 0 := by rcases h with rfl | rfl | rfl <;> rfl
    simp only [T.valid, T.valids, List.map_nil, hw, notE_mk]
    rw [if_pos h]
    simp [h0, h1, hn, h5]
  · simp only [T.wf, T.wfs]
    exact ⟨i64_wf (by omega) (by omega), i64_wf h0 (by omega), by decide, by omega, by simp, by simp, trivial⟩
theorem leafR_valid {s : List UInt8} {t : T} (h : leafR s = .ok t) : t.valid = true ∧ t.wf := by
  unfold leafR at h
  have hb := numE_bd (cutB s 58).2.1
  split at h
  · cases h
  · split at h
    · exact constR_valid hb.1 h
    · split at h
      · cases h
      · rename_i k
        split at h
        · cases h
        · rename_i k2
          have k2 := Decidable.not_not.1 k2
          cases h
          exact name_valid (leafOp_cases _) hb.1 k2.2 (by simpa using k)
theorem nodeR_valid {op v w : Int} {ts : List T} {t : T} (h1 : op ≠ 1) (h2 : op ≠ 2) (h3 : op ≠ 24) (h4 : op ≠ 25) (hv0 : op ≠ 21 → v = 0) (hvr : 0 ≤ v ∧ v < 18446744073709551616) (hts : T.valids ts = true) (hwf : T.wfs ts) (h : nodeR op v w (.ok ts) = .ok t) : t.valid = true ∧ t.wf := by
  simp only [nodeR] at h
  split at h
  · cases h
  · rename_i k
    have k := Decidable.not_not.1 k
    cases h
    obtain ⟨i1, i2, i3, i4, i5⟩ := widE_idem k
    have i1' : 1 ≤ op ∧ op ≤ 26 := by simpa [opOk] using i1
    have i2' : (ts.length : Int) = arE op := by simpa using i2
    have i6 : arE op ≤ 3 := by
      unfold arE; split
      · omega
      · split
        · omega
        · split
          · omega
          · split <;> omega
    refine ⟨?_, ?_⟩
    · simp only [T.valid, hts, i5, Bool.true_and]
      have : notE (.mk op (widE op w v (ts.map T.width)).1 v [] ts.isEmpty ts) = true := by
        rw [notE_mk]
        rw [if_neg (by omega)]
        by_cases h21 : op = 21
        · rw [if_pos (.inr h21)]; simp [i3, i4, i2']
        · rw [if_neg (by omega), hv0 h21]; rw [hv0 h21] at i3 i4; simp [i3, i4, i2']
      simp [this]
    · simp only [T.wf]
      exact ⟨i64_wf (by omega) (by omega), i64_wf i3 (by omega), u64_wf hvr.1 hvr.2, by simp, by omega, by simp, hwf⟩
theorem numsR_val (op : Int) (l : List S) : (op ≠ 21 → (numsR op l).1 = 0) ∧ 0 ≤ (numsR op l).1 ∧ (numsR op l).1 < 18446744073709551616 := by
  have hb := numR_bd (l.getD 1 S.z).atom 18446744073709551615 (by omega)
  unfold numsR
  by_cases h : op = 21
  · rw [if_pos h]
    refine ⟨fun e => absurd h e, ?_⟩
    split
    · simp
    · split
      · simp
      · simp only; omega
  · rw [if_neg h]
    split
    · split <;> simp
    · simp
mutual
theorem readS_valid : ∀ (e : S) (t : T), readS e = .ok t → t.valid = true ∧ t.wf
  | .mk a o l, t, h => by
    rw [readS] at h
    split at h
    · exact leafR_valid h
    · split at h
      · cases h
      · rename_i hh
        split at h
        · cases h
        · cases hs : readsS l (1 + numsN (ofE (l.getD 0 S.z).atom).1) with
          | err e => rw [hs] at h; simp [nodeR] at h
          | ok ts =>
            rw [hs] at h
            have hv := readsS_valid l _ ts hs
            have hn := numsR_val (ofE (l.getD 0 S.z).atom).1 l
            have hR : headR l = true := by cases hx : headR l <;> simp_all
            simp only [headR, Bool.and_eq_true, Bool.not_eq_true', decide_eq_false_iff_not] at hR
            have ha := hR.2.2.1
            exact nodeR_valid (fun e => ha (by rw [e]; rfl)) (fun e => ha (by rw [e]; rfl)) (fun e => ha (by rw [e]; rfl)) (fun e => ha (by rw [e]; rfl)) hn.1 hn.2 hv.1 hv.2 h
theorem readsS_valid : ∀ (l : List S) (k : Nat) (ts : List T), readsS l k = .ok ts → T.valids ts = true ∧ T.wfs ts
  | [], k, ts, h => by simp [readsS] at h; subst h; exact ⟨rfl, trivial⟩
  | x :: r, k + 1, ts, h => by rw [readsS] at h; exact readsS_valid r k ts h
  | x :: r, 0, ts, h => by
    rw [readsS] at h
    cases hx : readS x with
    | err e => rw [hx] at h; simp [TRs.cons] at h
    | ok t =>
      cases hr : readsS r 0 with
      | err e => rw [hx, hr] at h; simp [TRs.cons] at h
      | ok us =>
        rw [hx, hr] at h; simp [TRs.cons] at h; subst h
        have a := readS_valid x t hx
        have b := readsS_valid r 0 us hr
        exact ⟨by simp [T.valids, a.1, b.1], a.2, b.2⟩
end
end Go.Proofs.YtkofimhnehkdoaaDoor.Rf
end
section
set_option linter.unusedSimpArgs false
set_option linter.unusedVariables false
namespace Go.Proofs.YtkofimhnehkdoaaDoor.Rf
theorem tup_err (hp : List HObj) (c : Int) : (TR.err c).tup hp = .ret (.tup [.agg [.int .i64 0, .int .i64 0, .int .u64 0, .str [], .list [] .nil], .int .i64 c]) hp := rfl
theorem tup_ok (hp : List HObj) (t : T) : (TR.ok t).tup hp = .ret (.tup [t.av, .int .i64 0]) hp := rfl
theorem arE_ge {op : Int} (h : opOk op = true) : 0 ≤ arE op := by
  unfold arE; rw [if_neg (by simp [h])]; split
  · omega
  · split
    · omega
    · split <;> omega
theorem readsS_len : ∀ (l : List S) (k : Nat) (ts : List T), readsS l k = .ok ts → ts.length ≤ l.length
  | [], k, ts, h => by simp [readsS] at h; subst h; simp
  | x :: r, k + 1, ts, h => by rw [readsS] at h; have := readsS_len r k ts h; simp; omega
  | x :: r, 0, ts, h => by
    rw [readsS] at h
    cases hx : readS x with
    | err e => rw [hx] at h; simp [TRs.cons] at h
    | ok t =>
      cases hr : readsS r 0 with
      | err e => rw [hx, hr] at h; simp [TRs.cons] at h
      | ok us =>
        rw [hx, hr] at h; simp [TRs.cons] at h; subst h
        have := readsS_len r 0 us hr
        simp; omega
section
variable {hp : List HObj} {lo : Nat} (q : Bool)
end
end Go.Proofs.YtkofimhnehkdoaaDoor.Rf
end
section
set_option linter.unusedSimpArgs false
set_option linter.unusedVariables false
namespace Go.Proofs.YtkofimhnehkdoaaDoor.Rf
section
variable {hp : List HObj} {lo : Nat}
end
mutual
def S.weigh : S → Int → Int
  | .mk a _ l, n => S.weighs l (n - 1 - (a.length : Int).tdiv 100)
def S.weighs : List S → Int → Int
  | [], n => n
  | t :: r, n => if 0 ≤ n then S.weighs r (t.weigh n) else n
end
mutual
def S.wt : S → Nat
  | .mk a _ l => 1 + a.length / 100 + S.wts l
def S.wts : List S → Nat
  | [] => 0
  | t :: r => t.wt + S.wts r
end
theorem S.weigh_eq (t : S) (n : Int) : t.weigh n = S.weighs t.list (n - 1 - (t.atom.length : Int).tdiv 100) := by cases t; rfl
theorem S.wt_eq (t : S) : t.wt = 1 + t.atom.length / 100 + S.wts t.list := by cases t; rfl
theorem tdiv100 (n : Nat) : (n : Int).tdiv 100 = ((n / 100 : Nat) : Int) := by rfl
theorem S.weighs_neg : ∀ (l : List S) (n : Int), n < 0 → S.weighs l n = n
  | [], n, _ => rfl
  | t :: r, n, h => by simp only [S.weighs]; rw [if_neg (by omega)]
theorem S.weigh_ge (t : S) : ∀ n : Int, 0 ≤ t.weigh n → t.weigh n = n - t.wt := by
  induction t using S.ind with | h t ih =>
  have hl : ∀ (l : List S), (∀ u, u ∈ l → ∀ n : Int, 0 ≤ u.weigh n → u.weigh n = n - u.wt) → ∀ n : Int, 0 ≤ S.weighs l n → S.weighs l n = n - S.wts l := by
    intro l
    induction l with
    | nil => intro _ n _; simp [S.weighs, S.wts]
    | cons x r ihr =>
      intro h n hn
      simp only [S.weighs] at hn ⊢
      split
      · rename_i h0
        rw [if_pos h0] at hn
        by_cases hx : 0 ≤ x.weigh n
        · rw [ihr (fun u hu => h u (by simp [hu])) _ hn, h x (by simp) n hx]; simp only [S.wts]; omega
        · rw [S.weighs_neg r _ (by omega)] at hn; exact absurd hn hx
      · rename_i h0; rw [if_neg h0] at hn; exact absurd hn h0
  intro n hn
  rw [S.weigh_eq] at hn ⊢
  rw [hl t.list ih _ hn, S.wt_eq, tdiv100]; omega
section
variable {lo : Nat}
theorem weigh_D (t : S) : t.wf → ∀ (n : Int), 0 ≤ n → n ≤ 1000 → ∀ (hp : List HObj) (lo : Nat) (q : Bool), callD G0 IP n_saturateref05_weigh [t.av, .int .i64 n] hp lo q = some (.ret (.int .i64 (t.weigh n)) hp) := by
  induction t using S.ind with | h t ih =>
  intro hw n h0 h1 hp lo q
  rw [S.wf_eq] at hw
  obtain ⟨hal, hl, _, hws⟩ := hw
  have hloop : ∀ (k i : Nat) (n : Int), i + k = t.list.length → n ≤ 1000 → ∃ j : Int, loopD G0 IP hp.length l_saturateref05_weigh_0 ⟨[(1, .int .i64 n), (2, .box [.str t.atom, .list (S.avs t.list) (ownB t.o)]), (5, .int .i64 i)], hp⟩ =
      some (.exit 0, ⟨[(1, .int .i64 (S.weighs (t.list.drop i) n)), (2, .box [.str t.atom, .list (S.avs t.list) (ownB t.o)]), (5, .int .i64 j), (21, .bool false)], hp⟩) := by
    intro k
    induction k with
    | zero =>
      intro i n hi _
      have hI : ¬ (i : Int) < (t.list.length : Int) := by omega
      refine ⟨i, ?_⟩
      rw [loopD_eq, loopBody, List.drop_eq_nil_of_le (by omega)]
      simp [l_saturateref05_weigh_0, hI, S.weighs]
    | succ k ihk =>
      intro i n hi hn
      have hlt : i < t.list.length := by omega
      have hI : (i : Int) < (t.list.length : Int) := by omega
      rw [List.drop_eq_getElem_cons hlt]
      simp only [S.weighs]
      by_cases hneg : 0 ≤ n
      · have e1 := ih t.list[i] (List.getElem_mem hlt) (hws _ (List.getElem_mem hlt)) n hneg hn hp hp.length false
        have hle : t.list[i].weigh n ≤ 1000 := by
          by_cases hx : 0 ≤ t.list[i].weigh n
          · have := S.weigh_ge _ _ hx; omega
          · omega
        obtain ⟨j, e2⟩ := ihk (i + 1) (t.list[i].weigh n) (by omega) hle
        have hw1 := wrap_succ hlt hl
        rw [S.av_eq] at e1
        refine ⟨j, ?_⟩
        rw [loopD_eq, loopBody, if_pos hneg]
        simp [l_saturateref05_weigh_0, hI, hlt, hneg, S.av_eq t.list[i], e1, hw1]
        exact e2
      · refine ⟨i, ?_⟩
        rw [loopD_eq, loopBody, if_neg hneg]
        simp [l_saturateref05_weigh_0, hI, hlt, hneg]
  have hd : (t.atom.length : Int).tdiv 100 = ((t.atom.length / 100 : Nat) : Int) := tdiv100 _
  have hdl : t.atom.length / 100 ≤ 92233720368547758 := by omega
  obtain ⟨j, e2⟩ := hloop t.list.length 0 (n - 1 - (t.atom.length : Int).tdiv 100) (by omega) (by rw [hd]; omega)
  have hwr : ∀ m : Int, -9223372036854775808 ≤ m → m ≤ 9223372036854775807 → IntKind.wrap .i64 m = m := fun m a b => by
    simp [IntKind.wrap, IntKind.signed, IntKind.bits]; omega
  have w1 : IntKind.wrap .i64 (n - 1) = n - 1 := hwr _ (by omega) (by omega)
  have w2 : IntKind.wrap .i64 ((t.atom.length : Int).tdiv 100) = (t.atom.length : Int).tdiv 100 := by rw [hd]; exact hwr _ (by omega) (by omega)
  have w3 : IntKind.wrap .i64 (n - 1 - (t.atom.length : Int).tdiv 100) = n - 1 - (t.atom.length : Int).tdiv 100 := by rw [hd]; exact hwr _ (by omega) (by omega)
  rw [callD_eq, S.weigh_eq, S.av_eq]
  have he : (t.atom.length : Int).tdiv 100 = (t.atom.length : Int) / 100 := by rw [hd]; omega
  rw [he] at w2 w3 e2 ⊢
  simp at e2
  simp [IP_saturateref05_weigh, i_saturateref05_weigh, w1, w2, w3, e2]
def fewB (t : S) (n : Int) : Bool := decide (0 ≤ t.weigh n)
theorem few_D {t : S} (hw : t.wf) {n : Int} (h0 : 0 ≤ n) (h1 : n ≤ 1000) {hp : List HObj} (q : Bool) : callD G0 IP n_saturateref05_Few [t.av, .int .i64 n] hp lo q = some (.ret (.bool (fewB t n)) hp) := by
  rw [callD_eq]
  have e1 := weigh_D t hw n h0 h1 hp hp.length false
  rw [S.av_eq] at e1 ⊢
  simp [IP_saturateref05_Few, i_saturateref05_Few, e1, fewB]
theorem few_wt {t : S} {n : Int} (h : fewB t n = true) : (t.wt : Int) ≤ n := by
  simp only [fewB, decide_eq_true_eq] at h
  have := S.weigh_ge t n h
  omega
end
end Go.Proofs.YtkofimhnehkdoaaDoor.Rf
end
section
set_option linter.unusedSimpArgs false
set_option linter.unusedVariables false
namespace Go.Proofs.YtkofimhnehkdoaaDoor.Rf
def tokC (c : UInt8) : Bool := !blankC (c.toNat : Int) && !decide ((c.toNat : Int) = 59)
def Gp (g : List UInt8) : Prop := ∀ pre post, skipN (pre ++ (g ++ post)) pre.length = skipN (pre ++ (g ++ post)) (pre.length + g.length)
theorem Gp.nil : Gp [] := fun pre post => by simp
theorem Gp.app {a b : List UInt8} (ha : Gp a) (hb : Gp b) : Gp (a ++ b) := fun pre post => by
  have h1 := ha pre (b ++ post)
  have h2 := hb (pre ++ a) post
  simp only [List.append_assoc, List.length_append] at h1 h2 ⊢
  rw [h1, h2]; congr 1; omega
theorem plain_tok {c : UInt8} (h : plainC (c.toNat : Int) = true) : tokC c = true ∧ ¬ (c.toNat : Int) = 40 ∧ ¬ (c.toNat : Int) = 41 := by
  simp only [plainC, Bool.and_eq_true, decide_eq_true_eq, Bool.not_eq_true', decide_eq_false_iff_not] at h
  obtain ⟨h1, h2, h3, h4, h5⟩ := h
  refine ⟨?_, h3, h4⟩
  simp only [tokC, blankC, Bool.and_eq_true, Bool.not_eq_true', decide_eq_false_iff_not, Bool.or_eq_false_iff]
  exact ⟨⟨by omega, by omega, by omega, by omega⟩, h5⟩
mutual
inductive Enc : S → List UInt8 → Prop
  | atom {a : List UInt8} {o : Bool} : a ≠ [] → (∀ c, c ∈ a → plainC (c.toNat : Int) = true) → Enc (.mk a o []) a
  | list {o : Bool} {l : List S} {b : List UInt8} : EncL l b → Enc (.mk [] o l) (40 :: (b ++ [41]))
inductive EncL : List S → List UInt8 → Prop
  | nil {g : List UInt8} : Gp g → EncL [] g
  | cons {g e b : List UInt8} {t : S} {r : List S} : Gp g → Enc t e → EncL r b → (t.atom ≠ [] → ∀ c r, b = c :: r → plainC (c.toNat : Int) = false) → EncL (t :: r) (g ++ (e ++ b))
end
mutual
def S.depth : S → Nat
  | .mk a _ l => if a = [] then S.depths l + 1 else 1
def S.depths : List S → Nat
  | [] => 0
  | t :: r => max t.depth (S.depths r)
end
theorem Enc.head {t : S} {e : List UInt8} (h : Enc t e) : ∃ c r, e = c :: r ∧ tokC c = true ∧ ¬ (c.toNat : Int) = 41 := by
  cases h with
  | atom h1 h2 =>
    cases e with
    | nil => exact absurd rfl h1
    | cons c r => exact ⟨c, r, rfl, (plain_tok (h2 c (by simp))).1, (plain_tok (h2 c (by simp))).2.2⟩
  | list h1 => exact ⟨40, _, rfl, by decide, by decide⟩
end Go.Proofs.YtkofimhnehkdoaaDoor.Rf
end
section
set_option linter.unusedSimpArgs false
set_option linter.unusedVariables false
namespace Go.Proofs.YtkofimhnehkdoaaDoor.Rf
def allPlain (a : List UInt8) : Bool := a.all fun c => plainC (c.toNat : Int)
mutual
def S.right : S → Bool
  | .mk a _ l => if a = [] then S.rights l else l.isEmpty && allPlain a
def S.rights : List S → Bool
  | [] => true
  | t :: r => t.right && S.rights r
end
mutual
def S.valid : S → Nat → Bool
  | .mk a _ l, d => decide (d < 64) && (if a = [] then S.valids l (d + 1) else allPlain a && l.isEmpty)
def S.valids : List S → Nat → Bool
  | [], _ => true
  | t :: r, d => t.valid d && S.valids r d
end
section
variable {hp : List HObj} {lo : Nat}
end
end Go.Proofs.YtkofimhnehkdoaaDoor.Rf
end
section
set_option linter.unusedSimpArgs false
set_option linter.unusedVariables false
namespace Go.Proofs.YtkofimhnehkdoaaDoor.Rf
theorem S.wts_mem : ∀ (l : List S) (t : S), t ∈ l → t.wt ≤ S.wts l
  | [], t, h => by simp at h
  | x :: r, t, h => by
    simp only [S.wts]
    rcases List.mem_cons.1 h with rfl | h
    · omega
    · have := S.wts_mem r t h; omega
section
variable {hp : List HObj} {lo : Nat}
end
end Go.Proofs.YtkofimhnehkdoaaDoor.Rf
end
section
set_option linter.unusedSimpArgs false
set_option linter.unusedVariables false
namespace Go.Proofs.YtkofimhnehkdoaaDoor.Rf
end Go.Proofs.YtkofimhnehkdoaaDoor.Rf
end
