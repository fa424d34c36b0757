/- S-expressions, for another seat. -/
import Derived.Test.YtajlmldpbhendabRfG6
section
set_option linter.unusedSimpArgs false
set_option linter.unusedVariables false
namespace Go.Proofs.Ytajlmldpbhendab.Rf
section
variable {s : List UInt8} {hp : List HObj} {lo : Nat}
def plainC (n : Int) : Bool := decide (n ≥ 33) && (decide (n ≤ 126) && (!decide (n = 40) && (!decide (n = 41) && !decide (n = 59))))
theorem plain1_D (n : Int) (hp : List HObj) (lo : Nat) (q : Bool) : callD G0 IP n_saturateref05_Byte [.int .u8 n] hp lo q = some (.ret (.bool (plainC n)) hp) := by
  rw [callD_eq]
  by_cases h1 : n ≥ 33
  · by_cases h2 : n ≤ 126
    · by_cases h3 : n = 40
      · subst h3; simp [IP_saturateref05_Byte, i_saturateref05_Byte, plainC]
      · by_cases h4 : n = 41
        · subst h4; simp [IP_saturateref05_Byte, i_saturateref05_Byte, plainC]
        · by_cases h5 : n = 59
          · subst h5; simp [IP_saturateref05_Byte, i_saturateref05_Byte, plainC]
          · simp [IP_saturateref05_Byte, i_saturateref05_Byte, plainC, h1, h2, h3, h4, h5]
    · simp [IP_saturateref05_Byte, i_saturateref05_Byte, plainC, h1, h2]
  · simp [IP_saturateref05_Byte, i_saturateref05_Byte, plainC, h1]
theorem plain2_D (n : Int) (hp : List HObj) (lo : Nat) (q : Bool) : callD G0 IP n_sexpr_plain [.int .u8 n] hp lo q = some (.ret (.bool (plainC n)) hp) := by
  rw [callD_eq]
  by_cases h1 : n ≥ 33
  · by_cases h2 : n ≤ 126
    · by_cases h3 : n = 40
      · subst h3; simp [IP_sexpr_plain, i_sexpr_plain, plainC]
      · by_cases h4 : n = 41
        · subst h4; simp [IP_sexpr_plain, i_sexpr_plain, plainC]
        · by_cases h5 : n = 59
          · subst h5; simp [IP_sexpr_plain, i_sexpr_plain, plainC]
          · simp [IP_sexpr_plain, i_sexpr_plain, plainC, h1, h2, h3, h4, h5]
    · simp [IP_sexpr_plain, i_sexpr_plain, plainC, h1, h2]
  · simp [IP_sexpr_plain, i_sexpr_plain, plainC, h1]
def byt (s : List UInt8) (i : Nat) : Int := ((s.getD i 0).toNat : Int)
theorem byt_some {s : List UInt8} {i : Nat} (h : i < s.length) : ∃ c : UInt8, s[i]? = some c ∧ byt s i = (c.toNat : Int) := ⟨s[i], by simp [h], by simp [byt, h]⟩
def atomK (s : List UInt8) : Nat → Nat → Nat
  | 0, i => i
  | k + 1, i => if plainC (byt s i) then atomK s k (i + 1) else i
def atomN (s : List UInt8) (i : Nat) : Nat := atomK s (s.length - i) i
theorem atomK_le (s : List UInt8) : ∀ k i, i ≤ atomK s k i ∧ atomK s k i ≤ i + k
  | 0, i => by simp [atomK]
  | k + 1, i => by
    simp only [atomK]
    split
    · have := atomK_le s k (i + 1); omega
    · omega
theorem atom1_L (hs : s.length ≤ 9223372036854775807) : ∀ (k i : Nat), i + k = s.length →
    loopD G0 IP lo l_saturateref05_atom_0 ⟨[(0, .str s), (1, .int .i64 i)], hp⟩ = some (.exit 0, ⟨[(0, .str s), (1, .int .i64 (atomK s k i)), (14, .bool false)], hp⟩)
  | 0, i, h => by
    rw [loopD_eq, loopBody]
    have : ¬ (i : Int) < (s.length : Int) := by omega
    simp [l_saturateref05_atom_0, this, atomK]
  | k + 1, i, h => by
    rw [loopD_eq, loopBody]
    have h1 : (i : Int) < (s.length : Int) := by omega
    obtain ⟨c, h2, hb⟩ := byt_some (s := s) (i := i) (by omega)
    have h3 := wrap_succ (i := i) (n := s.length) (by omega) hs
    have ih := atom1_L hs k (i + 1) (by omega)
    simp only [atomK, hb]
    cases hc : plainC (c.toNat : Int)
    · simp [l_saturateref05_atom_0, h1, h2, hc, plain1_D]
    · simp [l_saturateref05_atom_0, h1, h2, hc, h3, plain1_D]
      exact ih
theorem atom1_D (hs : s.length ≤ 9223372036854775807) (i : Nat) (hi : i ≤ s.length) (q : Bool) : callD G0 IP n_saturateref05_atom [.str s, .int .i64 i] hp lo q = some (.ret (.int .i64 (atomN s i)) hp) := by
  rw [callD_eq]
  have h := atom1_L (hp := hp) (lo := hp.length) hs (s.length - i) i (by omega)
  simp [IP_saturateref05_atom, i_saturateref05_atom, h, atomN]
theorem sames_of {as : List S} (ih : ∀ t, t ∈ as → ∀ (u : S) (hp : List HObj) (lo : Nat) (q : Bool), callD G0 IP n_saturateref05_Same [t.av, u.av] hp lo q = some (.ret (.bool (t.same u)) hp)) (bs : List S) (hl : as.length ≤ 9223372036854775807) (o1 o2 : Own) (hp : List HObj) (lo : Nat) (q : Bool) :
    callD G0 IP n_saturateref05_SameAll [.list (S.avs as) o1, .list (S.avs bs) o2] hp lo q = some (.ret (.bool (S.sames as bs)) hp) := by
  rw [callD_eq]
  by_cases he : as.length = bs.length
  · have hloop := loop_find (G := G0) (IP := IP) (lo := hp.length) (b := l_saturateref05_SameAll_0)
      (fun i => ⟨[(0, .list (S.avs as) o1), (1, .list (S.avs bs) o2), (5, .int .i64 i)], hp⟩) as.length (fun i => !(as.getD i (.mk [] true [])).same (bs.getD i (.mk [] true [])))
      (.ret, ⟨[(4, .bool false)], hp⟩) (.exit 0, ⟨[(0, .list (S.avs as) o1), (1, .list (S.avs bs) o2), (5, .int .i64 as.length), (14, .bool false)], hp⟩)
      (fun i hi hp1 => by
        have hi2 : i < bs.length := by omega
        have e1 := ih as[i] (List.getElem_mem hi) bs[i] hp hp.length true
        have h2 : as[i].same bs[i] = true := by simpa [hi, hi2] using hp1
        rw [h2, S.av_eq, S.av_eq] at e1
        have hiI : (i : Int) < (as.length : Int) := by omega
        have hiI2 : (i : Int) < (bs.length : Int) := by omega
        have hw := wrap_succ hi hl
        simp [l_saturateref05_SameAll_0, hi, hi2, hiI, hiI2, S.av_eq as[i], S.av_eq bs[i], e1, hw])
      (fun i hi hp1 => by
        have hi2 : i < bs.length := by omega
        have e1 := ih as[i] (List.getElem_mem hi) bs[i] hp hp.length true
        have h2 : as[i].same bs[i] = false := by simpa [hi, hi2] using hp1
        rw [h2, S.av_eq, S.av_eq] at e1
        have hiI : (i : Int) < (as.length : Int) := by omega
        have hiI2 : (i : Int) < (bs.length : Int) := by omega
        simp [l_saturateref05_SameAll_0, hi, hi2, hiI, hiI2, S.av_eq as[i], S.av_eq bs[i], e1])
      (fun s => by simp) (by simp [l_saturateref05_SameAll_0]) (fun s => by simp)
    have hI : (as.length : Int) = (bs.length : Int) := by omega
    rw [S.sames_eq as bs he]
    simp only [Int.natCast_zero] at hloop
    cases hany : (List.range as.length).any fun i => !(as.getD i (.mk [] true [])).same (bs.getD i (.mk [] true []))
    · rw [hany] at hloop
      simp only [Bool.false_eq_true, if_false] at hloop
      simp [IP_saturateref05_SameAll, i_saturateref05_SameAll, hI, hloop]
    · rw [hany] at hloop
      simp only [if_true] at hloop
      simp [IP_saturateref05_SameAll, i_saturateref05_SameAll, hI, hloop]
  · have hI : ¬ (as.length : Int) = (bs.length : Int) := by omega
    rw [S.sames_len as bs he]
    simp [IP_saturateref05_SameAll, i_saturateref05_SameAll, hI]
theorem ref_same_D (t : S) : t.wf → ∀ (u : S) (hp : List HObj) (lo : Nat) (q : Bool), callD G0 IP n_saturateref05_Same [t.av, u.av] hp lo q = some (.ret (.bool (t.same u)) hp) := by
  induction t using S.ind with | h t ih =>
  intro hw u hp lo q
  rw [S.wf_eq] at hw
  have e1 := fun q => sames_of (as := t.list) (fun x hx => ih x hx (hw.2.2.2 x hx)) u.list hw.2.1 (ownB t.o) (ownB u.o) hp hp.length q
  rw [callD_eq, S.same_eq]
  rw [S.av_eq t, S.av_eq u]
  by_cases hc : t.atom = u.atom
  · simp [IP_saturateref05_Same, i_saturateref05_Same, hc, e1]
  · simp [IP_saturateref05_Same, i_saturateref05_Same, hc]
mutual
def S.weigh : S → Int → Int
  | .mk a _ l, n => S.weighs l (n - 1 - (a.length : Int).tdiv 100)
def S.weighs : List S → Int → Int
  | [], n => n
  | t :: r, n => if 0 ≤ n then S.weighs r (t.weigh n) else n
end
mutual
def S.wt : S → Nat
  | .mk a _ l => 1 + a.length / 100 + S.wts l
def S.wts : List S → Nat
  | [] => 0
  | t :: r => t.wt + S.wts r
end
theorem S.weigh_eq (t : S) (n : Int) : t.weigh n = S.weighs t.list (n - 1 - (t.atom.length : Int).tdiv 100) := by cases t; rfl
theorem S.wt_eq (t : S) : t.wt = 1 + t.atom.length / 100 + S.wts t.list := by cases t; rfl
theorem tdiv100 (n : Nat) : (n : Int).tdiv 100 = ((n / 100 : Nat) : Int) := by rfl
theorem S.weighs_neg : ∀ (l : List S) (n : Int), n < 0 → S.weighs l n = n
  | [], n, _ => rfl
  | t :: r, n, h => by simp only [S.weighs]; rw [if_neg (by omega)]
theorem S.weigh_ge (t : S) : ∀ n : Int, 0 ≤ t.weigh n → t.weigh n = n - t.wt := by
  induction t using S.ind with | h t ih =>
  have hl : ∀ (l : List S), (∀ u, u ∈ l → ∀ n : Int, 0 ≤ u.weigh n → u.weigh n = n - u.wt) → ∀ n : Int, 0 ≤ S.weighs l n → S.weighs l n = n - S.wts l := by
    intro l
    induction l with
    | nil => intro _ n _; simp [S.weighs, S.wts]
    | cons x r ihr =>
      intro h n hn
      simp only [S.weighs] at hn ⊢
      split
      · rename_i h0
        rw [if_pos h0] at hn
        by_cases hx : 0 ≤ x.weigh n
        · rw [ihr (fun u hu => h u (by simp [hu])) _ hn, h x (by simp) n hx]; simp only [S.wts]; omega
        · rw [S.weighs_neg r _ (by omega)] at hn; exact absurd hn hx
      · rename_i h0; rw [if_neg h0] at hn; exact absurd hn h0
  intro n hn
  rw [S.weigh_eq] at hn ⊢
  rw [hl t.list ih _ hn, S.wt_eq, tdiv100]; omega
theorem weigh_D (t : S) : t.wf → ∀ (n : Int), 0 ≤ n → n ≤ 1000 → ∀ (hp : List HObj) (lo : Nat) (q : Bool), callD G0 IP n_saturateref05_weigh [t.av, .int .i64 n] hp lo q = some (.ret (.int .i64 (t.weigh n)) hp) := by
  induction t using S.ind with | h t ih =>
  intro hw n h0 h1 hp lo q
  rw [S.wf_eq] at hw
  obtain ⟨hal, hl, _, hws⟩ := hw
  have hloop : ∀ (k i : Nat) (n : Int), i + k = t.list.length → n ≤ 1000 → ∃ j : Int, loopD G0 IP hp.length l_saturateref05_weigh_0 ⟨[(1, .int .i64 n), (2, .box [.str t.atom, .list (S.avs t.list) (ownB t.o)]), (5, .int .i64 i)], hp⟩ =
      some (.exit 0, ⟨[(1, .int .i64 (S.weighs (t.list.drop i) n)), (2, .box [.str t.atom, .list (S.avs t.list) (ownB t.o)]), (5, .int .i64 j), (21, .bool false)], hp⟩) := by
    intro k
    induction k with
    | zero =>
      intro i n hi _
      have hI : ¬ (i : Int) < (t.list.length : Int) := by omega
      refine ⟨i, ?_⟩
      rw [loopD_eq, loopBody, List.drop_eq_nil_of_le (by omega)]
      simp [l_saturateref05_weigh_0, hI, S.weighs]
    | succ k ihk =>
      intro i n hi hn
      have hlt : i < t.list.length := by omega
      have hI : (i : Int) < (t.list.length : Int) := by omega
      rw [List.drop_eq_getElem_cons hlt]
      simp only [S.weighs]
      by_cases hneg : 0 ≤ n
      · have e1 := ih t.list[i] (List.getElem_mem hlt) (hws _ (List.getElem_mem hlt)) n hneg hn hp hp.length false
        have hle : t.list[i].weigh n ≤ 1000 := by
          by_cases hx : 0 ≤ t.list[i].weigh n
          · have := S.weigh_ge _ _ hx; omega
          · omega
        obtain ⟨j, e2⟩ := ihk (i + 1) (t.list[i].weigh n) (by omega) hle
        have hw1 := wrap_succ hlt hl
        rw [S.av_eq] at e1
        refine ⟨j, ?_⟩
        rw [loopD_eq, loopBody, if_pos hneg]
        simp [l_saturateref05_weigh_0, hI, hlt, hneg, S.av_eq t.list[i], e1, hw1]
        exact e2
      · refine ⟨i, ?_⟩
        rw [loopD_eq, loopBody, if_neg hneg]
        simp [l_saturateref05_weigh_0, hI, hlt, hneg]
  have hd : (t.atom.length : Int).tdiv 100 = ((t.atom.length / 100 : Nat) : Int) := tdiv100 _
  have hdl : t.atom.length / 100 ≤ 92233720368547758 := by omega
  obtain ⟨j, e2⟩ := hloop t.list.length 0 (n - 1 - (t.atom.length : Int).tdiv 100) (by omega) (by rw [hd]; omega)
  have hwr : ∀ m : Int, -9223372036854775808 ≤ m → m ≤ 9223372036854775807 → IntKind.wrap .i64 m = m := fun m a b => by
    simp [IntKind.wrap, IntKind.signed, IntKind.bits]; omega
  have w1 : IntKind.wrap .i64 (n - 1) = n - 1 := hwr _ (by omega) (by omega)
  have w2 : IntKind.wrap .i64 ((t.atom.length : Int).tdiv 100) = (t.atom.length : Int).tdiv 100 := by rw [hd]; exact hwr _ (by omega) (by omega)
  have w3 : IntKind.wrap .i64 (n - 1 - (t.atom.length : Int).tdiv 100) = n - 1 - (t.atom.length : Int).tdiv 100 := by rw [hd]; exact hwr _ (by omega) (by omega)
  rw [callD_eq, S.weigh_eq, S.av_eq]
  have he : (t.atom.length : Int).tdiv 100 = (t.atom.length : Int) / 100 := by rw [hd]; omega
  rw [he] at w2 w3 e2 ⊢
  simp at e2
  simp [IP_saturateref05_weigh, i_saturateref05_weigh, w1, w2, w3, e2]
def fewB (t : S) (n : Int) : Bool := decide (0 ≤ t.weigh n)
theorem few_D {t : S} (hw : t.wf) {n : Int} (h0 : 0 ≤ n) (h1 : n ≤ 1000) {hp : List HObj} (q : Bool) : callD G0 IP n_saturateref05_Few [t.av, .int .i64 n] hp lo q = some (.ret (.bool (fewB t n)) hp) := by
  rw [callD_eq]
  have e1 := weigh_D t hw n h0 h1 hp hp.length false
  rw [S.av_eq] at e1 ⊢
  simp [IP_saturateref05_Few, i_saturateref05_Few, e1, fewB]
theorem few_wt {t : S} {n : Int} (h : fewB t n = true) : (t.wt : Int) ≤ n := by
  simp only [fewB, decide_eq_true_eq] at h
  have := S.weigh_ge t n h
  omega
mutual
def S.depth : S → Nat
  | .mk a _ l => if a = [] then S.depths l + 1 else 1
def S.depths : List S → Nat
  | [] => 0
  | t :: r => max t.depth (S.depths r)
end
theorem S.depth_eq (t : S) : t.depth = if t.atom = [] then S.depths t.list + 1 else 1 := by cases t; rfl
def allPlain (a : List UInt8) : Bool := a.all fun c => plainC (c.toNat : Int)
mutual
def S.right : S → Bool
  | .mk a _ l => if a = [] then S.rights l else l.isEmpty && allPlain a
def S.rights : List S → Bool
  | [] => true
  | t :: r => t.right && S.rights r
end
mutual
def S.valid : S → Nat → Bool
  | .mk a _ l, d => decide (d < 64) && (if a = [] then S.valids l (d + 1) else allPlain a && l.isEmpty)
def S.valids : List S → Nat → Bool
  | [], _ => true
  | t :: r, d => t.valid d && S.valids r d
end
theorem S.right_eq (t : S) : t.right = if t.atom = [] then S.rights t.list else t.list.isEmpty && allPlain t.atom := by cases t; rfl
theorem S.valid_eq (t : S) (d : Nat) : t.valid d = (decide (d < 64) && (if t.atom = [] then S.valids t.list (d + 1) else allPlain t.atom && t.list.isEmpty)) := by cases t; rfl
theorem S.rights_any : ∀ l : List S, S.rights l = !(List.range l.length).any fun i => !(l.getD i (.mk [] true [])).right
  | [] => rfl
  | t :: r => by
    rw [S.rights, S.rights_any r, List.length_cons, List.range_succ_eq_map]
    simp [List.any_map, Function.comp_def]
theorem S.valids_any (d : Nat) : ∀ l : List S, S.valids l d = !(List.range l.length).any fun i => !(l.getD i (.mk [] true [])).valid d
  | [] => rfl
  | t :: r => by
    rw [S.valids, S.valids_any d r, List.length_cons, List.range_succ_eq_map]
    simp [List.any_map, Function.comp_def]
theorem S.rights_iff : ∀ l : List S, S.rights l = true ↔ ∀ t, t ∈ l → t.right = true
  | [] => by simp [S.rights]
  | t :: r => by simp [S.rights, S.rights_iff r]
theorem S.valid_iff (t : S) : ∀ d, t.valid d = (t.right && decide (t.depth + d ≤ 64)) := by
  induction t using S.ind with | h t ih =>
  have hl : ∀ (l : List S), (∀ u, u ∈ l → ∀ d, u.valid d = (u.right && decide (u.depth + d ≤ 64))) → ∀ d, S.valids l d = (S.rights l && decide (S.depths l + d ≤ 64 ∨ l = [])) := by
    intro l
    induction l with
    | nil => intro _ d; simp [S.valids, S.rights]
    | cons x r ihr =>
      intro h d
      rw [S.valids, S.rights, h x (by simp), ihr (fun u hu => h u (by simp [hu]))]
      have hx : 1 ≤ x.depth := by rw [S.depth_eq]; split <;> omega
      cases hr : r with
      | nil => simp [S.rights, S.depths]
      | cons y s =>
        rw [← hr]
        have hne : r ≠ [] := by rw [hr]; simp
        simp only [S.depths, hne, or_false, reduceCtorEq]
        cases x.right <;> cases S.rights r <;> simp
        rw [← Bool.decide_and, decide_eq_decide]; omega
  intro d
  rw [S.valid_eq, S.right_eq, S.depth_eq]
  by_cases ha : t.atom = []
  · simp only [if_pos ha]
    rw [hl t.list ih (d + 1)]
    cases hle : t.list with
    | nil => simp [S.rights, S.depths]; omega
    | cons y s =>
      rw [← hle]
      have hne : t.list ≠ [] := by rw [hle]; simp
      simp only [hne, or_false]
      cases S.rights t.list
      · simp
      · simp only [Bool.true_and]
        rw [← Bool.decide_and, decide_eq_decide]; omega
  · simp only [if_neg ha]
    cases allPlain t.atom <;> cases t.list.isEmpty <;> simp <;> omega
theorem atomK_lt (s : List UInt8) : ∀ (k i : Nat), i + k = s.length → (atomK s k i = s.length ↔ ∀ j, i ≤ j → j < s.length → plainC (byt s j) = true)
  | 0, i, h => by simp [atomK]; exact ⟨fun _ j h1 h2 => absurd h2 (by omega), fun _ => by omega⟩
  | k + 1, i, h => by
    simp only [atomK]
    cases hc : plainC (byt s i)
    · simp
      exact ⟨fun e => absurd e (by omega), fun hh => by have := hh i (Nat.le_refl _) (by omega); rw [hc] at this; cases this⟩
    · simp only [if_true]
      rw [atomK_lt s k (i + 1) (by omega)]
      exact ⟨fun hh j h1 h2 => by
        by_cases e : i = j
        · subst e; exact hc
        · exact hh j (by omega) h2, fun hh j h1 h2 => hh j (by omega) h2⟩
theorem atomN_all (a : List UInt8) : decide (atomN a 0 = a.length) = allPlain a := by
  have h := atomK_lt a a.length 0 (by omega)
  have e : (atomN a 0 = a.length) ↔ allPlain a = true := by
    unfold atomN
    rw [Nat.sub_zero, h]
    simp only [allPlain, List.all_eq_true]
    constructor
    · intro hh c hc
      obtain ⟨i, hi, rfl⟩ := List.getElem_of_mem hc
      have := hh i (Nat.zero_le _) hi
      simpa [byt, hi] using this
    · intro hh j _ hj
      have := hh a[j] (List.getElem_mem hj)
      simpa [byt, hj] using this
  cases hc : allPlain a
  · simp; rw [e, hc]; simp
  · simp; rw [e, hc]
theorem right_D (t : S) : t.wf → ∀ (hp : List HObj) (lo : Nat) (q : Bool), callD G0 IP n_saturateref05_right [t.av] hp lo q = some (.ret (.bool t.right) hp) := by
  induction t using S.ind with | h t ih =>
  intro hw hp lo q
  rw [S.wf_eq] at hw
  obtain ⟨hal, hl, _, hws⟩ := hw
  rw [callD_eq, S.right_eq, S.av_eq]
  by_cases ha : t.atom = []
  · have hloop := loop_find (G := G0) (IP := IP) (lo := hp.length) (b := l_saturateref05_right_0)
      (fun i => ⟨[(1, .box [.str t.atom, .list (S.avs t.list) (ownB t.o)]), (3, .int .i64 i)], hp⟩) t.list.length (fun i => !(t.list.getD i (.mk [] true [])).right)
      (.ret, ⟨[(2, .bool false)], hp⟩) (.exit 0, ⟨[(1, .box [.str t.atom, .list (S.avs t.list) (ownB t.o)]), (3, .int .i64 t.list.length), (24, .bool false)], hp⟩)
      (fun i hi hp1 => by
        have e1 := ih t.list[i] (List.getElem_mem hi) (hws _ (List.getElem_mem hi)) hp hp.length false
        have h2 : t.list[i].right = true := by simpa [hi] using hp1
        rw [h2, S.av_eq] at e1
        have hiI : (i : Int) < (t.list.length : Int) := by omega
        have hw := wrap_succ hi hl
        simp [l_saturateref05_right_0, hi, hiI, S.av_eq t.list[i], e1, hw])
      (fun i hi hp1 => by
        have e1 := ih t.list[i] (List.getElem_mem hi) (hws _ (List.getElem_mem hi)) hp hp.length false
        have h2 : t.list[i].right = false := by simpa [hi] using hp1
        rw [h2, S.av_eq] at e1
        have hiI : (i : Int) < (t.list.length : Int) := by omega
        simp [l_saturateref05_right_0, hi, hiI, S.av_eq t.list[i], e1])
      (fun s => by simp) (by simp [l_saturateref05_right_0]) (fun s => by simp)
    simp only [Int.natCast_zero, ha] at hloop
    rw [if_pos ha, S.rights_any]
    cases hany : (List.range t.list.length).any fun i => !(t.list.getD i (.mk [] true [])).right
    · rw [hany] at hloop
      simp only [Bool.false_eq_true, if_false] at hloop
      simp [IP_saturateref05_right, i_saturateref05_right, ha, hloop]
    · rw [hany] at hloop
      simp only [if_true] at hloop
      simp [IP_saturateref05_right, i_saturateref05_right, ha, hloop]
  · rw [if_neg ha]
    have e1 : callD G0 IP n_saturateref05_atom [.str t.atom, .int .i64 0] hp hp.length true = some (.ret (.int .i64 (atomN t.atom 0)) hp) := atom1_D hal 0 (by omega) true
    have e2 := atomN_all t.atom
    by_cases hle : t.list = []
    · have e3 : decide ((atomN t.atom 0 : Int) = (t.atom.length : Int)) = allPlain t.atom := by rw [← e2]; exact decide_eq_decide.2 (by omega)
      simp [IP_saturateref05_right, i_saturateref05_right, ha, hle, e1, e3]
    · have h0 : ¬ (t.list.length : Int) = 0 := by intro h; exact hle (List.length_eq_zero_iff.1 (by omega))
      simp [IP_saturateref05_right, i_saturateref05_right, ha, hle, h0]
theorem S.depth_pos (t : S) : 1 ≤ t.depth := by rw [S.depth_eq]; split <;> omega
theorem S.depth_wt (t : S) : t.depth ≤ t.wt := by
  induction t using S.ind with | h t ih =>
  have hl : ∀ (l : List S), (∀ u, u ∈ l → u.depth ≤ u.wt) → S.depths l ≤ S.wts l := by
    intro l
    induction l with
    | nil => intro _; simp [S.depths, S.wts]
    | cons x r ihr =>
      intro h
      have h1 := h x (by simp)
      have h2 := ihr fun u hu => h u (by simp [hu])
      simp only [S.depths, S.wts]; omega
  have := hl t.list ih
  rw [S.depth_eq, S.wt_eq]; split <;> omega
theorem S.depths_app : ∀ (l : List S) (t : S), S.depths (l ++ [t]) = max (S.depths l) t.depth
  | [], t => by simp [S.depths]
  | x :: r, t => by simp only [List.cons_append, S.depths, S.depths_app r t]; omega
theorem S.depths_take {l : List S} {i : Nat} (h : i < l.length) : S.depths (l.take (i + 1)) = max (S.depths (l.take i)) l[i].depth := by
  rw [List.take_succ_eq_append_getElem h, S.depths_app]
theorem S.wts_mem : ∀ (l : List S) (t : S), t ∈ l → t.wt ≤ S.wts l
  | [], t, h => by simp at h
  | x :: r, t, h => by
    simp only [S.wts]
    rcases List.mem_cons.1 h with rfl | h
    · omega
    · have := S.wts_mem r t h; omega
theorem depth1_D (t : S) : t.wf → t.wt ≤ 1000000 → ∀ (hp : List HObj) (lo : Nat) (q : Bool), callD G0 IP n_saturateref05_Depth [t.av] hp lo q = some (.ret (.int .i64 t.depth) hp) := by
  induction t using S.ind with | h t ih =>
  intro hw hwt hp lo q
  rw [S.wf_eq] at hw
  obtain ⟨hal, hl, _, hws⟩ := hw
  have hwt2 := hwt
  rw [S.wt_eq] at hwt2
  rw [callD_eq, S.av_eq]
  have hd := S.depth_eq t
  by_cases ha : t.atom = []
  · rw [if_pos ha] at hd
    have hdw := S.depth_wt t
    have hloop := loop_iter (G := G0) (IP := IP) (lo := hp.length) (b := l_saturateref05_Depth_0)
      (fun i => ⟨[(1, .box [.str t.atom, .list (S.avs t.list) (ownB t.o)]), (3, .int .i64 (S.depths (t.list.take i))), (4, .int .i64 i)], hp⟩) t.list.length
      (r := (.exit 0, ⟨[(1, .box [.str t.atom, .list (S.avs t.list) (ownB t.o)]), (3, .int .i64 (S.depths t.list)), (4, .int .i64 t.list.length), (12, .bool false)], hp⟩)) (fun i hi => by
        have hm := S.wts_mem t.list t.list[i] (List.getElem_mem hi)
        have e1 := ih t.list[i] (List.getElem_mem hi) (hws _ (List.getElem_mem hi)) (by omega) hp hp.length false
        rw [S.av_eq] at e1
        have hiI : (i : Int) < (t.list.length : Int) := by omega
        have hw := wrap_succ hi hl
        have hmx : (if (t.list[i].depth : Int) > (S.depths (t.list.take i) : Int) then (t.list[i].depth : Int) else (S.depths (t.list.take i) : Int)) = ((S.depths (t.list.take (i + 1)) : Nat) : Int) := by
          rw [S.depths_take hi]; split <;> omega
        rw [← hmx, ← hw]
        simp [l_saturateref05_Depth_0, hi, hiI, S.av_eq t.list[i], e1])
      (by simp [l_saturateref05_Depth_0]) (by simp)
    have hw2 : IntKind.wrap .i64 ((S.depths t.list : Int) + 1) = (S.depths t.list : Int) + 1 := wrap_small (by omega) (by omega)
    simp [S.depths, ha] at hloop
    simp [IP_saturateref05_Depth, i_saturateref05_Depth, ha, hloop, hw2, hd]
  · rw [if_neg ha] at hd
    simp [IP_saturateref05_Depth, i_saturateref05_Depth, ha, hd, show IntKind.wrap .i64 1 = 1 from rfl]
def S.okB (t : S) : Bool := t.right && decide (t.depth ≤ 64)
theorem valid1_D {t : S} (hw : t.wf) (hwt : t.wt ≤ 1000000) (q : Bool) : callD G0 IP n_saturateref05_Valid [t.av] hp lo q = some (.ret (.bool t.okB) hp) := by
  rw [callD_eq]
  have e1 := right_D t hw hp hp.length false
  have e2 := depth1_D t hw hwt hp hp.length false
  rw [S.av_eq] at e1 e2 ⊢
  have e3 : decide ((t.depth : Int) ≤ 64) = decide (t.depth ≤ 64) := decide_eq_decide.2 (by omega)
  cases hr : t.right
  · rw [hr] at e1
    simp [IP_saturateref05_Valid, i_saturateref05_Valid, e1, S.okB, hr]
  · rw [hr] at e1
    simp [IP_saturateref05_Valid, i_saturateref05_Valid, e1, e2, S.okB, hr]
    omega
theorem plain_any (a : List UInt8) : allPlain a = !(List.range a.length).any fun i => !plainC (byt a i) := by
  induction a with
  | nil => rfl
  | cons c r ih =>
    rw [allPlain, List.all_cons, show (r.all fun c => plainC (c.toNat : Int)) = allPlain r from rfl, ih, List.length_cons, List.range_succ_eq_map]
    simp [List.any_map, Function.comp_def, byt]
theorem valid2_D (t : S) : t.wf → ∀ (d : Nat), d ≤ 64 → ∀ (hp : List HObj) (lo : Nat) (q : Bool), callD G0 IP n_sexpr_valid [t.av, .int .i64 d] hp lo q = some (.ret (.bool (t.valid d)) hp) := by
  induction t using S.ind with | h t ih =>
  intro hw d hd hp lo q
  rw [S.wf_eq] at hw
  obtain ⟨hal, hl, _, hws⟩ := hw
  have hwd : IntKind.wrap .i64 ((d : Int) + 1) = (d : Int) + 1 := wrap_small (by omega) (by omega)
  rw [callD_eq, S.valid_eq, S.av_eq]
  by_cases h64 : d < 64
  · have h1 : ¬ (64 : Int) < (d : Int) + 1 := by omega
    simp only [h64, decide_true, Bool.true_and]
    by_cases ha : t.atom = []
    · have hloop := loop_find (G := G0) (IP := IP) (lo := hp.length) (b := l_sexpr_valid_1)
        (fun i => ⟨[(1, .int .i64 d), (32, .list (S.avs t.list) (ownB t.o)), (33, .int .i64 t.list.length), (34, .int .i64 i)], hp⟩) t.list.length (fun i => !(t.list.getD i (.mk [] true [])).valid (d + 1))
        (.ret, ⟨[(4, .bool false)], hp⟩) (.exit 2, ⟨[(1, .int .i64 d), (32, .list (S.avs t.list) (ownB t.o)), (33, .int .i64 t.list.length), (34, .int .i64 t.list.length), (35, .bool false)], hp⟩)
        (fun i hi hp1 => by
          have e1 : callD G0 IP n_sexpr_valid [t.list[i].av, .int .i64 ((d : Int) + 1)] hp hp.length false = _ := ih t.list[i] (List.getElem_mem hi) (hws _ (List.getElem_mem hi)) (d + 1) (by omega) hp hp.length false
          have h2 : t.list[i].valid (d + 1) = true := by simpa [hi] using hp1
          rw [h2, S.av_eq] at e1
          have hw := wrap_succ hi hl
          simp [l_sexpr_valid_1, hi, S.av_eq t.list[i], e1, hw, hwd])
        (fun i hi hp1 => by
          have e1 : callD G0 IP n_sexpr_valid [t.list[i].av, .int .i64 ((d : Int) + 1)] hp hp.length false = _ := ih t.list[i] (List.getElem_mem hi) (hws _ (List.getElem_mem hi)) (d + 1) (by omega) hp hp.length false
          have h2 : t.list[i].valid (d + 1) = false := by simpa [hi] using hp1
          rw [h2, S.av_eq] at e1
          simp [l_sexpr_valid_1, hi, S.av_eq t.list[i], e1, hwd])
        (fun s => by simp) (by simp [l_sexpr_valid_1]) (fun s => by simp)
      simp only [Int.natCast_zero] at hloop
      rw [if_pos ha, S.valids_any]
      cases hany : (List.range t.list.length).any fun i => !(t.list.getD i (.mk [] true [])).valid (d + 1)
      · rw [hany] at hloop
        simp only [Bool.false_eq_true, if_false] at hloop
        simp [IP_sexpr_valid, i_sexpr_valid, ha, hloop, hwd, h1]
      · rw [hany] at hloop
        simp only [if_true] at hloop
        simp [IP_sexpr_valid, i_sexpr_valid, ha, hloop, hwd, h1]
    · have hloop := loop_find (G := G0) (IP := IP) (lo := hp.length) (b := l_sexpr_valid_0)
        (fun i => ⟨[(2, .box [.str t.atom, .list (S.avs t.list) (ownB t.o)]), (16, .int .i64 t.atom.length), (17, .int .i64 i)], hp⟩) t.atom.length (fun i => !plainC (byt t.atom i))
        (.ret, ⟨[(4, .bool false)], hp⟩) (.exit 0, ⟨[(2, .box [.str t.atom, .list (S.avs t.list) (ownB t.o)]), (16, .int .i64 t.atom.length), (17, .int .i64 t.atom.length), (18, .bool false)], hp⟩)
        (fun i hi hp1 => by
          obtain ⟨c, h2, hb⟩ := byt_some (s := t.atom) (i := i) hi
          have h3 : plainC (c.toNat : Int) = true := by rw [← hb]; simpa using hp1
          have hw := wrap_succ hi hal
          have hiI : (i : Int) < (t.atom.length : Int) := by omega
          simp [l_sexpr_valid_0, hiI, h2, h3, plain2_D, hw])
        (fun i hi hp1 => by
          obtain ⟨c, h2, hb⟩ := byt_some (s := t.atom) (i := i) hi
          have h3 : plainC (c.toNat : Int) = false := by rw [← hb]; simpa using hp1
          have hiI : (i : Int) < (t.atom.length : Int) := by omega
          simp [l_sexpr_valid_0, hiI, h2, h3, plain2_D])
        (fun s => by simp) (by simp [l_sexpr_valid_0]) (fun s => by simp)
      simp only [Int.natCast_zero] at hloop
      rw [if_neg ha, plain_any]
      cases hany : (List.range t.atom.length).any fun i => !plainC (byt t.atom i)
      · rw [hany] at hloop
        simp only [Bool.false_eq_true, if_false] at hloop
        have h4 : decide ((t.list.length : Int) = 0) = t.list.isEmpty := by cases t.list <;> simp; omega
        simp [IP_sexpr_valid, i_sexpr_valid, ha, hloop, hwd, h1]
        cases t.list <;> simp
      · rw [hany] at hloop
        simp only [if_true] at hloop
        simp [IP_sexpr_valid, i_sexpr_valid, ha, hloop, hwd, h1]
  · have h1 : (64 : Int) < (d : Int) + 1 := by omega
    simp [IP_sexpr_valid, i_sexpr_valid, h64, hwd, h1]
theorem validT_D {t : S} (hw : t.wf) (q : Bool) : callD G0 IP n_sexpr_Valid [t.av] hp lo q = some (.ret (.bool t.okB) hp) := by
  rw [callD_eq]
  have e1 : callD G0 IP n_sexpr_valid [t.av, .int .i64 0] hp hp.length false = _ := valid2_D t hw 0 (by omega) hp hp.length false
  rw [S.valid_iff t 0, S.av_eq] at e1
  rw [S.av_eq]
  simp [IP_sexpr_Valid, i_sexpr_Valid, e1, S.okB]
end
end Go.Proofs.Ytajlmldpbhendab.Rf
end
section
/- Valid, Same, Depth and Count. -/
set_option linter.unusedSimpArgs false
set_option linter.unusedVariables false
namespace Go.Proofs.Ytajlmldpbhendab.Rf

mutual
def S.count : S → Nat
  | .mk a _ l => if a = [] then 1 + S.counts l else 1
def S.counts : List S → Nat
  | [] => 0
  | t :: r => t.count + S.counts r
end
theorem S.count_eq (t : S) : t.count = if t.atom = [] then 1 + S.counts t.list else 1 := by cases t; rfl
theorem S.counts_app : ∀ (l : List S) (t : S), S.counts (l ++ [t]) = S.counts l + t.count
  | [], t => by simp [S.counts]
  | x :: r, t => by simp only [List.cons_append, S.counts, S.counts_app r t]; omega
theorem S.counts_take {l : List S} {i : Nat} (h : i < l.length) : S.counts (l.take (i + 1)) = S.counts (l.take i) + l[i].count := by
  rw [List.take_succ_eq_append_getElem h, S.counts_app]
theorem S.counts_le : ∀ (l : List S) (i : Nat), S.counts (l.take i) ≤ S.counts l
  | [], i => by simp
  | x :: r, 0 => by simp [S.counts]
  | x :: r, i + 1 => by
    have := S.counts_le r i
    simp only [List.take_succ_cons, S.counts]; omega
theorem S.count_wt (t : S) : t.count ≤ t.wt := by
  induction t using S.ind with | h t ih =>
  have hl : ∀ (l : List S), (∀ u, u ∈ l → u.count ≤ u.wt) → S.counts l ≤ S.wts l := by
    intro l
    induction l with
    | nil => intro _; simp [S.counts, S.wts]
    | cons x r ihr =>
      intro h
      have h1 := h x (by simp)
      have h2 := ihr fun u hu => h u (by simp [hu])
      simp only [S.counts, S.wts]; omega
  have := hl t.list ih
  rw [S.count_eq, S.wt_eq]; split <;> omega
section
variable {hp : List HObj} {lo : Nat}
theorem depth2_D (t : S) : t.wf → t.wt ≤ 1000000 → ∀ (hp : List HObj) (lo : Nat) (q : Bool), callD G0 IP n_sexpr_Depth [t.av] hp lo q = some (.ret (.int .i64 t.depth) hp) := by
  induction t using S.ind with | h t ih =>
  intro hw hwt hp lo q
  rw [S.wf_eq] at hw
  obtain ⟨hal, hl, _, hws⟩ := hw
  have hwt2 := hwt
  rw [S.wt_eq] at hwt2
  rw [callD_eq, S.av_eq]
  have hd := S.depth_eq t
  by_cases ha : t.atom = []
  · rw [if_pos ha] at hd
    have hdw := S.depth_wt t
    have hloop := loop_iter (G := G0) (IP := IP) (lo := hp.length) (b := l_sexpr_Depth_0)
      (fun i => ⟨[(3, .int .i64 (S.depths (t.list.take i))), (10, .list (S.avs t.list) (ownB t.o)), (11, .int .i64 t.list.length), (12, .int .i64 i)], hp⟩) t.list.length
      (r := (.exit 0, ⟨[(3, .int .i64 (S.depths t.list)), (10, .list (S.avs t.list) (ownB t.o)), (11, .int .i64 t.list.length), (12, .int .i64 t.list.length), (13, .bool false)], hp⟩)) (fun i hi => by
        have hm := S.wts_mem t.list t.list[i] (List.getElem_mem hi)
        have e1 := ih t.list[i] (List.getElem_mem hi) (hws _ (List.getElem_mem hi)) (by omega) hp hp.length false
        rw [S.av_eq] at e1
        have hw := wrap_succ hi hl
        have hmx : (if (t.list[i].depth : Int) > (S.depths (t.list.take i) : Int) then (t.list[i].depth : Int) else (S.depths (t.list.take i) : Int)) = ((S.depths (t.list.take (i + 1)) : Nat) : Int) := by
          rw [S.depths_take hi]; split <;> omega
        rw [← hmx, ← hw]
        simp [l_sexpr_Depth_0, hi, S.av_eq t.list[i], e1])
      (by simp [l_sexpr_Depth_0]) (by simp)
    have hw2 : IntKind.wrap .i64 ((S.depths t.list : Int) + 1) = (S.depths t.list : Int) + 1 := wrap_small (by omega) (by omega)
    simp [S.depths] at hloop
    simp [IP_sexpr_Depth, i_sexpr_Depth, ha, hloop, hw2, hd]
  · rw [if_neg ha] at hd
    simp [IP_sexpr_Depth, i_sexpr_Depth, ha, hd, show IntKind.wrap .i64 1 = 1 from rfl]
theorem count2_D (t : S) : t.wf → t.wt ≤ 1000000 → ∀ (hp : List HObj) (lo : Nat) (q : Bool), callD G0 IP n_sexpr_Count [t.av] hp lo q = some (.ret (.int .i64 t.count) hp) := by
  induction t using S.ind with | h t ih =>
  intro hw hwt hp lo q
  rw [S.wf_eq] at hw
  obtain ⟨hal, hl, _, hws⟩ := hw
  have hwt2 := hwt
  rw [S.wt_eq] at hwt2
  rw [callD_eq, S.av_eq]
  have hd := S.count_eq t
  by_cases ha : t.atom = []
  · rw [if_pos ha] at hd
    have hcw := S.count_wt t
    have hloop := loop_iter (G := G0) (IP := IP) (lo := hp.length) (b := l_sexpr_Count_0)
      (fun i => ⟨[(3, .int .i64 ((1 + S.counts (t.list.take i) : Nat) : Int)), (10, .list (S.avs t.list) (ownB t.o)), (11, .int .i64 t.list.length), (12, .int .i64 i)], hp⟩) t.list.length
      (r := (.exit 0, ⟨[(3, .int .i64 ((1 + S.counts t.list : Nat) : Int)), (10, .list (S.avs t.list) (ownB t.o)), (11, .int .i64 t.list.length), (12, .int .i64 t.list.length), (13, .bool false)], hp⟩)) (fun i hi => by
        have hm := S.wts_mem t.list t.list[i] (List.getElem_mem hi)
        have e1 := ih t.list[i] (List.getElem_mem hi) (hws _ (List.getElem_mem hi)) (by omega) hp hp.length false
        rw [S.av_eq] at e1
        have hw := wrap_succ hi hl
        have hle := S.counts_le t.list (i + 1)
        rw [S.counts_take hi] at hle
        have hmx : IntKind.wrap .i64 (1 + (S.counts (t.list.take i) : Int) + (t.list[i].count : Int)) = ((1 + S.counts (t.list.take (i + 1)) : Nat) : Int) := by
          rw [S.counts_take hi, wrap_small (by omega) (by omega)]; omega
        rw [← hmx, ← hw]
        simp [l_sexpr_Count_0, hi, S.av_eq t.list[i], e1])
      (by simp [l_sexpr_Count_0]) (by simp)
    simp [S.counts] at hloop
    simp [IP_sexpr_Count, i_sexpr_Count, ha, hloop, hd]
  · rw [if_neg ha] at hd
    simp [IP_sexpr_Count, i_sexpr_Count, ha, hd]
theorem count1_D (t : S) : t.wf → t.wt ≤ 1000000 → ∀ (hp : List HObj) (lo : Nat) (q : Bool), callD G0 IP n_saturateref05_Count [t.av] hp lo q = some (.ret (.int .i64 t.count) hp) := by
  induction t using S.ind with | h t ih =>
  intro hw hwt hp lo q
  rw [S.wf_eq] at hw
  obtain ⟨hal, hl, _, hws⟩ := hw
  have hwt2 := hwt
  rw [S.wt_eq] at hwt2
  rw [callD_eq, S.av_eq]
  have hd := S.count_eq t
  by_cases ha : t.atom = []
  · rw [if_pos ha] at hd
    have hcw := S.count_wt t
    have hloop := loop_iter (G := G0) (IP := IP) (lo := hp.length) (b := l_saturateref05_Count_0)
      (fun i => ⟨[(1, .box [.str t.atom, .list (S.avs t.list) (ownB t.o)]), (3, .int .i64 ((1 + S.counts (t.list.take i) : Nat) : Int)), (4, .int .i64 i)], hp⟩) t.list.length
      (r := (.exit 0, ⟨[(1, .box [.str t.atom, .list (S.avs t.list) (ownB t.o)]), (3, .int .i64 ((1 + S.counts t.list : Nat) : Int)), (4, .int .i64 t.list.length), (12, .bool false)], hp⟩)) (fun i hi => by
        have hm := S.wts_mem t.list t.list[i] (List.getElem_mem hi)
        have e1 := ih t.list[i] (List.getElem_mem hi) (hws _ (List.getElem_mem hi)) (by omega) hp hp.length false
        rw [S.av_eq] at e1
        have hiI : (i : Int) < (t.list.length : Int) := by omega
        have hw := wrap_succ hi hl
        have hle := S.counts_le t.list (i + 1)
        rw [S.counts_take hi] at hle
        have hmx : IntKind.wrap .i64 (1 + (S.counts (t.list.take i) : Int) + (t.list[i].count : Int)) = ((1 + S.counts (t.list.take (i + 1)) : Nat) : Int) := by
          rw [S.counts_take hi, wrap_small (by omega) (by omega)]; omega
        rw [← hmx, ← hw]
        simp [l_saturateref05_Count_0, hi, hiI, S.av_eq t.list[i], e1])
      (by simp [l_saturateref05_Count_0]) (by simp)
    simp [S.counts, ha] at hloop
    simp [IP_saturateref05_Count, i_saturateref05_Count, ha, hloop, hd]
  · rw [if_neg ha] at hd
    simp [IP_saturateref05_Count, i_saturateref05_Count, ha, hd]
theorem equalFunc_D (as : List S) (o o' : Own) (hlen : as.length ≤ 9223372036854775807) (bs : List S)
    (ih : ∀ t, t ∈ as → ∀ u : S, ∀ hp lo q, callD G0 IP n_sexpr_Same [t.av, u.av] hp lo q = some (.ret (.bool (t.same u)) hp)) (hp : List HObj) (lo : Nat) (q : Bool) :
    callD G0 IP n_slices_EqualFunc_Sexp_Sexp_Sexp_Sexp [.list (S.avs as) o, .list (S.avs bs) o', .func n_sexpr_Same []] hp lo q = some (.ret (.bool (S.sames as bs)) hp) := by
  rw [callD_eq]
  by_cases c5 : as.length = bs.length
  rotate_left
  · have c6 : ¬ (as.length : Int) = (bs.length : Int) := by omega
    simp [IP_slices_EqualFunc_Sexp_Sexp_Sexp_Sexp, i_slices_EqualFunc_Sexp_Sexp_Sexp_Sexp, c6, S.sames_len _ _ c5]
  have hloop := loop_find (G := G0) (IP := IP) (lo := hp.length) (b := l_slices_EqualFunc_Sexp_Sexp_Sexp_Sexp_0)
    (fun i => ⟨[(1, .list (S.avs bs) o'), (2, .func n_sexpr_Same []), (15, .list (S.avs as) o), (16, .int .i64 as.length), (17, .int .i64 i)], hp⟩)
    as.length (fun i => !(as.getD i (.mk [] true [])).same (bs.getD i (.mk [] true []))) (.ret, ⟨[(6, .bool false)], hp⟩)
    (.exit 0, ⟨[(1, .list (S.avs bs) o'), (2, .func n_sexpr_Same []), (15, .list (S.avs as) o), (16, .int .i64 as.length), (17, .int .i64 as.length), (18, .bool false)], hp⟩) (fun i hi hp1 => by
      have hi2 : i < bs.length := by omega
      have e1 := ih as[i] (List.getElem_mem hi) bs[i] hp hp.length false
      have h2 : as[i].same bs[i] = true := by simpa [hi, hi2] using hp1
      rw [h2, S.av_eq, S.av_eq] at e1
      have hw := wrap_succ hi hlen
      simp [l_slices_EqualFunc_Sexp_Sexp_Sexp_Sexp_0, hi, hi2, S.av_eq as[i], S.av_eq bs[i], e1, hw]) (fun i hi hp1 => by
      have hi2 : i < bs.length := by omega
      have e1 := ih as[i] (List.getElem_mem hi) bs[i] hp hp.length false
      have h2 : as[i].same bs[i] = false := by simpa [hi, hi2] using hp1
      rw [h2, S.av_eq, S.av_eq] at e1
      simp [l_slices_EqualFunc_Sexp_Sexp_Sexp_Sexp_0, hi, hi2, S.av_eq as[i], S.av_eq bs[i], e1]) (by simp) (by
      simp [l_slices_EqualFunc_Sexp_Sexp_Sexp_Sexp_0]) (by simp)
  rw [S.sames_eq _ _ c5]
  simp only [Int.natCast_zero] at hloop
  have hI : (as.length : Int) = (bs.length : Int) := by omega
  cases hany : (List.range as.length).any fun i => !(as.getD i (.mk [] true [])).same (bs.getD i (.mk [] true []))
  · rw [hany] at hloop
    simp only [Bool.false_eq_true, if_false, hI] at hloop
    simp [IP_slices_EqualFunc_Sexp_Sexp_Sexp_Sexp, i_slices_EqualFunc_Sexp_Sexp_Sexp_Sexp, hI, hloop]
  · rw [hany] at hloop
    simp only [if_true, hI] at hloop
    simp [IP_slices_EqualFunc_Sexp_Sexp_Sexp_Sexp, i_slices_EqualFunc_Sexp_Sexp_Sexp_Sexp, hI, hloop]
theorem same2_D (t : S) : t.wf → ∀ (u : S) (hp : List HObj) (lo : Nat) (q : Bool), callD G0 IP n_sexpr_Same [t.av, u.av] hp lo q = some (.ret (.bool (t.same u)) hp) := by
  induction t using S.ind with | h t ih =>
  intro hw u hp lo q
  rw [S.wf_eq] at hw
  have e1 := fun q => equalFunc_D t.list (ownB t.o) (ownB u.o) hw.2.1 u.list (fun x hx => ih x hx (hw.2.2.2 x hx)) hp hp.length q
  rw [callD_eq, S.same_eq]
  rw [S.av_eq t, S.av_eq u]
  by_cases hc : t.atom = u.atom
  · simp [IP_sexpr_Same, i_sexpr_Same, hc, e1]
  · simp [IP_sexpr_Same, i_sexpr_Same, hc]
end
theorem sxliveF_ok : (run G0 IP 60).1 n_saturatelaw05_live [] [] 0 false = some (.ret (.bool true) []) := by kernel_rfl
theorem liveT_D : callD G0 IP n_saturatelaw05_live [] [] 0 true = some (.ret (.bool true) []) := callD_iff.2 ⟨60, sxlive_ok⟩
theorem liveF_D : callD G0 IP n_saturatelaw05_live [] [] 0 false = some (.ret (.bool true) []) := callD_iff.2 ⟨60, sxliveF_ok⟩
theorem sexprForms_D {a b : S} (ha : a.wf) (hb : b.wf) (q : Bool) : callD G0 IP n_saturatelaw05_SexprForms [a.av, b.av] [] 0 q = some (.ret (.bool true) []) := by
  rw [callD_eq]
  have el := liveF_D
  have el2 := liveT_D
  have e1 := few_D (lo := 0) ha (n := 300) (by omega) (by omega) (hp := []) false
  have e2 := few_D (lo := 0) hb (n := 300) (by omega) (by omega) (hp := []) false
  cases h1 : fewB a 300
  · rw [h1] at e1
    rw [S.av_eq a] at e1 ⊢
    rw [S.av_eq b]
    simp [IP_saturatelaw05_SexprForms, i_saturatelaw05_SexprForms, e1, el]
  · cases h2 : fewB b 300
    · rw [h1] at e1
      rw [h2] at e2
      rw [S.av_eq a] at e1 ⊢
      rw [S.av_eq b] at e2 ⊢
      simp [IP_saturatelaw05_SexprForms, i_saturatelaw05_SexprForms, e1, e2, el]
    · have hwt := few_wt h1
      have f1 := validT_D (hp := []) (lo := 0) ha true
      have f2 := valid1_D (hp := []) (lo := 0) ha (by omega) true
      have f3 := depth2_D a ha (by omega) [] 0 true
      have f4 := depth1_D a ha (by omega) [] 0 true
      have f5 := count2_D a ha (by omega) [] 0 true
      have f6 := count1_D a ha (by omega) [] 0 true
      have f7 := same2_D a ha b [] 0 true
      have f8 := ref_same_D a ha b [] 0 true
      have f9 := same2_D a ha a [] 0 true
      rw [S.same_refl] at f9
      rw [h1] at e1
      rw [h2] at e2
      rw [S.av_eq a] at e1 f1 f2 f3 f4 f5 f6 f7 f8 f9 ⊢
      rw [S.av_eq b] at e2 f7 f8 ⊢
      simp [IP_saturatelaw05_SexprForms, i_saturatelaw05_SexprForms, e1, e2, f1, f2, f3, f4, f5, f6, f7, f8, f9, el2]
end Go.Proofs.Ytajlmldpbhendab.Rf
end
