/- A part of the proof: see the last text. -/
import Derived.Test.YtkofimhnehkdoaaGreatDoorRfG10
import Derived.Test.YtkofimhnehkdoaaGreatDoorRfG8
import Derived.Test.YtkofimhnehkdoaaGreatDoorRfG6
import Derived.Test.YtkofimhnehkdoaaGreatDoorRfG7
section
set_option linter.unusedSimpArgs false
set_option linter.unusedVariables false
namespace Go.Proofs.YtkofimhnehkdoaaGreatDoor.Rf
theorem p_sm (s : List UInt8) (hs : s.length ≤ 65536) : ∀ n, (∀ i d x j, i < s.length → pOne s n i d = .ok x j → x.sm) ∧ (∀ i d acc j acc', i ≤ s.length → acc.length ≤ i → (∀ t, t ∈ acc → t.sm) → pLoop s n i d acc = .stop j acc' → ∀ t, t ∈ acc' → t.sm)
  | 0 => ⟨fun i d x j hi h => by simp [pOne] at h, fun i d acc j acc' hi ha hw h => by simp [pLoop] at h; obtain ⟨_, rfl⟩ := h; exact hw⟩
  | n + 1 => by
    obtain ⟨h1, h2⟩ := p_sm s hs n
    refine ⟨fun i d x j hi h => ?_, fun i d acc j acc' hi ha hw h => ?_⟩
    · simp only [pOne] at h
      have hk := skipN_le (s := s) (i := i + 1) (by omega)
      split at h
      · split at h
        · cases h
        · split at h
          · cases h
          · rename_i j' acc' hl
            have hle := (p_le s n).2 _ _ _ _ _ hk.2 (by simp) hl
            have hw := h2 _ _ _ _ _ hk.2 (by simp) (by simp) hl
            split at h
            · cases h
            · cases h
              rw [S.sm_eq]
              simp only [S.atom, S.list, S.o]
              exact ⟨by simp, hw⟩
      · split at h
        · split at h
          · cases h
          · cases h
            rw [S.sm_eq]
            simp only [S.atom, S.list, S.o]
            exact ⟨by simp; omega, by simp⟩
        · cases h
    · simp only [pLoop] at h
      split at h
      · rename_i hlt
        split at h
        · cases h; exact hw
        · split at h
          · cases h
          · rename_i x j' ho
            have hj := (p_le s n).1 _ _ _ _ hlt ho
            have hk := skipN_le (s := s) (i := j') (by omega)
            refine h2 _ _ _ _ _ hk.2 (by simp; omega) (fun t ht => ?_) h
            rcases List.mem_append.1 ht with ht | ht
            · exact hw t ht
            · simp at ht; subst ht; exact h1 _ _ _ _ hlt ho
      · cases h; exact hw
theorem top_sm (s : List UInt8) (hs : s.length ≤ 65536) : ∀ n i acc st l st', i ≤ s.length → acc.length ≤ i → (∀ t, t ∈ acc → t.sm) → pTop s n i acc st = .ok l st' → (∀ t, t ∈ l → t.sm)
  | 0, i, acc, st, l, st', hi, ha, hw, h => by simp [pTop] at h; obtain ⟨rfl, rfl⟩ := h; exact hw
  | n + 1, i, acc, st, l, st', hi, ha, hw, h => by
    simp only [pTop] at h
    split at h
    · rename_i hlt
      split at h
      · cases h
      · rename_i x j hx
        have hj := (p_le s _).1 _ _ _ _ hlt hx
        have hk := skipN_le (s := s) (i := j) (by omega)
        refine top_sm s hs n _ _ _ _ _ hk.2 (by simp; omega) (fun t ht => ?_) h
        rcases List.mem_append.1 ht with ht | ht
        · exact hw t ht
        · simp at ht; subst ht; exact (p_sm s hs _).1 _ _ _ _ hlt hx
    · cases h; exact hw
theorem pAll_sm {s : List UInt8} {l : List S} {st : List Nat} (h : pAll s = .ok l st) : ∀ t, t ∈ l → t.sm := by
  unfold pAll at h
  split at h
  · cases h
  · have hk := skipN_le (s := s) (i := 0) (by omega)
    exact top_sm s (by omega) _ _ _ _ _ _ hk.2 (by simp) (by simp) h
def parseT (s : List UInt8) : TR := match pAll s with
  | .err _ e => .err e
  | .ok [x] _ => readS x
  | .ok _ _ => .err 6
section
variable {hp : List HObj} {lo : Nat}
theorem parseT_D (s : List UInt8) (hp : List HObj) (lo : Nat) (q : Bool) : callD G0 IP n_termtext_Parse [.str s] hp lo q = some ((parseT s).tup hp) := by
  rw [callD_eq]
  have e1 := fun (hp : List HObj) (lo : Nat) (q : Bool) => parse2_D (s := s) (hp := hp) (lo := lo) q
  unfold parseT
  cases hx : pAll s with
  | err j e =>
    have hne := pAll_err hx
    rw [hx] at e1
    simp only [outS1] at e1
    simp [IP_termtext_Parse, i_termtext_Parse, e1, hne, tup_err]
  | ok l st =>
    rw [hx] at e1
    match l, hx, e1 with
    | [], _, e1 =>
      simp only [outS1] at e1
      simp [IP_termtext_Parse, i_termtext_Parse, e1, tup_err]
    | [x], hx, e1 =>
      have e2 := read_D x (pAll_sm hx x (by simp))
      simp only [outS1] at e1
      rw [S.av_eq] at e2
      simp only [S.av_eq] at e1
      cases hr : readS x with
      | err c => rw [hr] at e2; simp only [tup_err] at e2; simp [IP_termtext_Parse, i_termtext_Parse, e1, e2, tup_err, hr]
      | ok t => rw [hr] at e2; simp only [tup_ok, T.av_eq] at e2; simp [IP_termtext_Parse, i_termtext_Parse, e1, e2, tup_ok, hr, T.av_eq]
    | x :: y :: r, _, e1 =>
      simp only [outS1] at e1
      simp [IP_termtext_Parse, i_termtext_Parse, e1, tup_err]
end
end Go.Proofs.YtkofimhnehkdoaaGreatDoor.Rf
end
section
set_option linter.unusedSimpArgs false
set_option linter.unusedVariables false
namespace Go.Proofs.YtkofimhnehkdoaaGreatDoor.Rf
mutual
def T.cnt : T → Int → Int → Int
  | .mk _ _ _ _ _ as, d, n => if d < 1 ∨ n < 1 then -1 else T.cnts as (d - 1) (n - 1)
def T.cnts : List T → Int → Int → Int
  | [], _, n => n
  | t :: r, d, n => if 0 ≤ n then T.cnts r d (t.cnt d n) else n
end
theorem T.cnt_eq (t : T) (d n : Int) : t.cnt d n = if d < 1 ∨ n < 1 then -1 else T.cnts t.args (d - 1) (n - 1) := by cases t; rfl
theorem T.cnts_neg : ∀ (l : List T) (d n : Int), n < 0 → T.cnts l d n = n
  | [], d, n, _ => rfl
  | t :: r, d, n, h => by simp only [T.cnts]; rw [if_neg (by omega)]
theorem T.cnt_le (t : T) : ∀ d n : Int, 0 ≤ n → -1 ≤ t.cnt d n ∧ t.cnt d n ≤ n := by
  induction t using T.ind with | h t ih =>
  have hl : ∀ (l : List T), (∀ u, u ∈ l → ∀ d n : Int, 0 ≤ n → -1 ≤ u.cnt d n ∧ u.cnt d n ≤ n) → ∀ d n : Int, -1 ≤ n → -1 ≤ T.cnts l d n ∧ T.cnts l d n ≤ n := by
    intro l
    induction l with
    | nil => intro _ d n h; simp only [T.cnts]; omega
    | cons x r ihr =>
      intro h d n hn
      simp only [T.cnts]
      split
      · rename_i h0
        have h1 := h x (by simp) d n h0
        have h2 := ihr (fun u hu => h u (by simp [hu])) d (x.cnt d n) h1.1
        omega
      · omega
  intro d n hn
  rw [T.cnt_eq]
  split
  · omega
  · have := hl t.args ih (d - 1) (n - 1) (by omega); omega
theorem T.cnt_ge (t : T) : ∀ d n : Int, 0 ≤ t.cnt d n → t.cnt d n = n - t.size := by
  induction t using T.ind with | h t ih =>
  have hl : ∀ (l : List T), (∀ u, u ∈ l → ∀ d n : Int, 0 ≤ u.cnt d n → u.cnt d n = n - u.size) → ∀ d n : Int, 0 ≤ T.cnts l d n → T.cnts l d n = n - T.sizes l := by
    intro l
    induction l with
    | nil => intro _ d n _; simp [T.cnts, T.sizes]
    | cons x r ihr =>
      intro h d n hn
      simp only [T.cnts] at hn ⊢
      split
      · rename_i h0
        rw [if_pos h0] at hn
        by_cases hx : 0 ≤ x.cnt d n
        · rw [ihr (fun u hu => h u (by simp [hu])) _ _ hn, h x (by simp) d n hx]; simp only [T.sizes]; omega
        · rw [T.cnts_neg r _ _ (by omega)] at hn; exact absurd hn hx
      · rename_i h0; rw [if_neg h0] at hn; exact absurd hn h0
  intro d n hn
  rw [T.cnt_eq] at hn ⊢
  split at hn
  · omega
  · rename_i h; rw [if_neg h, hl t.args ih _ _ hn, T.size_eq]; omega
def smallB (t : T) (n : Int) : Bool := decide (0 ≤ t.cnt n n)
theorem small_size {t : T} {n : Int} (h : smallB t n = true) : (t.size : Int) ≤ n := by
  simp only [smallB, decide_eq_true_eq] at h
  have := T.cnt_ge t n n h; omega
end Go.Proofs.YtkofimhnehkdoaaGreatDoor.Rf
end
section
set_option linter.unusedSimpArgs false
set_option linter.unusedVariables false
namespace Go.Proofs.YtkofimhnehkdoaaGreatDoor.Rf
section
variable {hp : List HObj} {lo : Nat}
theorem sames6_of {as : List T} (ih : ∀ t, t ∈ as → ∀ (u : T) (hp : List HObj) (lo : Nat) (q : Bool), callD G0 IP n_saturateref06_Same [t.av, u.av] hp lo q = some (.ret (.bool (t.same u)) hp)) (bs : List T) (hl : as.length ≤ 9223372036854775807) (o1 o2 : Own) (hp : List HObj) (lo : Nat) (q : Bool) :
    callD G0 IP n_saturateref06_SameAll [.list (T.avs as) o1, .list (T.avs bs) o2] hp lo q = some (.ret (.bool (T.sames as bs)) hp) := by
  rw [callD_eq]
  by_cases he : as.length = bs.length
  · have hloop := loop_find (G := G0) (IP := IP) (lo := hp.length) (b := l_saturateref06_SameAll_0)
      (fun i => ⟨[(0, .list (T.avs as) o1), (1, .list (T.avs bs) o2), (5, .int .i64 i)], hp⟩) as.length (fun i => !(as.getD i (.mk 0 0 0 [] true [])).same (bs.getD i (.mk 0 0 0 [] true [])))
      (.ret, ⟨[(4, .bool false)], hp⟩) (.exit 0, ⟨[(0, .list (T.avs as) o1), (1, .list (T.avs bs) o2), (5, .int .i64 as.length), (14, .bool false)], hp⟩)
      (fun i hi hp1 => by
        have hi2 : i < bs.length := by omega
        have e1 := ih as[i] (List.getElem_mem hi) bs[i] hp hp.length true
        have h2 : as[i].same bs[i] = true := by simpa [hi, hi2] using hp1
        rw [h2, T.av_eq, T.av_eq] at e1
        have hiI : (i : Int) < (as.length : Int) := by omega
        have hiI2 : (i : Int) < (bs.length : Int) := by omega
        have hw := wrap_succ hi hl
        simp [l_saturateref06_SameAll_0, hi, hi2, hiI, hiI2, T.av_eq as[i], T.av_eq bs[i], e1, hw])
      (fun i hi hp1 => by
        have hi2 : i < bs.length := by omega
        have e1 := ih as[i] (List.getElem_mem hi) bs[i] hp hp.length true
        have h2 : as[i].same bs[i] = false := by simpa [hi, hi2] using hp1
        rw [h2, T.av_eq, T.av_eq] at e1
        have hiI : (i : Int) < (as.length : Int) := by omega
        have hiI2 : (i : Int) < (bs.length : Int) := by omega
        simp [l_saturateref06_SameAll_0, hi, hi2, hiI, hiI2, T.av_eq as[i], T.av_eq bs[i], e1])
      (fun s => by simp) (by simp [l_saturateref06_SameAll_0]) (fun s => by simp)
    have hI : (as.length : Int) = (bs.length : Int) := by omega
    rw [T.sames_eq as bs he]
    simp only [Int.natCast_zero] at hloop
    cases hany : (List.range as.length).any fun i => !(as.getD i (.mk 0 0 0 [] true [])).same (bs.getD i (.mk 0 0 0 [] true []))
    · rw [hany] at hloop
      simp only [Bool.false_eq_true, if_false] at hloop
      simp [IP_saturateref06_SameAll, i_saturateref06_SameAll, hI, hloop]
    · rw [hany] at hloop
      simp only [if_true] at hloop
      simp [IP_saturateref06_SameAll, i_saturateref06_SameAll, hI, hloop]
  · have hI : ¬ (as.length : Int) = (bs.length : Int) := by omega
    rw [T.sames_len as bs he]
    simp [IP_saturateref06_SameAll, i_saturateref06_SameAll, hI]
set_option maxHeartbeats 1000000 in
theorem same6_D (t : T) : t.wf → ∀ (u : T) (hp : List HObj) (lo : Nat) (q : Bool), callD G0 IP n_saturateref06_Same [t.av, u.av] hp lo q = some (.ret (.bool (t.same u)) hp) := by
  induction t using T.ind with | h t ih =>
  intro hw u hp lo q
  rw [T.wf_eq] at hw
  have e1 := fun q => sames6_of (as := t.args) (fun x hx => ih x hx (hw.2.2.2.2.2.2 x hx)) u.args hw.2.2.2.2.1 (ownB t.o) (ownB u.o) hp hp.length q
  rw [callD_eq, T.same_eq]
  rw [T.av_eq t, T.av_eq u]
  by_cases h1 : t.op = u.op
  · by_cases h2 : t.width = u.width
    · by_cases h3 : t.val = u.val
      · by_cases h4 : t.name = u.name
        · simp [IP_saturateref06_Same, i_saturateref06_Same, h1, h2, h3, h4, e1]
        · simp [IP_saturateref06_Same, i_saturateref06_Same, h1, h2, h3, h4]
      · simp [IP_saturateref06_Same, i_saturateref06_Same, h1, h2, h3]
    · simp [IP_saturateref06_Same, i_saturateref06_Same, h1, h2]
  · simp [IP_saturateref06_Same, i_saturateref06_Same, h1]
theorem count_D (t : T) : t.wf → ∀ (d n : Int), -1000 ≤ d → d ≤ 1000 → 0 ≤ n → n ≤ 1000 → ∀ (hp : List HObj) (lo : Nat) (q : Bool), callD G0 IP n_saturateref06_count [t.av, .int .i64 d, .int .i64 n] hp lo q = some (.ret (.int .i64 (t.cnt d n)) hp) := by
  induction t using T.ind with | h t ih =>
  intro hw d n hd0 hd1 h0 h1 hp lo q
  rw [T.wf_eq] at hw
  obtain ⟨_, _, _, _, hl, _, hws⟩ := hw
  have hloop : ∀ (k i : Nat) (n : Int), i + k = t.args.length → -1 ≤ n → n ≤ 1000 → 1 ≤ d → ∃ j : Int, loopD G0 IP hp.length l_saturateref06_count_0 ⟨[(1, .int .i64 d), (2, .int .i64 n), (3, .box t.cells), (7, .int .i64 i)], hp⟩ =
      some (.exit 0, ⟨[(1, .int .i64 d), (2, .int .i64 (T.cnts (t.args.drop i) (d - 1) n)), (3, .box t.cells), (7, .int .i64 j), (24, .bool false)], hp⟩) := by
    intro k
    induction k with
    | zero =>
      intro i n hi _ _ _
      have hI : ¬ (i : Int) < (t.args.length : Int) := by omega
      refine ⟨i, ?_⟩
      rw [loopD_eq, loopBody, List.drop_eq_nil_of_le (by omega)]
      simp [l_saturateref06_count_0, hI, T.cnts]
    | succ k ihk =>
      intro i n hi hn0 hn hd
      have hlt : i < t.args.length := by omega
      have hI : (i : Int) < (t.args.length : Int) := by omega
      rw [List.drop_eq_getElem_cons hlt]
      simp only [T.cnts]
      by_cases hneg : 0 ≤ n
      · have e1 := ih t.args[i] (List.getElem_mem hlt) (hws _ (List.getElem_mem hlt)) (d - 1) n (by omega) (by omega) hneg hn hp hp.length false
        have hle := T.cnt_le t.args[i] (d - 1) n hneg
        obtain ⟨j, e2⟩ := ihk (i + 1) (t.args[i].cnt (d - 1) n) (by omega) hle.1 (by omega) hd
        have hw1 := wrap_succ hlt hl
        have hw2 : IntKind.wrap .i64 (d - 1) = d - 1 := wrap_small (by omega) (by omega)
        rw [T.av_eq] at e1
        refine ⟨j, ?_⟩
        rw [loopD_eq, loopBody, if_pos hneg]
        simp [l_saturateref06_count_0, hI, hlt, hneg, T.av_eq t.args[i], hw2, e1, hw1]
        exact e2
      · refine ⟨i, ?_⟩
        rw [loopD_eq, loopBody, if_neg hneg]
        simp [l_saturateref06_count_0, hI, hlt, hneg]
  rw [callD_eq, T.cnt_eq, T.av_eq]
  by_cases hd : d < 1
  · simp [IP_saturateref06_count, i_saturateref06_count, hd]
  · by_cases hn : n < 1
    · simp [IP_saturateref06_count, i_saturateref06_count, hd, hn]
    · obtain ⟨j, e2⟩ := hloop t.args.length 0 (n - 1) (by omega) (by omega) (by omega) (by omega)
      have hw2 : IntKind.wrap .i64 (n - 1) = n - 1 := wrap_small (by omega) (by omega)
      simp at e2
      simp [IP_saturateref06_count, i_saturateref06_count, hd, hn, hw2, e2]
theorem light_D (t : T) (hw : t.wf) (d n : Int) (hd0 : -1000 ≤ d) (hd1 : d ≤ 1000) (h0 : 0 ≤ n) (h1 : n ≤ 1000) (hp : List HObj) (lo : Nat) (q : Bool) : ∃ v : T, callD G0 IP n_saturateref06_Light [t.av, .int .i64 d, .int .i64 n] hp lo q = some (.ret (.tup [v.av, .bool (decide (0 ≤ t.cnt d n))]) hp) := by
  have e1 := count_D t hw d n hd0 hd1 h0 h1
  rw [callD_eq]
  rw [T.av_eq] at e1 ⊢
  by_cases h : 0 ≤ t.cnt d n
  · have h' : ¬ t.cnt d n < 0 := by omega
    exact ⟨t, by simp [IP_saturateref06_Light, i_saturateref06_Light, e1, h, h', T.av_eq, T.avs_closed]⟩
  · have h' : t.cnt d n < 0 := by omega
    exact ⟨.mk 0 0 0 [] true [], by simp [IP_saturateref06_Light, i_saturateref06_Light, e1, h, h']; rfl⟩
theorem small7_D (t : T) (hw : t.wf) (n : Int) (h0 : 0 ≤ n) (h1 : n ≤ 1000) (hp : List HObj) (lo : Nat) (q : Bool) : callD G0 IP n_saturatelaw07_small [t.av, .int .i64 n] hp lo q = some (.ret (.bool (smallB t n)) hp) := by
  obtain ⟨v, e1⟩ := light_D t hw n n (by omega) h1 h0 h1 hp hp.length false
  rw [callD_eq]
  rw [T.av_eq, T.av_eq] at e1
  rw [T.av_eq]
  simp [IP_saturatelaw07_small, i_saturatelaw07_small, e1, smallB]
end
end Go.Proofs.YtkofimhnehkdoaaGreatDoor.Rf
end
section
set_option linter.unusedSimpArgs false
set_option linter.unusedVariables false
namespace Go.Proofs.YtkofimhnehkdoaaGreatDoor.Rf
set_option maxRecDepth 100000 in
theorem txlives_ok : (run G0 IP 100).1 n_saturatelaw07_lives [] [] 0 false = some (.ret (.bool true) []) := by kernel_rfl
end Go.Proofs.YtkofimhnehkdoaaGreatDoor.Rf
end
section
set_option linter.unusedSimpArgs false
set_option linter.unusedVariables false
namespace Go.Proofs.YtkofimhnehkdoaaGreatDoor.Rf
theorem lives7_D : callD G0 IP n_saturatelaw07_lives [] [] 0 false = some (.ret (.bool true) []) := callD_iff.2 ⟨100, txlives_ok⟩
mutual
theorem T.same_refl : ∀ t : T, t.same t = true
  | .mk _ _ _ _ _ as => by simp [T.same, T.sames_refl as]
theorem T.sames_refl : ∀ as : List T, T.sames as as = true
  | [] => rfl
  | t :: r => by simp [T.sames, T.same_refl t, T.sames_refl r]
end
end Go.Proofs.YtkofimhnehkdoaaGreatDoor.Rf
end
section
set_option linter.unusedSimpArgs false
set_option linter.unusedVariables false
namespace Go.Proofs.YtkofimhnehkdoaaGreatDoor.Rf
theorem T.valid_eq (t : T) : t.valid = (T.valids t.args && (notE t && (decide ((widE t.op t.width t.val (t.args.map T.width)).2 = 0) && decide ((widE t.op t.width t.val (t.args.map T.width)).1 = t.width)))) := by cases t; rfl
theorem T.sizes_mem : ∀ l : List T, (l.length : Int) ≤ T.sizes l ∧ ∀ x, x ∈ l → x.size ≤ T.sizes l := by
  intro l
  induction l with
  | nil => simp [T.sizes]
  | cons x r ihr =>
    have hx : 1 ≤ x.size := by rw [T.size_eq]; omega
    refine ⟨by simp only [T.sizes, List.length_cons]; have := ihr.1; omega, fun y hy => ?_⟩
    simp only [T.sizes]
    rcases List.mem_cons.1 hy with rfl | hy
    · omega
    · have := ihr.2 y hy; omega
section
variable {hp : List HObj} {lo : Nat}
def outV (t : T) (hp : List HObj) : Bool → Ex × St
  | false => (.ret, ⟨[(2, .bool false)], hp⟩)
  | true => (.exit 0, ⟨[(1, .box t.cells), (3, .list (wds t.args) (.own 1 0)), (4, .int .i64 t.args.length), (12, .bool false)], hp⟩)
theorem valid7_L (t : T) (hl10 : (t.args.length : Int) * 8 ≤ 140737488355328) : ∀ (r p : List T), t.args = p ++ r →
    (∀ x, x ∈ r → ∀ (hp : List HObj) (lo : Nat) (q : Bool), callD G0 IP n_saturateref07_Valid [x.av] hp lo q = some (.ret (.bool x.valid) hp)) →
    loopD G0 IP lo l_saturateref07_Valid_0 ⟨[(1, .box t.cells), (3, .list (wds p) (.own 1 0)), (4, .int .i64 p.length)], hp⟩ = some (outV t hp (T.valids r))
  | [], p, h, _ => by
    rw [loopD_eq, loopBody]
    simp at h
    simp [l_saturateref07_Valid_0, T.valids, outV, h]
  | x :: r, p, h, ih => by
    rw [loopD_eq, loopBody]
    have hlen : t.args.length = p.length + (r.length + 1) := by rw [h]; simp
    have h1 : (p.length : Int) < (t.args.length : Int) := by omega
    have hl : p.length < t.args.length := by omega
    have h2 : t.args[p.length] = x := by simp [h]
    have hw : IntKind.wrap .i64 ((p.length : Int) + 1) = (p.length : Int) + 1 := wrap_small (by omega) (by omega)
    have e1 := ih x (by simp) hp lo false
    rw [T.av_eq] at e1
    have e2 := valid7_L t hl10 r (p ++ [x]) (by rw [h]; simp) (fun y hy => ih y (by simp [hy]))
    simp only [List.length_append, List.length_cons, List.length_nil, Nat.zero_add, Int.natCast_add, Int.natCast_one] at e2
    have hb2 : p.length + 1 ≤ 9223372036854775807 := by omega
    have hb3 : (p.length + 1) * 8 ≤ 140737488355328 := by omega
    rw [wds_app] at e2
    cases hv : x.valid with
    | false =>
      rw [hv] at e1
      simp [l_saturateref07_Valid_0, hl, h1, h2, T.av_eq x, e1, T.valids, hv, outV]
    | true =>
      rw [hv] at e1
      simp [l_saturateref07_Valid_0, hl, h1, h2, T.av_eq x, e1, T.valids, hv, hw, hb2, hb3]
      exact e2
theorem valid7_D (t : T) : t.wf → (t.size : Int) ≤ 1000 → ∀ (hp : List HObj) (lo : Nat) (q : Bool), callD G0 IP n_saturateref07_Valid [t.av] hp lo q = some (.ret (.bool t.valid) hp) := by
  induction t using T.ind with | h t ih =>
  intro hw hsz hp lo q
  have hwf := (T.wf_eq t).1 hw
  have en := notable7_D t hw
  have hv : 0 ≤ t.val ∧ t.val < 18446744073709551616 := by
    have := hwf.2.2.1
    simp [Lit.wf, IntKind.min, IntKind.max, IntKind.signed, IntKind.bits] at this; omega
  have hs2 := T.sizes_mem t.args
  rw [T.size_eq] at hsz
  have e1 := valid7_L (hp := hp) (lo := hp.length) t (by omega) t.args [] rfl (fun x hx => ih x hx (hwf.2.2.2.2.2.2 x hx) (by have := hs2.2 x hx; omega))
  have e2 : ∀ (hp : List HObj) (lo : Nat) (q : Bool) (oo : Own), callD G0 IP n_saturateref04_Width [.int .i64 t.op, .int .i64 t.width, .int .u64 t.val, .list (wds t.args) oo] hp lo q = some (.ret (.tup [.int .i64 (widE t.op t.width t.val (t.args.map T.width)).1, .int .i64 (widE t.op t.width t.val (t.args.map T.width)).2]) hp) :=
    fun hp lo q oo => width4_D q t.op _ _ hv.2 (t.args.map T.width) oo (by rw [List.length_map]; omega)
  rw [callD_eq, T.valid_eq]
  rw [T.av_eq] at en ⊢
  simp [T.cells] at e1
  cases hvs : T.valids t.args with
  | false =>
    rw [hvs] at e1
    simp only [outV] at e1
    simp [IP_saturateref07_Valid, i_saturateref07_Valid, e1]
  | true =>
    rw [hvs] at e1
    simp only [outV, T.cells] at e1
    cases hn : notE t with
    | false =>
      rw [hn] at en
      simp [IP_saturateref07_Valid, i_saturateref07_Valid, e1, e2, en]
    | true =>
      rw [hn] at en
      by_cases hz : (widE t.op t.width t.val (t.args.map T.width)).2 = 0
      · simp [IP_saturateref07_Valid, i_saturateref07_Valid, e1, e2, en, hz]
      · simp [IP_saturateref07_Valid, i_saturateref07_Valid, e1, e2, en, hz]
def T.deep (t : T) (n : Int) : Bool := decide (n < t.dep)
def outD (t : T) (n : Int) (hp : List HObj) : Bool → Ex × St
  | true => (.ret, ⟨[(4, .bool true)], hp⟩)
  | false => (.exit 0, ⟨[(1, .int .i64 n), (2, .box t.cells), (5, .int .i64 t.args.length), (12, .bool false)], hp⟩)
theorem T.dep_eq (t : T) : t.dep = 1 + T.deps t.args := by cases t; rfl
theorem deep7_L (t : T) (n : Int) (h0 : 1 ≤ n) (h1000 : n ≤ 1000) (hl10 : t.args.length ≤ 9223372036854775806) : ∀ (r p : List T), t.args = p ++ r →
    (∀ x, x ∈ r → ∀ (hp : List HObj) (lo : Nat) (q : Bool), callD G0 IP n_saturateref07_Deep [x.av, .int .i64 (n - 1)] hp lo q = some (.ret (.bool (x.deep (n - 1))) hp)) →
    loopD G0 IP lo l_saturateref07_Deep_0 ⟨[(1, .int .i64 n), (2, .box t.cells), (5, .int .i64 p.length)], hp⟩ = some (outD t n hp (decide (n - 1 < T.deps r)))
  | [], p, h, _ => by
    rw [loopD_eq, loopBody]
    simp at h
    have hd2 : decide (n - 1 < ((T.deps [] : Nat) : Int)) = false := by
      rw [decide_eq_false_iff_not]; simp only [T.deps]; omega
    rw [hd2]
    simp [l_saturateref07_Deep_0, outD, h]
  | x :: r, p, h, ih => by
    rw [loopD_eq, loopBody]
    have hlen : t.args.length = p.length + (r.length + 1) := by rw [h]; simp
    have h1 : (p.length : Int) < (t.args.length : Int) := by omega
    have hl : p.length < t.args.length := by omega
    have h2 : t.args[p.length] = x := by simp [h]
    have hw : IntKind.wrap .i64 ((p.length : Int) + 1) = (p.length : Int) + 1 := wrap_small (by omega) (by omega)
    have hw2 : IntKind.wrap .i64 (n - 1) = n - 1 := wrap_small (by omega) (by omega)
    have e1 := ih x (by simp) hp lo false
    rw [T.av_eq] at e1
    have e2 := deep7_L t n h0 h1000 hl10 r (p ++ [x]) (by rw [h]; simp) (fun y hy => ih y (by simp [hy]))
    simp only [List.length_append, List.length_cons, List.length_nil, Nat.zero_add, Int.natCast_add, Int.natCast_one] at e2
    cases hv : x.deep (n - 1) with
    | true =>
      rw [hv] at e1
      have hd2 : decide (n - 1 < ((T.deps (x :: r) : Nat) : Int)) = true := by
        simp only [T.deep, decide_eq_true_eq] at hv ⊢; simp only [T.deps]; omega
      rw [hd2]
      simp [l_saturateref07_Deep_0, hl, h1, h2, T.av_eq x, e1, hw2, outD]
    | false =>
      rw [hv] at e1
      have hd2 : decide (n - 1 < ((T.deps (x :: r) : Nat) : Int)) = decide (n - 1 < ((T.deps r : Nat) : Int)) := by
        simp only [T.deep, decide_eq_false_iff_not] at hv
        congr 1; simp only [T.deps, eq_iff_iff]; omega
      rw [hd2]
      simp [l_saturateref07_Deep_0, hl, h1, h2, T.av_eq x, e1, hw, hw2]
      exact e2
theorem deep7_D (t : T) : t.wf → (t.size : Int) ≤ 1000 → ∀ (n : Int), -1000 ≤ n → n ≤ 1000 → ∀ (hp : List HObj) (lo : Nat) (q : Bool), callD G0 IP n_saturateref07_Deep [t.av, .int .i64 n] hp lo q = some (.ret (.bool (t.deep n)) hp) := by
  induction t using T.ind with | h t ih =>
  intro hw hsz n hn0 hn1 hp lo q
  have hwf := (T.wf_eq t).1 hw
  have hs2 := T.sizes_mem t.args
  rw [T.size_eq] at hsz
  rw [callD_eq, T.av_eq]
  by_cases h1 : n < 1
  · have hd : t.deep n = true := by simp only [T.deep, decide_eq_true_eq]; have := T.dep_pos t; omega
    rw [hd]
    simp [IP_saturateref07_Deep, i_saturateref07_Deep, h1]
  · have e1 := deep7_L (hp := hp) (lo := hp.length) t n (by omega) hn1 (by omega) t.args [] rfl (fun x hx hp lo q => ih x hx (hwf.2.2.2.2.2.2 x hx) (by have := hs2.2 x hx; omega) (n - 1) (by omega) (by omega) hp lo q)
    have hd : t.deep n = decide (n - 1 < ((T.deps t.args : Nat) : Int)) := by
      simp only [T.deep, T.dep_eq]; congr 1; simp only [eq_iff_iff]; omega
    rw [hd]
    simp [T.cells] at e1
    cases hv : decide (n - 1 < ((T.deps t.args : Nat) : Int)) with
    | true =>
      rw [hv] at e1
      simp only [outD] at e1
      simp [IP_saturateref07_Deep, i_saturateref07_Deep, h1, e1]
    | false =>
      rw [hv] at e1
      simp only [outD, T.cells] at e1
      simp [IP_saturateref07_Deep, i_saturateref07_Deep, h1, e1]
end
end Go.Proofs.YtkofimhnehkdoaaGreatDoor.Rf
end
section
set_option linter.unusedSimpArgs false
set_option linter.unusedVariables false
namespace Go.Proofs.YtkofimhnehkdoaaGreatDoor.Rf
set_option maxRecDepth 100000 in
theorem txlives_okT : (run G0 IP 100).1 n_saturatelaw07_lives [] [] 0 true = some (.ret (.bool true) []) := by kernel_rfl
end Go.Proofs.YtkofimhnehkdoaaGreatDoor.Rf
end
section
set_option linter.unusedSimpArgs false
set_option linter.unusedVariables false
namespace Go.Proofs.YtkofimhnehkdoaaGreatDoor.Rf
theorem lives7_T : callD G0 IP n_saturatelaw07_lives [] [] 0 true = some (.ret (.bool true) []) := callD_iff.2 ⟨100, txlives_okT⟩
set_option maxHeartbeats 1000000 in
theorem termtextWrites_D (t : T) (hw : t.wf) (q : Bool) : callD G0 IP n_saturatelaw07_TermtextWrites [t.av] [] 0 q = some (.ret (.bool true) []) := by
  have e1 := small7_D t hw 200 (by omega) (by omega) [] 0 false
  rw [callD_eq]
  cases hf : smallB t 200 with
  | false =>
    rw [hf] at e1
    rw [T.av_eq] at e1 ⊢
    simp [IP_saturatelaw07_TermtextWrites, i_saturatelaw07_TermtextWrites, e1, lives7_D]
  | true =>
    have hsz := small_size hf
    have hlen := write_len t hw
    have hb : (writeT t).text.length ≤ 140737488355328 := by omega
    have sw := write_wf t hw
    have e2 := fun q => write7_D t hw [] 0 q
    have e3 := fun q => writeT_D t hw [] 0 q
    have e4 := fun q => printT_D t hw hb [] 0 q
    have e5 := fun q => print1_D (writeT t) sw hb [] 0 q
    have e6 := fun q => ref_same_D (writeT t) sw (writeT t) [] 0 q
    simp only [S.same_refl] at e6
    rw [hf] at e1
    simp only [S.av_eq (writeT t)] at e2 e3 e5 e6
    rw [T.av_eq] at e1 ⊢
    simp only [T.av_eq] at e2 e3 e4
    simp [IP_saturatelaw07_TermtextWrites, i_saturatelaw07_TermtextWrites, e1, e2, e3, e4, e5, e6, lives7_D, lives7_T]
theorem parse_print {t : T} (hw : t.wf) (hv : t.valid = true) (hd : t.dep ≤ 64) (hl : (writeT t).text.length ≤ 65536) : parseT (writeT t).text = .ok t.norm := by
  have := write_depth t
  obtain ⟨x, st, h1, h2⟩ := parse_text2 (write_right t) (by omega) hl
  unfold parseT
  rw [h1]
  simp only
  rw [readS_same x _ h2, read_write t hw hv]
theorem text_mem : ∀ (l : List S) (b : Bool) (x : S), x ∈ l → x.text.length ≤ (S.texts b l).length
  | [], b, x, h => by simp at h
  | y :: r, b, x, h => by
    simp only [S.texts, List.length_append]
    rcases List.mem_cons.1 h with rfl | h
    · omega
    · have := text_mem r false x h; omega
theorem S.sm_of_text (s : S) : s.right = true → s.text.length ≤ 140737488355328 → s.sm := by
  induction s using S.ind with | h s ih =>
  intro hr hl
  rw [S.sm_eq]
  by_cases ha : s.atom = []
  · rw [S.right_eq, if_pos ha] at hr
    rw [S.text_eq, if_pos ha] at hl
    simp only [List.length_cons, List.length_append, List.length_nil] at hl
    refine ⟨by rw [ha]; simp, fun u hu => ih u hu ((S.rights_iff _).1 hr u hu) ?_⟩
    have := text_mem s.list true u hu; omega
  · have := right_atom hr ha
    rw [S.text_eq, if_neg ha] at hl
    exact ⟨hl, fun u hu => by rw [this.1] at hu; simp at hu⟩
set_option maxHeartbeats 1000000 in
theorem termtextBack_D (t : T) (hw : t.wf) (q : Bool) : callD G0 IP n_saturatelaw07_TermtextBack [t.av] [] 0 q = some (.ret (.bool true) []) := by
  have e1 := small7_D t hw 200 (by omega) (by omega) [] 0 false
  rw [callD_eq]
  cases hf : smallB t 200 with
  | false =>
    rw [hf] at e1
    rw [T.av_eq] at e1 ⊢
    simp [IP_saturatelaw07_TermtextBack, i_saturatelaw07_TermtextBack, e1, lives7_D]
  | true =>
    have hsz := small_size hf
    rw [hf] at e1
    have e2 := deep7_D t hw (by omega) 60 (by omega) (by omega) [] 0 false
    have e3 := valid7_D t hw (by omega) [] 0 false
    cases hd : t.deep 60 with
    | true =>
      rw [hd] at e2
      rw [T.av_eq] at e1 e2 ⊢
      simp [IP_saturatelaw07_TermtextBack, i_saturatelaw07_TermtextBack, e1, e2, lives7_D]
    | false =>
      rw [hd] at e2
      cases hv : t.valid with
      | false =>
        rw [hv] at e3
        rw [T.av_eq] at e1 e2 e3 ⊢
        simp [IP_saturatelaw07_TermtextBack, i_saturatelaw07_TermtextBack, e1, e2, e3, lives7_D]
      | true =>
        rw [hv] at e3
        have hdp : t.dep ≤ 60 := by simp only [T.deep, decide_eq_false_iff_not] at hd; omega
        have hlen := write_len t hw
        have hb : (writeT t).text.length ≤ 65536 := by omega
        have e4 := writeT_D t hw [] 0 false
        have e5 := read_D (writeT t) (S.sm_of_text _ (write_right t) (by omega)) [] 0 false
        rw [read_write t hw hv, tup_ok] at e5
        have e6 := printT_D t hw (by omega) [] 0 false
        have e7 := parseT_D (writeT t).text [] 0 false
        rw [parse_print hw hv (by omega) hb, tup_ok] at e7
        have hnw : t.norm.wf := (readS_valid _ _ (read_write t hw hv)).2
        have e8 := same6_D t.norm hnw t [] 0 false
        rw [T.norm_same] at e8
        rw [S.av_eq] at e4 e5
        rw [T.av_eq t.norm] at e5 e7 e8
        rw [T.av_eq t] at e1 e2 e3 e4 e6 e8 ⊢
        simp [IP_saturatelaw07_TermtextBack, i_saturatelaw07_TermtextBack, e1, e2, e3, e4, e5, e6, e7, e8, lives7_D]
set_option maxHeartbeats 2000000 in
theorem termtextDiffers_D (t u : T) (hw : t.wf) (hu : u.wf) (q : Bool) : callD G0 IP n_saturatelaw07_TermtextDiffers [t.av, u.av] [] 0 q = some (.ret (.bool true) []) := by
  have e1 := small7_D t hw 200 (by omega) (by omega) [] 0 false
  have f1 := small7_D u hu 200 (by omega) (by omega) [] 0 false
  rw [callD_eq]
  cases hf : smallB t 200 with
  | false =>
    rw [hf] at e1
    rw [T.av_eq] at e1 ⊢
    rw [T.av_eq u]
    simp [IP_saturatelaw07_TermtextDiffers, i_saturatelaw07_TermtextDiffers, e1, lives7_D]
  | true =>
    rw [hf] at e1
    cases hg : smallB u 200 with
    | false =>
      rw [hg] at f1
      rw [T.av_eq] at e1 f1 ⊢
      rw [T.av_eq u]
      simp [IP_saturatelaw07_TermtextDiffers, i_saturatelaw07_TermtextDiffers, e1, f1, lives7_D]
    | true =>
      rw [hg] at f1
      have hsz := small_size hf
      have usz := small_size hg
      have e3 := valid7_D t hw (by omega) [] 0 false
      have f3 := valid7_D u hu (by omega) [] 0 false
      cases hv : t.valid with
      | false =>
        rw [hv] at e3
        rw [T.av_eq] at e1 e3 f1 ⊢
        rw [T.av_eq u]
        simp [IP_saturatelaw07_TermtextDiffers, i_saturatelaw07_TermtextDiffers, e1, e3, f1, lives7_D]
      | true =>
        rw [hv] at e3
        cases huv : u.valid with
        | false =>
          rw [huv] at f3
          rw [T.av_eq] at e1 e3 f1 f3 ⊢
          rw [T.av_eq u]
          simp [IP_saturatelaw07_TermtextDiffers, i_saturatelaw07_TermtextDiffers, e1, e3, f1, f3, lives7_D]
        | true =>
          rw [huv] at f3
          have l1 := write_len t hw
          have l2 := write_len u hu
          have e4 := fun q => printT_D t hw (by omega) [] 0 q
          have f4 := fun q => printT_D u hu (by omega) [] 0 q
          have e5 := fun q => same6_D t hw u [] 0 q
          have hs := text_same hw hu hv huv
          rw [← hs] at e5
          simp only [T.av_eq] at e4 f4 e5
          rw [T.av_eq] at e1 e3 f1 f3 ⊢
          rw [T.av_eq u]
          generalize (writeT t).text = a at *
          generalize (writeT u).text = b at *
          simp [IP_saturatelaw07_TermtextDiffers, i_saturatelaw07_TermtextDiffers, e1, e3, f1, f3, e4, f4, e5, lives7_D, lives7_T]
end Go.Proofs.YtkofimhnehkdoaaGreatDoor.Rf
end
