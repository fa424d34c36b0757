/- Print and PrintAll, of the program and of the reference; the reference's weighing. -/
import Derived.Test.YtajlmldpbhendaaRfG7
section
set_option linter.unusedSimpArgs false
set_option linter.unusedVariables false
namespace Go.Proofs.Ytajlmldpbhendaa.Rf

def allText : List S → List UInt8
  | [] => []
  | t :: r => t.text ++ (10 :: allText r)
theorem allText_app : ∀ (l : List S) (t : S), allText (l ++ [t]) = allText l ++ (t.text ++ [10])
  | [], t => by simp [allText]
  | u :: r, t => by simp [allText, allText_app r t]
theorem allText_take {l : List S} {i : Nat} (h : i < l.length) : allText (l.take (i + 1)) = allText (l.take i) ++ (l[i].text ++ [10]) := by
  rw [List.take_succ_eq_append_getElem h, allText_app]
theorem allText_le : ∀ (l : List S) (i : Nat), (allText (l.take i)).length ≤ (allText l).length
  | [], i => by simp
  | x :: r, 0 => by simp [allText]
  | x :: r, i + 1 => by
    have := allText_le r i
    simp only [List.take_succ_cons, allText, List.length_append, List.length_cons]; omega
section
variable {hp : List HObj} {lo : Nat}
theorem B0_fold (hp : List HObj) : hp ++ [.cells 82 [.nilp, .list [] .nil]] = BH hp [] := rfl
theorem print2_D {t : S} (hw : t.wf) (hb : t.text.length ≤ 140737488355328) (q : Bool) : callD G0 IP n_sexpr_Print [t.av] hp lo q = some (.ret (.str t.text) hp) := by
  rw [callD_eq]
  have e1 := write_D t hw (hp := hp) (lo := hp.length) (Nat.le_refl _) [] (by simpa using hb)
  have e2 := bstr_D (hp := hp) (lo := hp.length) (Nat.le_refl _) t.text hb
  rw [S.av_eq] at e1
  simp at e1
  rw [S.av_eq]
  simp [IP_sexpr_Print, i_sexpr_Print, B0_fold, e1, e2]
theorem printAll2_D {l : List S} (hw : ∀ t, t ∈ l → t.wf) (hl : l.length ≤ 9223372036854775807) (hb : (allText l).length ≤ 140737488355328) (o : Own) (q : Bool) : callD G0 IP n_sexpr_PrintAll [.list (S.avs l) o] hp lo q = some (.ret (.str (allText l)) hp) := by
  rw [callD_eq]
  have hloop := loop_iter (G := G0) (IP := IP) (lo := hp.length) (b := l_sexpr_PrintAll_0)
    (fun i => ⟨[(3, .ptr hp.length 0), (6, .list (S.avs l) o), (7, .int .i64 l.length), (8, .int .i64 i)], BH hp (allText (l.take i))⟩) l.length
    (r := (.exit 0, ⟨[(3, .ptr hp.length 0), (6, .list (S.avs l) o), (7, .int .i64 l.length), (8, .int .i64 l.length), (9, .bool false)], BH hp (allText l)⟩)) (fun i hi => by
      have hle := allText_le l (i + 1)
      rw [allText_take hi] at hle
      simp only [List.length_append, List.length_cons, List.length_nil] at hle
      have hw1 := wrap_succ hi hl
      have e1 := write_D l[i] (hw _ (List.getElem_mem hi)) (hp := hp) (lo := hp.length) (Nat.le_refl _) (allText (l.take i)) (by omega)
      have e2 := wbyte_D (hp := hp) (lo := hp.length) (Nat.le_refl _) (allText (l.take i) ++ l[i].text) 10 (by simp; omega)
      rw [S.av_eq] at e1
      rw [allText_take hi, ← hw1]
      simp at e1 e2
      simp [l_sexpr_PrintAll_0, hi, S.av_eq l[i], e1, e2])
    (by simp [l_sexpr_PrintAll_0]) (by simp)
  simp [allText] at hloop
  have e2 := bstr_D (hp := hp) (lo := hp.length) (Nat.le_refl _) (allText l) hb
  simp [IP_sexpr_PrintAll, i_sexpr_PrintAll, B0_fold, e2, hloop]
theorem print1_D (t : S) : t.wf → t.text.length ≤ 140737488355328 → ∀ (hp : List HObj) (lo : Nat) (q : Bool), callD G0 IP n_saturateref05_Print [t.av] hp lo q = some (.ret (.str t.text) hp) := by
  induction t using S.ind with | h t ih =>
  intro hw hb hp lo q
  rw [S.wf_eq] at hw
  obtain ⟨_, hl, _, hws⟩ := hw
  rw [callD_eq]
  have ht := S.text_eq t
  by_cases ha : t.atom = []
  · rw [if_pos ha] at ht
    rw [ht] at hb ⊢
    simp only [List.length_cons, List.length_append, List.length_nil] at hb
    have hloop := loop_iter (G := G0) (IP := IP) (lo := hp.length) (b := l_saturateref05_Print_0)
      (fun i => ⟨[(1, .box [.str t.atom, .list (S.avs t.list) (ownB t.o)]), (3, .str (40 :: S.texts true (t.list.take i))), (4, .int .i64 i)], hp⟩) t.list.length
      (r := (.exit 0, ⟨[(1, .box [.str t.atom, .list (S.avs t.list) (ownB t.o)]), (3, .str (40 :: S.texts true t.list)), (4, .int .i64 t.list.length), (14, .bool false)], hp⟩)) (fun i hi => by
        have hle := texts_le (b := true) t.list (i + 1)
        rw [texts_take_len hi] at hle
        simp only [List.length_append] at hle
        have hw := wrap_succ hi hl
        have hiI : (i : Int) < (t.list.length : Int) := by omega
        have e3 := ih t.list[i] (List.getElem_mem hi) (hws _ (List.getElem_mem hi)) (by omega) hp hp.length false
        rw [S.av_eq] at e3
        by_cases h0 : i = 0
        · subst h0
          rw [texts_take_len hi]
          have hb1 : t.list[0].text.length + 1 ≤ 9223372036854775807 := by omega
          have hb2 : 1 + t.list[0].text.length ≤ 9223372036854775807 := by omega
          simp [l_saturateref05_Print_0, hi, S.av_eq t.list[0], S.texts, e3, hb1, hb2, show IntKind.wrap .i64 1 = 1 from rfl]
        · have h0' : 0 < i := by omega
          have hle2 : ((if true && decide (i = 0) then ([] : List UInt8) else [32])).length = 1 := by simp [h0]
          rw [hle2] at hle
          rw [texts_take_len hi, ← hw]
          have hb1 : (S.texts true (List.take i t.list)).length + 1 + 1 ≤ 9223372036854775807 := by omega
          have hb2 : (S.texts true (List.take i t.list)).length + 1 + 1 + t.list[i].text.length ≤ 9223372036854775807 := by omega
          simp [l_saturateref05_Print_0, hi, hiI, h0, h0', S.av_eq t.list[i], e3, hb1, hb2])
      (by simp [l_saturateref05_Print_0]) (by simp)
    simp [S.texts, ha] at hloop
    have hb3 : (S.texts true t.list).length + 1 + 1 ≤ 9223372036854775807 := by omega
    rw [S.av_eq t]
    simp [IP_saturateref05_Print, i_saturateref05_Print, ha, hloop, hb3]
  · rw [if_neg ha] at ht
    rw [ht]
    rw [S.av_eq t]
    simp [IP_saturateref05_Print, i_saturateref05_Print, ha]
theorem printAll1_D {l : List S} (hw : ∀ t, t ∈ l → t.wf) (hl : l.length ≤ 9223372036854775807) (hb : (allText l).length ≤ 140737488355328) (o : Own) (q : Bool) : callD G0 IP n_saturateref05_PrintAll [.list (S.avs l) o] hp lo q = some (.ret (.str (allText l)) hp) := by
  rw [callD_eq]
  have hloop := loop_iter (G := G0) (IP := IP) (lo := hp.length) (b := l_saturateref05_PrintAll_0)
    (fun i => ⟨[(0, .list (S.avs l) o), (3, .str (allText (l.take i))), (4, .int .i64 i)], hp⟩) l.length
    (r := (.exit 0, ⟨[(0, .list (S.avs l) o), (3, .str (allText l)), (4, .int .i64 l.length), (8, .bool false)], hp⟩)) (fun i hi => by
      have hle := allText_le l (i + 1)
      rw [allText_take hi] at hle
      simp only [List.length_append, List.length_cons, List.length_nil] at hle
      have hw1 := wrap_succ hi hl
      have hiI : (i : Int) < (l.length : Int) := by omega
      have e1 := print1_D l[i] (hw _ (List.getElem_mem hi)) (by omega) hp hp.length false
      rw [S.av_eq] at e1
      rw [allText_take hi, ← hw1]
      have hb1 : l[i].text.length + 1 ≤ 9223372036854775807 := by omega
      have hb2 : (allText (List.take i l)).length + (l[i].text.length + 1) ≤ 9223372036854775807 := by omega
      simp [l_saturateref05_PrintAll_0, hi, hiI, S.av_eq l[i], e1, hb1, hb2])
    (by simp [l_saturateref05_PrintAll_0]) (by simp)
  simp [allText] at hloop
  simp [IP_saturateref05_PrintAll, i_saturateref05_PrintAll, hloop]
end
/-! weighing -/
mutual
def S.weigh : S → Int → Int
  | .mk a _ l, n => S.weighs l (n - 1 - (a.length : Int).tdiv 100)
def S.weighs : List S → Int → Int
  | [], n => n
  | t :: r, n => if 0 ≤ n then S.weighs r (t.weigh n) else n
end
mutual
def S.wt : S → Nat
  | .mk a _ l => 1 + a.length / 100 + S.wts l
def S.wts : List S → Nat
  | [] => 0
  | t :: r => t.wt + S.wts r
end
theorem S.weigh_eq (t : S) (n : Int) : t.weigh n = S.weighs t.list (n - 1 - (t.atom.length : Int).tdiv 100) := by cases t; rfl
theorem S.wt_eq (t : S) : t.wt = 1 + t.atom.length / 100 + S.wts t.list := by cases t; rfl
theorem tdiv100 (n : Nat) : (n : Int).tdiv 100 = ((n / 100 : Nat) : Int) := by rfl
theorem S.weighs_neg : ∀ (l : List S) (n : Int), n < 0 → S.weighs l n = n
  | [], n, _ => rfl
  | t :: r, n, h => by simp only [S.weighs]; rw [if_neg (by omega)]
theorem S.weigh_ge (t : S) : ∀ n : Int, 0 ≤ t.weigh n → t.weigh n = n - t.wt := by
  induction t using S.ind with | h t ih =>
  have hl : ∀ (l : List S), (∀ u, u ∈ l → ∀ n : Int, 0 ≤ u.weigh n → u.weigh n = n - u.wt) → ∀ n : Int, 0 ≤ S.weighs l n → S.weighs l n = n - S.wts l := by
    intro l
    induction l with
    | nil => intro _ n _; simp [S.weighs, S.wts]
    | cons x r ihr =>
      intro h n hn
      simp only [S.weighs] at hn ⊢
      split
      · rename_i h0
        rw [if_pos h0] at hn
        by_cases hx : 0 ≤ x.weigh n
        · rw [ihr (fun u hu => h u (by simp [hu])) _ hn, h x (by simp) n hx]; simp only [S.wts]; omega
        · rw [S.weighs_neg r _ (by omega)] at hn; exact absurd hn hx
      · rename_i h0; rw [if_neg h0] at hn; exact absurd hn h0
  intro n hn
  rw [S.weigh_eq] at hn ⊢
  rw [hl t.list ih _ hn, S.wt_eq, tdiv100]; omega
theorem S.text_len (t : S) : t.text.length + 1 ≤ 200 * t.wt := by
  induction t using S.ind with | h t ih =>
  have hl : ∀ (l : List S) (b : Bool), (∀ u, u ∈ l → u.text.length + 1 ≤ 200 * u.wt) → (S.texts b l).length ≤ 200 * S.wts l := by
    intro l
    induction l with
    | nil => intro b _; simp [S.texts, S.wts]
    | cons x r ihr =>
      intro b h
      have h1 := h x (by simp)
      have h2 := ihr false fun u hu => h u (by simp [hu])
      simp only [S.texts, S.wts, List.length_append]
      have h4 : (if b = true then ([] : List UInt8) else [32]).length ≤ 1 := by cases b <;> simp
      omega
  have h := hl t.list true ih
  rw [S.text_eq, S.wt_eq]
  split
  · simp; omega
  · omega
theorem allText_len : ∀ (l : List S) (n : Nat), (∀ t, t ∈ l → t.wt ≤ n) → (allText l).length ≤ 200 * n * l.length
  | [], n, _ => by simp [allText]
  | t :: r, n, h => by
    have h1 := allText_len r n fun u hu => h u (by simp [hu])
    have h2 := S.text_len t
    have h3 := h t (by simp)
    simp only [allText, List.length_append, List.length_cons, Nat.mul_add, Nat.mul_one]
    have : 200 * t.wt ≤ 200 * n := Nat.mul_le_mul_left _ h3
    omega
section
variable {lo : Nat}
theorem weigh_D (t : S) : t.wf → ∀ (n : Int), 0 ≤ n → n ≤ 1000 → ∀ (hp : List HObj) (lo : Nat) (q : Bool), callD G0 IP n_saturateref05_weigh [t.av, .int .i64 n] hp lo q = some (.ret (.int .i64 (t.weigh n)) hp) := by
  induction t using S.ind with | h t ih =>
  intro hw n h0 h1 hp lo q
  rw [S.wf_eq] at hw
  obtain ⟨hal, hl, _, hws⟩ := hw
  have hloop : ∀ (k i : Nat) (n : Int), i + k = t.list.length → n ≤ 1000 → ∃ j : Int, loopD G0 IP hp.length l_saturateref05_weigh_0 ⟨[(1, .int .i64 n), (2, .box [.str t.atom, .list (S.avs t.list) (ownB t.o)]), (5, .int .i64 i)], hp⟩ =
      some (.exit 0, ⟨[(1, .int .i64 (S.weighs (t.list.drop i) n)), (2, .box [.str t.atom, .list (S.avs t.list) (ownB t.o)]), (5, .int .i64 j), (21, .bool false)], hp⟩) := by
    intro k
    induction k with
    | zero =>
      intro i n hi _
      have hI : ¬ (i : Int) < (t.list.length : Int) := by omega
      refine ⟨i, ?_⟩
      rw [loopD_eq, loopBody, List.drop_eq_nil_of_le (by omega)]
      simp [l_saturateref05_weigh_0, hI, S.weighs]
    | succ k ihk =>
      intro i n hi hn
      have hlt : i < t.list.length := by omega
      have hI : (i : Int) < (t.list.length : Int) := by omega
      rw [List.drop_eq_getElem_cons hlt]
      simp only [S.weighs]
      by_cases hneg : 0 ≤ n
      · have e1 := ih t.list[i] (List.getElem_mem hlt) (hws _ (List.getElem_mem hlt)) n hneg hn hp hp.length false
        have hle : t.list[i].weigh n ≤ 1000 := by
          by_cases hx : 0 ≤ t.list[i].weigh n
          · have := S.weigh_ge _ _ hx; omega
          · omega
        obtain ⟨j, e2⟩ := ihk (i + 1) (t.list[i].weigh n) (by omega) hle
        have hw1 := wrap_succ hlt hl
        rw [S.av_eq] at e1
        refine ⟨j, ?_⟩
        rw [loopD_eq, loopBody, if_pos hneg]
        simp [l_saturateref05_weigh_0, hI, hlt, hneg, S.av_eq t.list[i], e1, hw1]
        exact e2
      · refine ⟨i, ?_⟩
        rw [loopD_eq, loopBody, if_neg hneg]
        simp [l_saturateref05_weigh_0, hI, hlt, hneg]
  have hd : (t.atom.length : Int).tdiv 100 = ((t.atom.length / 100 : Nat) : Int) := tdiv100 _
  have hdl : t.atom.length / 100 ≤ 92233720368547758 := by omega
  obtain ⟨j, e2⟩ := hloop t.list.length 0 (n - 1 - (t.atom.length : Int).tdiv 100) (by omega) (by rw [hd]; omega)
  have hwr : ∀ m : Int, -9223372036854775808 ≤ m → m ≤ 9223372036854775807 → IntKind.wrap .i64 m = m := fun m a b => by
    simp [IntKind.wrap, IntKind.signed, IntKind.bits]; omega
  have w1 : IntKind.wrap .i64 (n - 1) = n - 1 := hwr _ (by omega) (by omega)
  have w2 : IntKind.wrap .i64 ((t.atom.length : Int).tdiv 100) = (t.atom.length : Int).tdiv 100 := by rw [hd]; exact hwr _ (by omega) (by omega)
  have w3 : IntKind.wrap .i64 (n - 1 - (t.atom.length : Int).tdiv 100) = n - 1 - (t.atom.length : Int).tdiv 100 := by rw [hd]; exact hwr _ (by omega) (by omega)
  rw [callD_eq, S.weigh_eq, S.av_eq]
  have he : (t.atom.length : Int).tdiv 100 = (t.atom.length : Int) / 100 := by rw [hd]; omega
  rw [he] at w2 w3 e2 ⊢
  simp at e2
  simp [IP_saturateref05_weigh, i_saturateref05_weigh, w1, w2, w3, e2]
def fewB (t : S) (n : Int) : Bool := decide (0 ≤ t.weigh n)
theorem few_D {t : S} (hw : t.wf) {n : Int} (h0 : 0 ≤ n) (h1 : n ≤ 1000) {hp : List HObj} (q : Bool) : callD G0 IP n_saturateref05_Few [t.av, .int .i64 n] hp lo q = some (.ret (.bool (fewB t n)) hp) := by
  rw [callD_eq]
  have e1 := weigh_D t hw n h0 h1 hp hp.length false
  rw [S.av_eq] at e1 ⊢
  simp [IP_saturateref05_Few, i_saturateref05_Few, e1, fewB]
theorem few_wt {t : S} {n : Int} (h : fewB t n = true) : (t.wt : Int) ≤ n := by
  simp only [fewB, decide_eq_true_eq] at h
  have := S.weigh_ge t n h
  omega
end
end Go.Proofs.Ytajlmldpbhendaa.Rf
end
section
/- What is printed is parsed: the plain law. -/
set_option linter.unusedSimpArgs false
set_option linter.unusedVariables false
namespace Go.Proofs.Ytajlmldpbhendaa.Rf

theorem skipK_fuel (s : List UInt8) : ∀ (n m i : Nat), s.length - i ≤ n → s.length - i ≤ m → skipK s n i = skipK s m i
  | 0, 0, i, _, _ => rfl
  | 0, m + 1, i, h, _ => by simp only [skipK]; rw [if_neg (by omega)]
  | n + 1, 0, i, _, h => by simp only [skipK]; rw [if_neg (by omega)]
  | n + 1, m + 1, i, h1, h2 => by
    simp only [skipK]
    split
    · rename_i hi
      split
      · exact skipK_fuel s n m _ (by omega) (by omega)
      · split
        · rename_i h59
          have hgt : i < comK s (s.length - i) i := by
            obtain ⟨k, hk⟩ : ∃ k, s.length - i = k + 1 := ⟨s.length - i - 1, by omega⟩
            rw [hk]; simp only [comK, h59]
            have := comK_le s k (i + 1)
            simp; omega
          exact skipK_fuel s n m _ (by omega) (by omega)
        · rfl
    · rfl
theorem skipN_end {s : List UInt8} {i : Nat} (h : s.length ≤ i) : skipN s i = i := by
  unfold skipN
  cases hs : s.length with
  | zero => rfl
  | succ n => simp only [skipK]; rw [if_neg (by omega)]
theorem skipN_step {s : List UInt8} {i : Nat} (h : i < s.length) : skipN s i = if blankC (byt s i) then skipN s (i + 1) else if byt s i = 59 then skipN s (comK s (s.length - i) i) else i := by
  have h1 : skipN s i = skipK s (s.length + 1) i := skipK_fuel s _ _ i (by omega) (by omega)
  rw [h1]
  simp only [skipK, if_pos h]
  rfl
theorem byt_app {pre post : List UInt8} {c : UInt8} : byt (pre ++ c :: post) pre.length = (c.toNat : Int) := by
  simp [byt]
/-- a token begins -/
def tokC (c : UInt8) : Bool := !blankC (c.toNat : Int) && !decide ((c.toNat : Int) = 59)
theorem skipN_tok {pre post : List UInt8} {c : UInt8} (h : tokC c = true) : skipN (pre ++ c :: post) pre.length = pre.length := by
  simp only [tokC, Bool.and_eq_true, Bool.not_eq_true', decide_eq_false_iff_not] at h
  rw [skipN_step (by simp), byt_app, h.1]
  simp [h.2]
/-- what is skipped wherever it stands -/
def Gp (g : List UInt8) : Prop := ∀ pre post, skipN (pre ++ (g ++ post)) pre.length = skipN (pre ++ (g ++ post)) (pre.length + g.length)
theorem Gp.nil : Gp [] := fun pre post => by simp
theorem Gp.blank {c : UInt8} (h : blankC (c.toNat : Int) = true) : Gp [c] := fun pre post => by
  have : pre ++ ([c] ++ post) = pre ++ c :: post := by simp
  rw [this, skipN_step (by simp), byt_app, h]; simp
theorem Gp.app {a b : List UInt8} (ha : Gp a) (hb : Gp b) : Gp (a ++ b) := fun pre post => by
  have h1 := ha pre (b ++ post)
  have h2 := hb (pre ++ a) post
  simp only [List.append_assoc, List.length_append] at h1 h2 ⊢
  rw [h1, h2]; congr 1; omega
/-- the end of an atom -/
theorem atomK_all (s : List UInt8) : ∀ (a pre post : List UInt8) (k : Nat), s = pre ++ (a ++ post) → (∀ c, c ∈ a → plainC (c.toNat : Int) = true) → (∀ c r, post = c :: r → plainC (c.toNat : Int) = false) → a.length + post.length = k → atomK s k pre.length = pre.length + a.length
  | [], pre, post, k, hs, ha, hp, hk => by
    cases post with
    | nil => simp at hk; subst hk; rfl
    | cons c r =>
      obtain ⟨k', rfl⟩ : ∃ k', k = k' + 1 := ⟨k - 1, by simp at hk; omega⟩
      have hb : byt s pre.length = (c.toNat : Int) := by rw [hs]; exact byt_app
      simp only [atomK, hb, hp c r rfl]; simp
  | c :: a, pre, post, k, hs, ha, hp, hk => by
    obtain ⟨k', rfl⟩ : ∃ k', k = k' + 1 := ⟨k - 1, by simp at hk; omega⟩
    have hb : byt s pre.length = (c.toNat : Int) := by rw [hs]; exact byt_app
    have ih := atomK_all s a (pre ++ [c]) post k' (by rw [hs]; simp) (fun x hx => ha x (by simp [hx])) hp (by simp at hk; omega)
    simp only [atomK, hb, ha c (by simp), if_true]
    simp at ih
    rw [ih]; simp; omega
theorem plain_tok {c : UInt8} (h : plainC (c.toNat : Int) = true) : tokC c = true ∧ ¬ (c.toNat : Int) = 40 ∧ ¬ (c.toNat : Int) = 41 := by
  simp only [plainC, Bool.and_eq_true, decide_eq_true_eq, Bool.not_eq_true', decide_eq_false_iff_not] at h
  obtain ⟨h1, h2, h3, h4, h5⟩ := h
  refine ⟨?_, h3, h4⟩
  simp only [tokC, blankC, Bool.and_eq_true, Bool.not_eq_true', decide_eq_false_iff_not, Bool.or_eq_false_iff]
  exact ⟨⟨by omega, by omega, by omega, by omega⟩, h5⟩

/-! texts of an s-expression, with whatever may be skipped between its tokens -/
mutual
inductive Enc : S → List UInt8 → Prop
  | atom {a : List UInt8} {o : Bool} : a ≠ [] → (∀ c, c ∈ a → plainC (c.toNat : Int) = true) → Enc (.mk a o []) a
  | list {o : Bool} {l : List S} {b : List UInt8} : EncL l b → Enc (.mk [] o l) (40 :: (b ++ [41]))
inductive EncL : List S → List UInt8 → Prop
  | nil {g : List UInt8} : Gp g → EncL [] g
  | cons {g e b : List UInt8} {t : S} {r : List S} : Gp g → Enc t e → EncL r b → (t.atom ≠ [] → ∀ c r, b = c :: r → plainC (c.toNat : Int) = false) → EncL (t :: r) (g ++ (e ++ b))
end
mutual
def S.depth : S → Nat
  | .mk a _ l => if a = [] then S.depths l + 1 else 1
def S.depths : List S → Nat
  | [] => 0
  | t :: r => max t.depth (S.depths r)
end
theorem S.depth_eq (t : S) : t.depth = if t.atom = [] then S.depths t.list + 1 else 1 := by cases t; rfl
theorem S.sames_app : ∀ (a b : List S) (x y : S), S.sames a b = true → x.same y = true → S.sames (a ++ [x]) (b ++ [y]) = true
  | [], [], x, y, _, h => by simp [S.sames, h]
  | t :: r, u :: s, x, y, h, k => by
    simp only [S.sames, Bool.and_eq_true] at h
    simp only [List.cons_append, S.sames, Bool.and_eq_true]
    exact ⟨h.1, S.sames_app r s x y h.2 k⟩
  | [], _ :: _, _, _, h, _ => by simp [S.sames] at h
  | _ :: _, [], _, _, h, _ => by simp [S.sames] at h
theorem Enc.head {t : S} {e : List UInt8} (h : Enc t e) : ∃ c r, e = c :: r ∧ tokC c = true ∧ ¬ (c.toNat : Int) = 41 := by
  cases h with
  | atom h1 h2 =>
    cases e with
    | nil => exact absurd rfl h1
    | cons c r => exact ⟨c, r, rfl, (plain_tok (h2 c (by simp))).1, (plain_tok (h2 c (by simp))).2.2⟩
  | list h1 => exact ⟨40, _, rfl, by decide, by decide⟩
theorem enc_both (n : Nat) : (∀ (t : S) (e pre post : List UInt8) (d : Nat), Enc t e → t.depth + d ≤ 64 → (t.atom ≠ [] → ∀ c r, post = c :: r → plainC (c.toNat : Int) = false) → 2 * (e.length + post.length) ≤ n →
      ∃ x, pOne (pre ++ (e ++ post)) n pre.length d = .ok x (pre.length + e.length) ∧ x.same t = true) ∧
    (∀ (l : List S) (b pre post : List UInt8) (d : Nat) (acc base : List S), EncL l b → S.depths l + d + 1 ≤ 64 → S.sames acc base = true → 2 * (b.length + (post.length + 1)) + 1 ≤ n →
      ∃ acc', pLoop (pre ++ (b ++ (41 :: post))) n (skipN (pre ++ (b ++ (41 :: post))) pre.length) d acc = .stop (pre.length + b.length) acc' ∧ S.sames acc' (base ++ l) = true) := by
  induction n with
  | zero =>
    refine ⟨fun t e pre post d he _ _ hn => ?_, fun l b pre post d acc base _ _ _ hn => absurd hn (by omega)⟩
    obtain ⟨c, r, rfl, _⟩ := he.head
    simp at hn
    omega
  | succ n ih =>
    obtain ⟨ih1, ih2⟩ := ih
    refine ⟨fun t e pre post d he hd hp hn => ?_, fun l b pre post d acc base hl hd hs hn => ?_⟩
    · cases he with
      | atom h1 h2 =>
        rename_i o
        cases hee : e with
        | nil => exact absurd hee h1
        | cons c r =>
          have hb : byt (pre ++ (e ++ post)) pre.length = (c.toNat : Int) := by rw [hee]; exact byt_app
          obtain ⟨k1, k2, k3⟩ := plain_tok (h2 c (by rw [hee]; simp))
          have hpl := h2 c (by rw [hee]; simp)
          have ha := atomK_all (pre ++ (e ++ post)) e pre post (e.length + post.length) rfl h2 (hp h1) rfl
          have hd' : ¬ d ≥ 64 := by
            have : (S.mk e o []).depth = 1 := by simp [S.depth, h1]
            rw [this] at hd; omega
          have hN : atomN (pre ++ (e ++ post)) pre.length = pre.length + e.length := by
            unfold atomN
            rw [show (pre ++ (e ++ post)).length - pre.length = e.length + post.length by simp]
            exact ha
          rw [← hee]
          refine ⟨.mk (((pre ++ (e ++ post)).take (pre.length + e.length)).drop pre.length) true [], ?_, ?_⟩
          · simp only [pOne, hb, if_neg k2, hpl, if_true, if_neg hd', hN]
          · simp [S.same, S.sames, List.take_append]
      | list h1 =>
        rename_i o l b
        have hb : byt (pre ++ ((40 :: (b ++ [41])) ++ post)) pre.length = ((40 : UInt8).toNat : Int) := byt_app
        have hd0 : S.depths l + 1 + d ≤ 64 := by rw [S.depth_eq] at hd; simpa [S.atom, S.list] using hd
        have hd' : ¬ d ≥ 64 := by omega
        have e0 : pre ++ ((40 :: (b ++ [41])) ++ post) = (pre ++ [40]) ++ (b ++ (41 :: post)) := by simp
        obtain ⟨acc', e1, e2⟩ := ih2 l b (pre ++ [40]) post d [] [] h1 (by omega) rfl (by simp at hn ⊢; omega)
        have hlen : (pre ++ [40]).length = pre.length + 1 := by simp
        rw [← e0, hlen] at e1
        have hne : ¬ pre.length + 1 + b.length = (pre ++ ((40 :: (b ++ [41])) ++ post)).length := by simp; omega
        refine ⟨.mk [] acc'.isEmpty acc', ?_, ?_⟩
        · simp only [pOne, hb, show (((40 : UInt8).toNat : Int) = 40) from rfl, if_true, if_neg hd', e1, if_neg hne]
          simp; omega
        · simp only [List.nil_append] at e2
          simp [S.same, e2]
    · cases hl with
      | nil hg =>
        have h1 := hg pre (41 :: post)
        have h2 := skipN_tok (pre := pre ++ b) (post := post) (c := 41) (by decide)
        rw [List.append_assoc, List.length_append] at h2
        rw [h1, h2]
        have hb : byt (pre ++ (b ++ 41 :: post)) (pre.length + b.length) = ((41 : UInt8).toNat : Int) := by
          have := byt_app (pre := pre ++ b) (post := post) (c := 41)
          rwa [List.append_assoc, List.length_append] at this
        refine ⟨acc, ?_, by simpa using hs⟩
        simp only [pLoop, hb]
        rw [if_pos (by simp), if_pos (show ((41 : UInt8).toNat : Int) = 41 from rfl)]
      | cons hg he hr hsep =>
        rename_i g e b t r
        obtain ⟨c, er, hce, k1, k2⟩ := he.head
        have e0 : pre ++ ((g ++ (e ++ b)) ++ (41 :: post)) = (pre ++ g) ++ (e ++ (b ++ (41 :: post))) := by simp
        have h1 := hg pre (e ++ (b ++ (41 :: post)))
        have e0' : pre ++ (g ++ (e ++ (b ++ (41 :: post)))) = (pre ++ g) ++ (e ++ (b ++ (41 :: post))) := by simp
        rw [e0'] at h1
        have h2 : skipN ((pre ++ g) ++ (e ++ (b ++ (41 :: post)))) (pre ++ g).length = (pre ++ g).length := by
          rw [hce]; exact skipN_tok k1
        rw [List.length_append] at h2
        rw [e0, h1, h2]
        have hb : byt ((pre ++ g) ++ (e ++ (b ++ (41 :: post)))) (pre.length + g.length) = (c.toNat : Int) := by
          rw [hce]
          have := byt_app (pre := pre ++ g) (post := er ++ (b ++ (41 :: post))) (c := c)
          rwa [List.length_append] at this
        simp only [S.depths] at hd
        obtain ⟨x, e1, e2⟩ := ih1 t e (pre ++ g) (b ++ (41 :: post)) (d + 1) he (by omega) (fun ha c r hc => by
          cases b with
          | nil => simp at hc; rw [← hc.1]; rfl
          | cons c' b' => simp at hc; rw [← hc.1]; exact hsep ha c' b' rfl) (by simp at hn ⊢; omega)
        rw [List.length_append] at e1
        have hce' : 1 ≤ e.length := by rw [hce]; simp
        obtain ⟨acc', e3, e4⟩ := ih2 r b ((pre ++ g) ++ e) post d (acc ++ [x]) (base ++ [t]) hr (by omega) (S.sames_app _ _ _ _ hs e2) (by simp at hn ⊢; omega)
        have e5 : ((pre ++ g) ++ e) ++ (b ++ (41 :: post)) = (pre ++ g) ++ (e ++ (b ++ (41 :: post))) := by simp
        rw [e5, List.length_append, List.length_append] at e3
        refine ⟨acc', ?_, by simpa using e4⟩
        simp only [pLoop, hb]
        rw [if_pos (by simp; omega), if_neg k2, e1]
        simp only
        rw [e3]; simp; omega
end Go.Proofs.Ytajlmldpbhendaa.Rf
end
section
/- Valid, right, Depth. -/
set_option linter.unusedSimpArgs false
set_option linter.unusedVariables false
namespace Go.Proofs.Ytajlmldpbhendaa.Rf

def allPlain (a : List UInt8) : Bool := a.all fun c => plainC (c.toNat : Int)
mutual
def S.right : S → Bool
  | .mk a _ l => if a = [] then S.rights l else l.isEmpty && allPlain a
def S.rights : List S → Bool
  | [] => true
  | t :: r => t.right && S.rights r
end
mutual
def S.valid : S → Nat → Bool
  | .mk a _ l, d => decide (d < 64) && (if a = [] then S.valids l (d + 1) else allPlain a && l.isEmpty)
def S.valids : List S → Nat → Bool
  | [], _ => true
  | t :: r, d => t.valid d && S.valids r d
end
theorem S.right_eq (t : S) : t.right = if t.atom = [] then S.rights t.list else t.list.isEmpty && allPlain t.atom := by cases t; rfl
theorem S.valid_eq (t : S) (d : Nat) : t.valid d = (decide (d < 64) && (if t.atom = [] then S.valids t.list (d + 1) else allPlain t.atom && t.list.isEmpty)) := by cases t; rfl
theorem S.rights_any : ∀ l : List S, S.rights l = !(List.range l.length).any fun i => !(l.getD i (.mk [] true [])).right
  | [] => rfl
  | t :: r => by
    rw [S.rights, S.rights_any r, List.length_cons, List.range_succ_eq_map]
    simp [List.any_map, Function.comp_def]
theorem S.valids_any (d : Nat) : ∀ l : List S, S.valids l d = !(List.range l.length).any fun i => !(l.getD i (.mk [] true [])).valid d
  | [] => rfl
  | t :: r => by
    rw [S.valids, S.valids_any d r, List.length_cons, List.range_succ_eq_map]
    simp [List.any_map, Function.comp_def]
theorem S.rights_iff : ∀ l : List S, S.rights l = true ↔ ∀ t, t ∈ l → t.right = true
  | [] => by simp [S.rights]
  | t :: r => by simp [S.rights, S.rights_iff r]
theorem S.valid_iff (t : S) : ∀ d, t.valid d = (t.right && decide (t.depth + d ≤ 64)) := by
  induction t using S.ind with | h t ih =>
  have hl : ∀ (l : List S), (∀ u, u ∈ l → ∀ d, u.valid d = (u.right && decide (u.depth + d ≤ 64))) → ∀ d, S.valids l d = (S.rights l && decide (S.depths l + d ≤ 64 ∨ l = [])) := by
    intro l
    induction l with
    | nil => intro _ d; simp [S.valids, S.rights]
    | cons x r ihr =>
      intro h d
      rw [S.valids, S.rights, h x (by simp), ihr (fun u hu => h u (by simp [hu]))]
      have hx : 1 ≤ x.depth := by rw [S.depth_eq]; split <;> omega
      cases hr : r with
      | nil => simp [S.rights, S.depths]
      | cons y s =>
        rw [← hr]
        have hne : r ≠ [] := by rw [hr]; simp
        simp only [S.depths, hne, or_false, reduceCtorEq]
        cases x.right <;> cases S.rights r <;> simp
        rw [← Bool.decide_and, decide_eq_decide]; omega
  intro d
  rw [S.valid_eq, S.right_eq, S.depth_eq]
  by_cases ha : t.atom = []
  · simp only [if_pos ha]
    rw [hl t.list ih (d + 1)]
    cases hle : t.list with
    | nil => simp [S.rights, S.depths]; omega
    | cons y s =>
      rw [← hle]
      have hne : t.list ≠ [] := by rw [hle]; simp
      simp only [hne, or_false]
      cases S.rights t.list
      · simp
      · simp only [Bool.true_and]
        rw [← Bool.decide_and, decide_eq_decide]; omega
  · simp only [if_neg ha]
    cases allPlain t.atom <;> cases t.list.isEmpty <;> simp <;> omega
theorem atomK_lt (s : List UInt8) : ∀ (k i : Nat), i + k = s.length → (atomK s k i = s.length ↔ ∀ j, i ≤ j → j < s.length → plainC (byt s j) = true)
  | 0, i, h => by simp [atomK]; exact ⟨fun _ j h1 h2 => absurd h2 (by omega), fun _ => by omega⟩
  | k + 1, i, h => by
    simp only [atomK]
    cases hc : plainC (byt s i)
    · simp
      exact ⟨fun e => absurd e (by omega), fun hh => by have := hh i (Nat.le_refl _) (by omega); rw [hc] at this; cases this⟩
    · simp only [if_true]
      rw [atomK_lt s k (i + 1) (by omega)]
      exact ⟨fun hh j h1 h2 => by
        by_cases e : i = j
        · subst e; exact hc
        · exact hh j (by omega) h2, fun hh j h1 h2 => hh j (by omega) h2⟩
theorem atomN_all (a : List UInt8) : decide (atomN a 0 = a.length) = allPlain a := by
  have h := atomK_lt a a.length 0 (by omega)
  have e : (atomN a 0 = a.length) ↔ allPlain a = true := by
    unfold atomN
    rw [Nat.sub_zero, h]
    simp only [allPlain, List.all_eq_true]
    constructor
    · intro hh c hc
      obtain ⟨i, hi, rfl⟩ := List.getElem_of_mem hc
      have := hh i (Nat.zero_le _) hi
      simpa [byt, hi] using this
    · intro hh j _ hj
      have := hh a[j] (List.getElem_mem hj)
      simpa [byt, hj] using this
  cases hc : allPlain a
  · simp; rw [e, hc]; simp
  · simp; rw [e, hc]
section
variable {hp : List HObj} {lo : Nat}
theorem right_D (t : S) : t.wf → ∀ (hp : List HObj) (lo : Nat) (q : Bool), callD G0 IP n_saturateref05_right [t.av] hp lo q = some (.ret (.bool t.right) hp) := by
  induction t using S.ind with | h t ih =>
  intro hw hp lo q
  rw [S.wf_eq] at hw
  obtain ⟨hal, hl, _, hws⟩ := hw
  rw [callD_eq, S.right_eq, S.av_eq]
  by_cases ha : t.atom = []
  · have hloop := loop_find (G := G0) (IP := IP) (lo := hp.length) (b := l_saturateref05_right_0)
      (fun i => ⟨[(1, .box [.str t.atom, .list (S.avs t.list) (ownB t.o)]), (3, .int .i64 i)], hp⟩) t.list.length (fun i => !(t.list.getD i (.mk [] true [])).right)
      (.ret, ⟨[(2, .bool false)], hp⟩) (.exit 0, ⟨[(1, .box [.str t.atom, .list (S.avs t.list) (ownB t.o)]), (3, .int .i64 t.list.length), (24, .bool false)], hp⟩)
      (fun i hi hp1 => by
        have e1 := ih t.list[i] (List.getElem_mem hi) (hws _ (List.getElem_mem hi)) hp hp.length false
        have h2 : t.list[i].right = true := by simpa [hi] using hp1
        rw [h2, S.av_eq] at e1
        have hiI : (i : Int) < (t.list.length : Int) := by omega
        have hw := wrap_succ hi hl
        simp [l_saturateref05_right_0, hi, hiI, S.av_eq t.list[i], e1, hw])
      (fun i hi hp1 => by
        have e1 := ih t.list[i] (List.getElem_mem hi) (hws _ (List.getElem_mem hi)) hp hp.length false
        have h2 : t.list[i].right = false := by simpa [hi] using hp1
        rw [h2, S.av_eq] at e1
        have hiI : (i : Int) < (t.list.length : Int) := by omega
        simp [l_saturateref05_right_0, hi, hiI, S.av_eq t.list[i], e1])
      (fun s => by simp) (by simp [l_saturateref05_right_0]) (fun s => by simp)
    simp only [Int.natCast_zero, ha] at hloop
    rw [if_pos ha, S.rights_any]
    cases hany : (List.range t.list.length).any fun i => !(t.list.getD i (.mk [] true [])).right
    · rw [hany] at hloop
      simp only [Bool.false_eq_true, if_false] at hloop
      simp [IP_saturateref05_right, i_saturateref05_right, ha, hloop]
    · rw [hany] at hloop
      simp only [if_true] at hloop
      simp [IP_saturateref05_right, i_saturateref05_right, ha, hloop]
  · rw [if_neg ha]
    have e1 : callD G0 IP n_saturateref05_atom [.str t.atom, .int .i64 0] hp hp.length true = some (.ret (.int .i64 (atomN t.atom 0)) hp) := atom1_D hal 0 (by omega) true
    have e2 := atomN_all t.atom
    by_cases hle : t.list = []
    · have e3 : decide ((atomN t.atom 0 : Int) = (t.atom.length : Int)) = allPlain t.atom := by rw [← e2]; exact decide_eq_decide.2 (by omega)
      simp [IP_saturateref05_right, i_saturateref05_right, ha, hle, e1, e3]
    · have h0 : ¬ (t.list.length : Int) = 0 := by intro h; exact hle (List.length_eq_zero_iff.1 (by omega))
      simp [IP_saturateref05_right, i_saturateref05_right, ha, hle, h0]
end
end Go.Proofs.Ytajlmldpbhendaa.Rf
end
section
/- Valid of the program and of the reference. -/
set_option linter.unusedSimpArgs false
set_option linter.unusedVariables false
namespace Go.Proofs.Ytajlmldpbhendaa.Rf

theorem S.depth_pos (t : S) : 1 ≤ t.depth := by rw [S.depth_eq]; split <;> omega
theorem S.depth_wt (t : S) : t.depth ≤ t.wt := by
  induction t using S.ind with | h t ih =>
  have hl : ∀ (l : List S), (∀ u, u ∈ l → u.depth ≤ u.wt) → S.depths l ≤ S.wts l := by
    intro l
    induction l with
    | nil => intro _; simp [S.depths, S.wts]
    | cons x r ihr =>
      intro h
      have h1 := h x (by simp)
      have h2 := ihr fun u hu => h u (by simp [hu])
      simp only [S.depths, S.wts]; omega
  have := hl t.list ih
  rw [S.depth_eq, S.wt_eq]; split <;> omega
theorem S.depths_app : ∀ (l : List S) (t : S), S.depths (l ++ [t]) = max (S.depths l) t.depth
  | [], t => by simp [S.depths]
  | x :: r, t => by simp only [List.cons_append, S.depths, S.depths_app r t]; omega
theorem S.depths_take {l : List S} {i : Nat} (h : i < l.length) : S.depths (l.take (i + 1)) = max (S.depths (l.take i)) l[i].depth := by
  rw [List.take_succ_eq_append_getElem h, S.depths_app]
theorem S.wts_mem : ∀ (l : List S) (t : S), t ∈ l → t.wt ≤ S.wts l
  | [], t, h => by simp at h
  | x :: r, t, h => by
    simp only [S.wts]
    rcases List.mem_cons.1 h with rfl | h
    · omega
    · have := S.wts_mem r t h; omega
section
variable {hp : List HObj} {lo : Nat}
theorem depth1_D (t : S) : t.wf → t.wt ≤ 1000000 → ∀ (hp : List HObj) (lo : Nat) (q : Bool), callD G0 IP n_saturateref05_Depth [t.av] hp lo q = some (.ret (.int .i64 t.depth) hp) := by
  induction t using S.ind with | h t ih =>
  intro hw hwt hp lo q
  rw [S.wf_eq] at hw
  obtain ⟨hal, hl, _, hws⟩ := hw
  have hwt2 := hwt
  rw [S.wt_eq] at hwt2
  rw [callD_eq, S.av_eq]
  have hd := S.depth_eq t
  by_cases ha : t.atom = []
  · rw [if_pos ha] at hd
    have hdw := S.depth_wt t
    have hloop := loop_iter (G := G0) (IP := IP) (lo := hp.length) (b := l_saturateref05_Depth_0)
      (fun i => ⟨[(1, .box [.str t.atom, .list (S.avs t.list) (ownB t.o)]), (3, .int .i64 (S.depths (t.list.take i))), (4, .int .i64 i)], hp⟩) t.list.length
      (r := (.exit 0, ⟨[(1, .box [.str t.atom, .list (S.avs t.list) (ownB t.o)]), (3, .int .i64 (S.depths t.list)), (4, .int .i64 t.list.length), (12, .bool false)], hp⟩)) (fun i hi => by
        have hm := S.wts_mem t.list t.list[i] (List.getElem_mem hi)
        have e1 := ih t.list[i] (List.getElem_mem hi) (hws _ (List.getElem_mem hi)) (by omega) hp hp.length false
        rw [S.av_eq] at e1
        have hiI : (i : Int) < (t.list.length : Int) := by omega
        have hw := wrap_succ hi hl
        have hmx : (if (t.list[i].depth : Int) > (S.depths (t.list.take i) : Int) then (t.list[i].depth : Int) else (S.depths (t.list.take i) : Int)) = ((S.depths (t.list.take (i + 1)) : Nat) : Int) := by
          rw [S.depths_take hi]; split <;> omega
        rw [← hmx, ← hw]
        simp [l_saturateref05_Depth_0, hi, hiI, S.av_eq t.list[i], e1])
      (by simp [l_saturateref05_Depth_0]) (by simp)
    have hw2 : IntKind.wrap .i64 ((S.depths t.list : Int) + 1) = (S.depths t.list : Int) + 1 := wrap_small (by omega) (by omega)
    simp [S.depths, ha] at hloop
    simp [IP_saturateref05_Depth, i_saturateref05_Depth, ha, hloop, hw2, hd]
  · rw [if_neg ha] at hd
    simp [IP_saturateref05_Depth, i_saturateref05_Depth, ha, hd, show IntKind.wrap .i64 1 = 1 from rfl]
def S.okB (t : S) : Bool := t.right && decide (t.depth ≤ 64)
theorem valid1_D {t : S} (hw : t.wf) (hwt : t.wt ≤ 1000000) (q : Bool) : callD G0 IP n_saturateref05_Valid [t.av] hp lo q = some (.ret (.bool t.okB) hp) := by
  rw [callD_eq]
  have e1 := right_D t hw hp hp.length false
  have e2 := depth1_D t hw hwt hp hp.length false
  rw [S.av_eq] at e1 e2 ⊢
  have e3 : decide ((t.depth : Int) ≤ 64) = decide (t.depth ≤ 64) := decide_eq_decide.2 (by omega)
  cases hr : t.right
  · rw [hr] at e1
    simp [IP_saturateref05_Valid, i_saturateref05_Valid, e1, S.okB, hr]
  · rw [hr] at e1
    simp [IP_saturateref05_Valid, i_saturateref05_Valid, e1, e2, S.okB, hr]
    omega
theorem plain_any (a : List UInt8) : allPlain a = !(List.range a.length).any fun i => !plainC (byt a i) := by
  induction a with
  | nil => rfl
  | cons c r ih =>
    rw [allPlain, List.all_cons, show (r.all fun c => plainC (c.toNat : Int)) = allPlain r from rfl, ih, List.length_cons, List.range_succ_eq_map]
    simp [List.any_map, Function.comp_def, byt]
theorem valid2_D (t : S) : t.wf → ∀ (d : Nat), d ≤ 64 → ∀ (hp : List HObj) (lo : Nat) (q : Bool), callD G0 IP n_sexpr_valid [t.av, .int .i64 d] hp lo q = some (.ret (.bool (t.valid d)) hp) := by
  induction t using S.ind with | h t ih =>
  intro hw d hd hp lo q
  rw [S.wf_eq] at hw
  obtain ⟨hal, hl, _, hws⟩ := hw
  have hwd : IntKind.wrap .i64 ((d : Int) + 1) = (d : Int) + 1 := wrap_small (by omega) (by omega)
  rw [callD_eq, S.valid_eq, S.av_eq]
  by_cases h64 : d < 64
  · have h1 : ¬ (64 : Int) < (d : Int) + 1 := by omega
    simp only [h64, decide_true, Bool.true_and]
    by_cases ha : t.atom = []
    · have hloop := loop_find (G := G0) (IP := IP) (lo := hp.length) (b := l_sexpr_valid_1)
        (fun i => ⟨[(1, .int .i64 d), (32, .list (S.avs t.list) (ownB t.o)), (33, .int .i64 t.list.length), (34, .int .i64 i)], hp⟩) t.list.length (fun i => !(t.list.getD i (.mk [] true [])).valid (d + 1))
        (.ret, ⟨[(4, .bool false)], hp⟩) (.exit 2, ⟨[(1, .int .i64 d), (32, .list (S.avs t.list) (ownB t.o)), (33, .int .i64 t.list.length), (34, .int .i64 t.list.length), (35, .bool false)], hp⟩)
        (fun i hi hp1 => by
          have e1 : callD G0 IP n_sexpr_valid [t.list[i].av, .int .i64 ((d : Int) + 1)] hp hp.length false = _ := ih t.list[i] (List.getElem_mem hi) (hws _ (List.getElem_mem hi)) (d + 1) (by omega) hp hp.length false
          have h2 : t.list[i].valid (d + 1) = true := by simpa [hi] using hp1
          rw [h2, S.av_eq] at e1
          have hw := wrap_succ hi hl
          simp [l_sexpr_valid_1, hi, S.av_eq t.list[i], e1, hw, hwd])
        (fun i hi hp1 => by
          have e1 : callD G0 IP n_sexpr_valid [t.list[i].av, .int .i64 ((d : Int) + 1)] hp hp.length false = _ := ih t.list[i] (List.getElem_mem hi) (hws _ (List.getElem_mem hi)) (d + 1) (by omega) hp hp.length false
          have h2 : t.list[i].valid (d + 1) = false := by simpa [hi] using hp1
          rw [h2, S.av_eq] at e1
          simp [l_sexpr_valid_1, hi, S.av_eq t.list[i], e1, hwd])
        (fun s => by simp) (by simp [l_sexpr_valid_1]) (fun s => by simp)
      simp only [Int.natCast_zero] at hloop
      rw [if_pos ha, S.valids_any]
      cases hany : (List.range t.list.length).any fun i => !(t.list.getD i (.mk [] true [])).valid (d + 1)
      · rw [hany] at hloop
        simp only [Bool.false_eq_true, if_false] at hloop
        simp [IP_sexpr_valid, i_sexpr_valid, ha, hloop, hwd, h1]
      · rw [hany] at hloop
        simp only [if_true] at hloop
        simp [IP_sexpr_valid, i_sexpr_valid, ha, hloop, hwd, h1]
    · have hloop := loop_find (G := G0) (IP := IP) (lo := hp.length) (b := l_sexpr_valid_0)
        (fun i => ⟨[(2, .box [.str t.atom, .list (S.avs t.list) (ownB t.o)]), (16, .int .i64 t.atom.length), (17, .int .i64 i)], hp⟩) t.atom.length (fun i => !plainC (byt t.atom i))
        (.ret, ⟨[(4, .bool false)], hp⟩) (.exit 0, ⟨[(2, .box [.str t.atom, .list (S.avs t.list) (ownB t.o)]), (16, .int .i64 t.atom.length), (17, .int .i64 t.atom.length), (18, .bool false)], hp⟩)
        (fun i hi hp1 => by
          obtain ⟨c, h2, hb⟩ := byt_some (s := t.atom) (i := i) hi
          have h3 : plainC (c.toNat : Int) = true := by rw [← hb]; simpa using hp1
          have hw := wrap_succ hi hal
          have hiI : (i : Int) < (t.atom.length : Int) := by omega
          simp [l_sexpr_valid_0, hiI, h2, h3, plain2_D, hw])
        (fun i hi hp1 => by
          obtain ⟨c, h2, hb⟩ := byt_some (s := t.atom) (i := i) hi
          have h3 : plainC (c.toNat : Int) = false := by rw [← hb]; simpa using hp1
          have hiI : (i : Int) < (t.atom.length : Int) := by omega
          simp [l_sexpr_valid_0, hiI, h2, h3, plain2_D])
        (fun s => by simp) (by simp [l_sexpr_valid_0]) (fun s => by simp)
      simp only [Int.natCast_zero] at hloop
      rw [if_neg ha, plain_any]
      cases hany : (List.range t.atom.length).any fun i => !plainC (byt t.atom i)
      · rw [hany] at hloop
        simp only [Bool.false_eq_true, if_false] at hloop
        have h4 : decide ((t.list.length : Int) = 0) = t.list.isEmpty := by cases t.list <;> simp; omega
        simp [IP_sexpr_valid, i_sexpr_valid, ha, hloop, hwd, h1]
        cases t.list <;> simp
      · rw [hany] at hloop
        simp only [if_true] at hloop
        simp [IP_sexpr_valid, i_sexpr_valid, ha, hloop, hwd, h1]
  · have h1 : (64 : Int) < (d : Int) + 1 := by omega
    simp [IP_sexpr_valid, i_sexpr_valid, h64, hwd, h1]
theorem validT_D {t : S} (hw : t.wf) (q : Bool) : callD G0 IP n_sexpr_Valid [t.av] hp lo q = some (.ret (.bool t.okB) hp) := by
  rw [callD_eq]
  have e1 : callD G0 IP n_sexpr_valid [t.av, .int .i64 0] hp hp.length false = _ := valid2_D t hw 0 (by omega) hp hp.length false
  rw [S.valid_iff t 0, S.av_eq] at e1
  rw [S.av_eq]
  simp [IP_sexpr_Valid, i_sexpr_Valid, e1, S.okB]
end
end Go.Proofs.Ytajlmldpbhendaa.Rf
end
section
/- Printing and parsing undo one another. -/
set_option linter.unusedSimpArgs false
set_option linter.unusedVariables false
namespace Go.Proofs.Ytajlmldpbhendaa.Rf

theorem top_enc (s : List UInt8) : ∀ (l : List S) (b pre : List UInt8) (acc base : List S) (st : List Nat) (n : Nat), EncL l b → (∀ t, t ∈ l → t.depth ≤ 64) → S.sames acc base = true → s = pre ++ b → b.length < n →
    ∃ acc' st', pTop s n (skipN s pre.length) acc st = .ok acc' st' ∧ S.sames acc' (base ++ l) = true
  | l, b, pre, acc, base, st, 0, _, _, _, _, hn => absurd hn (by omega)
  | l, b, pre, acc, base, st, n + 1, he, hd, hs, hsb, hn => by
    cases he with
    | nil hg =>
      have h1 := hg pre []
      simp only [List.append_nil] at h1
      rw [← hsb] at h1
      have h2 : skipN s (pre.length + b.length) = pre.length + b.length := skipN_end (by rw [hsb]; simp)
      refine ⟨acc, st, ?_, by simpa using hs⟩
      simp only [pTop]
      rw [h1, h2, if_neg (by rw [hsb]; simp)]
    | cons hg he hr hsep =>
      rename_i g e b t r
      obtain ⟨c, er, hce, k1, k2⟩ := he.head
      have e0 : s = (pre ++ g) ++ (e ++ b) := by rw [hsb]; simp
      have h1 := hg pre (e ++ b)
      rw [← hsb] at h1
      have h2 : skipN s (pre.length + g.length) = pre.length + g.length := by
        have := skipN_tok (pre := pre ++ g) (post := er ++ b) (c := c) k1
        rw [List.length_append] at this
        rwa [show (pre ++ g) ++ c :: (er ++ b) = s by rw [e0, hce]; simp] at this
      obtain ⟨x, e1, e2⟩ := (enc_both (2 * s.length)).1 t e (pre ++ g) b 0 he (by have := hd t (by simp); omega) hsep (by rw [e0]; simp; omega)
      rw [← e0, List.length_append] at e1
      obtain ⟨acc', st', e3, e4⟩ := top_enc s r b ((pre ++ g) ++ e) (acc ++ [x]) (base ++ [t]) (st ++ [pre.length + g.length]) n hr (fun u hu => hd u (by simp [hu])) (S.sames_app _ _ _ _ hs e2) (by rw [e0]; simp) (by rw [hce] at hn; simp at hn; omega)
      rw [List.length_append, List.length_append] at e3
      refine ⟨acc', st', ?_, by simpa using e4⟩
      simp only [pTop]
      rw [h1, h2, if_pos (by rw [e0, hce]; simp), e1]
      exact e3
theorem pAll_enc {l : List S} {b : List UInt8} (he : EncL l b) (hd : ∀ t, t ∈ l → t.depth ≤ 64) (hb : b.length ≤ 65536) : ∃ l' st, pAll b = .ok l' st ∧ S.sames l' l = true := by
  obtain ⟨l', st, h1, h2⟩ := top_enc b l b [] [] [] [] (b.length + 1) he hd rfl rfl (by omega)
  refine ⟨l', st, ?_, by simpa using h2⟩
  unfold pAll
  rw [if_neg (by omega)]
  exact h1
theorem sames_one {l : List S} {t : S} (h : S.sames l [t] = true) : ∃ x, l = [x] ∧ x.same t = true := by
  match l, h with
  | [x], h => exact ⟨x, rfl, by simpa [S.sames] using h⟩
  | [], h => simp [S.sames] at h
  | x :: y :: r, h => simp [S.sames] at h
theorem enc_text (t : S) : t.right = true → Enc t t.text := by
  induction t using S.ind with | h t ih =>
  intro hr
  have hl : ∀ (l : List S) (b : Bool), (∀ u, u ∈ l → Enc u u.text) → EncL l (S.texts b l) := by
    intro l
    induction l with
    | nil => intro b _; exact .nil Gp.nil
    | cons x r ihr =>
      intro b h
      refine .cons ?_ (h x (by simp)) (ihr false fun u hu => h u (by simp [hu])) ?_
      · cases b
        · exact Gp.blank (by decide)
        · exact Gp.nil
      · intro _ c r' hc
        cases r with
        | nil => simp [S.texts] at hc
        | cons y s => simp [S.texts] at hc; rw [← hc.1]; rfl
  cases t with
  | mk a o l =>
    simp only [S.list] at ih
    simp only [S.right] at hr
    by_cases ha : a = []
    · subst ha
      simp only [if_true] at hr
      have := hl l true fun u hu => ih u hu ((S.rights_iff l).1 hr u hu)
      simp only [S.text, if_true]
      exact .list this
    · rw [if_neg ha] at hr
      simp only [Bool.and_eq_true, List.isEmpty_iff] at hr
      obtain ⟨rfl, hp⟩ := hr
      simp only [S.text, if_neg ha]
      exact .atom ha fun c hc => by simp only [allPlain, List.all_eq_true] at hp; exact hp c hc
theorem enc_all : ∀ (l : List S) (g : List UInt8), Gp g → (∀ t, t ∈ l → t.right = true) → EncL l (g ++ allText l)
  | [], g, hg, _ => by simpa [allText] using EncL.nil hg
  | t :: r, g, hg, h => by
    have := enc_all r [10] (Gp.blank (by decide)) fun u hu => h u (by simp [hu])
    exact .cons hg (enc_text t (h t (by simp))) this fun _ c r' hc => by simp at hc; rw [← hc.1]; rfl
theorem S.text_len2 (t : S) : t.text.length + 1 ≤ 100 * t.wt := by
  induction t using S.ind with | h t ih =>
  have hl : ∀ (l : List S) (b : Bool), (∀ u, u ∈ l → u.text.length + 1 ≤ 100 * u.wt) → (S.texts b l).length ≤ 100 * S.wts l := by
    intro l
    induction l with
    | nil => intro b _; simp [S.texts, S.wts]
    | cons x r ihr =>
      intro b h
      have h1 := h x (by simp)
      have h2 := ihr false fun u hu => h u (by simp [hu])
      simp only [S.texts, S.wts, List.length_append]
      have h4 : (if b = true then ([] : List UInt8) else [32]).length ≤ 1 := by cases b <;> simp
      omega
  have h := hl t.list true ih
  rw [S.text_eq, S.wt_eq]
  split
  · simp; omega
  · omega
theorem parse_text {t : S} (hok : t.okB = true) (hwt : t.wt ≤ 500) : ∃ x st, pAll t.text = .ok [x] st ∧ x.same t = true := by
  simp only [S.okB, Bool.and_eq_true, decide_eq_true_eq] at hok
  have hlen := S.text_len2 t
  have he : EncL [t] ([] ++ (t.text ++ [])) := .cons Gp.nil (enc_text t hok.1) (.nil Gp.nil) fun _ c r h => by simp at h
  simp only [List.nil_append, List.append_nil] at he
  obtain ⟨l', st, h1, h2⟩ := pAll_enc he (fun u hu => by simp at hu; subst hu; exact hok.2) (by omega)
  obtain ⟨x, rfl, h3⟩ := sames_one h2
  exact ⟨x, st, h1, h3⟩
theorem sexprBack_D {t : S} (hw : t.wf) (q : Bool) : callD G0 IP n_saturatelaw05_SexprBack [t.av] [] 0 q = some (.ret (.bool true) []) := by
  rw [callD_eq]
  have el := live_D
  have e1 := few_D (lo := 0) hw (n := 500) (by omega) (by omega) (hp := []) false
  cases hf : fewB t 500
  · rw [hf] at e1
    rw [S.av_eq] at e1 ⊢
    simp [IP_saturatelaw05_SexprBack, i_saturatelaw05_SexprBack, e1, el]
  · have hwt := few_wt hf
    have e2 := valid1_D (hp := []) (lo := 0) hw (by omega) false
    rw [hf] at e1
    cases hv : t.okB
    · rw [hv] at e2
      rw [S.av_eq] at e1 e2 ⊢
      simp [IP_saturatelaw05_SexprBack, i_saturatelaw05_SexprBack, e1, e2, el]
    · have e3 := validT_D (hp := []) (lo := 0) hw false
      have hlen := S.text_len2 t
      have e4 := print2_D (hp := []) (lo := 0) hw (by omega) false
      obtain ⟨x, st, p1, p2⟩ := parse_text hv (by omega)
      have e5 := parse2_D (s := t.text) (hp := []) (lo := 0) false
      rw [p1] at e5
      simp only [outS1] at e5
      have hxw := (pAll_wf p1).1 x (by simp)
      have e6 := ref_same_D x hxw t [] 0 false
      rw [p2] at e6
      rw [hv] at e2 e3
      rw [S.av_eq x] at e5 e6
      rw [S.av_eq t] at e1 e2 e3 e4 e6 ⊢
      simp [IP_saturatelaw05_SexprBack, i_saturatelaw05_SexprBack, e1, e2, e3, e4, e5, e6, el]
end Go.Proofs.Ytajlmldpbhendaa.Rf
end
section
/- What is parsed is valid, and is parsed again from its printed form. -/
set_option linter.unusedSimpArgs false
set_option linter.unusedVariables false
namespace Go.Proofs.Ytajlmldpbhendaa.Rf

theorem S.same_comm (t : S) : ∀ u : S, t.same u = u.same t := by
  induction t using S.ind with | h t ih =>
  have hl : ∀ (l : List S), (∀ x, x ∈ l → ∀ u : S, x.same u = u.same x) → ∀ m : List S, S.sames l m = S.sames m l := by
    intro l
    induction l with
    | nil => intro _ m; cases m <;> rfl
    | cons x r ihr =>
      intro h m
      cases m with
      | nil => rfl
      | cons y s => simp only [S.sames]; rw [h x (by simp) y, ihr (fun z hz => h z (by simp [hz])) s]
  intro u
  rw [S.same_eq, S.same_eq, hl t.list ih u.list]
  by_cases h : t.atom = u.atom
  · rw [h]
  · have h' : ¬ u.atom = t.atom := fun e => h e.symm
    simp [h, h']
theorem S.sames_comm : ∀ (l m : List S), S.sames l m = S.sames m l
  | [], [] => rfl
  | [], _ :: _ => rfl
  | _ :: _, [] => rfl
  | x :: r, y :: s => by simp only [S.sames]; rw [S.same_comm x y, S.sames_comm r s]
theorem atomK_plain (s : List UInt8) : ∀ (k i m : Nat), i ≤ m → m < atomK s k i → plainC (byt s m) = true
  | 0, i, m, h1, h2 => by simp [atomK] at h2; omega
  | k + 1, i, m, h1, h2 => by
    simp only [atomK] at h2
    split at h2
    · rename_i hc
      by_cases e : i = m
      · subst e; exact hc
      · exact atomK_plain s k (i + 1) m (by omega) h2
    · omega
theorem atom_plain {s : List UInt8} {i : Nat} (h : atomN s i ≤ s.length) : allPlain ((s.take (atomN s i)).drop i) = true := by
  simp only [allPlain, List.all_eq_true]
  intro c hc
  obtain ⟨m, hm, rfl⟩ := List.getElem_of_mem hc
  simp only [List.length_drop, List.length_take] at hm
  have := atomK_plain s (s.length - i) i (i + m) (by omega) (by unfold atomN at hm; omega)
  have hl : i + m < s.length := by omega
  simpa [byt, hl] using this
theorem S.rights_app (a b : List S) : S.rights (a ++ b) = (S.rights a && S.rights b) := by
  induction a with
  | nil => rfl
  | cons x r ih => simp only [List.cons_append, S.rights, ih, Bool.and_assoc]
theorem p_ok (s : List UInt8) (hs : s.length ≤ 65536) : ∀ n, (∀ i d x j, i < s.length → pOne s n i d = .ok x j → x.right = true ∧ x.depth + d ≤ 64 ∧ x.text.length + 1 ≤ 2 * (j - i)) ∧
    (∀ i d acc j acc' i0, i ≤ s.length → i0 ≤ i → d < 64 → S.rights acc = true → S.depths acc + d + 1 ≤ 64 → (S.texts true acc).length ≤ 2 * (i - i0) → pLoop s n i d acc = .stop j acc' → i0 ≤ j ∧ S.rights acc' = true ∧ S.depths acc' + d + 1 ≤ 64 ∧ (S.texts true acc').length ≤ 2 * (j - i0))
  | 0 => ⟨fun i d x j hi h => by simp [pOne] at h, fun i d acc j acc' i0 hi h0 hd h1 h2 h3 h => by simp [pLoop] at h; obtain ⟨rfl, rfl⟩ := h; exact ⟨h0, h1, h2, h3⟩⟩
  | n + 1 => by
    obtain ⟨ih1, ih2⟩ := p_ok s hs n
    refine ⟨fun i d x j hi h => ?_, fun i d acc j acc' i0 hi h0 hd h1 h2 h3 h => ?_⟩
    · simp only [pOne] at h
      have hk := skipN_le (s := s) (i := i + 1) (by omega)
      split at h
      · split at h
        · cases h
        · rename_i hd
          split at h
          · cases h
          · rename_i j' acc' hl
            obtain ⟨q0, q1, q2, q3⟩ := ih2 _ _ _ _ _ (i + 1) hk.2 hk.1 (by omega) rfl (by simp [S.depths]; omega) (by simp [S.texts]) hl
            split at h
            · cases h
            · cases h
              refine ⟨by simp [S.right, q1], by simp [S.depth]; omega, ?_⟩
              simp [S.text]; omega
      · split at h
        · rename_i hp
          split at h
          · cases h
          · cases h
            have ha := atomN_gt hi hp
            have hne : ¬ (s.take (atomN s i)).drop i = [] := by
              intro e
              have := congrArg List.length e
              simp at this; omega
            refine ⟨?_, ?_, ?_⟩
            · simp only [S.right, if_neg hne, atom_plain ha.2, List.isEmpty_nil, Bool.and_self]
            · simp only [S.depth, if_neg hne]; omega
            · simp only [S.text, if_neg hne, List.length_drop, List.length_take]; omega
        · cases h
    · simp only [pLoop] at h
      split at h
      · rename_i hlt
        split at h
        · cases h; exact ⟨h0, h1, h2, h3⟩
        · split at h
          · cases h
          · rename_i x k ho
            obtain ⟨q1, q2, q3⟩ := ih1 _ _ _ _ hlt ho
            have hj := (p_le s n).1 _ _ _ _ hlt ho
            have hk := skipN_le (s := s) (i := k) (by omega)
            refine ih2 _ _ _ _ _ i0 hk.2 (by omega) hd (by rw [S.rights_app, h1]; simp [S.rights, q1]) (by rw [S.depths_app]; omega) ?_ h
            rw [S.texts_app, List.length_append, List.length_append]
            have : (if (true && acc.isEmpty) = true then ([] : List UInt8) else [32]).length ≤ 1 := by split <;> simp
            omega
      · cases h; exact ⟨h0, h1, h2, h3⟩
theorem top_ok (s : List UInt8) (hs : s.length ≤ 65536) : ∀ n i acc st l st', i ≤ s.length → (∀ t, t ∈ acc → t.okB = true) → (allText acc).length ≤ 2 * i → pTop s n i acc st = .ok l st' → (∀ t, t ∈ l → t.okB = true) ∧ (allText l).length ≤ 2 * s.length
  | 0, i, acc, st, l, st', hi, h1, h2, h => by simp [pTop] at h; obtain ⟨rfl, rfl⟩ := h; exact ⟨h1, by omega⟩
  | n + 1, i, acc, st, l, st', hi, h1, h2, h => by
    simp only [pTop] at h
    split at h
    · rename_i hlt
      split at h
      · cases h
      · rename_i x j hx
        have hj := (p_le s _).1 _ _ _ _ hlt hx
        have hk := skipN_le (s := s) (i := j) (by omega)
        obtain ⟨q1, q2, q3⟩ := (p_ok s hs _).1 _ _ _ _ hlt hx
        refine top_ok s hs n _ _ _ _ _ hk.2 (fun t ht => ?_) (by rw [allText_app]; simp; omega) h
        rcases List.mem_append.1 ht with ht | ht
        · exact h1 t ht
        · simp at ht; subst ht; simp only [S.okB, q1, Bool.true_and, decide_eq_true_eq]; omega
    · cases h; exact ⟨h1, by omega⟩
theorem pAll_ok {s : List UInt8} {l : List S} {st : List Nat} (h : pAll s = .ok l st) : (∀ t, t ∈ l → t.okB = true) ∧ (allText l).length ≤ 2 * s.length := by
  unfold pAll at h
  split at h
  · cases h
  · have hk := skipN_le (s := s) (i := 0) (by omega)
    exact top_ok s (by omega) _ _ _ _ _ _ hk.2 (by simp) (by simp [allText]) h
theorem sexprTwice_D (s : List UInt8) (q : Bool) : callD G0 IP n_saturatelaw05_SexprTwice [.str s] [] 0 q = some (.ret (.bool true) []) := by
  rw [callD_eq]
  have el := live_D
  by_cases h1 : s.length > 3000
  · have a1 : (3000 : Int) < (s.length : Int) := by omega
    simp [IP_saturatelaw05_SexprTwice, i_saturatelaw05_SexprTwice, a1, el]
  · have a1 : ¬ (3000 : Int) < (s.length : Int) := by omega
    have e1 := parseAll2_D (s := s) (hp := []) (lo := 0) false
    cases hx : pAll s with
    | err j e =>
      rw [hx] at e1
      simp only [outA] at e1
      have hne := pAll_err hx
      simp [IP_saturatelaw05_SexprTwice, i_saturatelaw05_SexprTwice, a1, el, e1, hne]
    | ok l st =>
      rw [hx] at e1
      simp only [outA] at e1
      obtain ⟨hw, hl⟩ := pAll_wf hx
      obtain ⟨hok, htl⟩ := pAll_ok hx
      have hloop := loop_iter (G := G0) (IP := IP) (lo := 0) (b := l_saturatelaw05_SexprTwice_0)
        (fun i => ⟨[(3, .list (S.avs l) (ownB l.isEmpty)), (6, .int .i64 i)], []⟩) l.length
        (r := (.exit 0, ⟨[(3, .list (S.avs l) (ownB l.isEmpty)), (6, .int .i64 l.length), (26, .bool false)], []⟩)) (fun i hi => by
          have e2 := validT_D (hp := []) (lo := 0) (hw _ (List.getElem_mem hi)) false
          rw [hok _ (List.getElem_mem hi), S.av_eq] at e2
          have hiI : (i : Int) < (l.length : Int) := by omega
          have hw1 := wrap_succ hi (n := l.length) (by omega)
          simp [l_saturatelaw05_SexprTwice_0, hi, hiI, S.av_eq l[i], e2, hw1])
        (by simp [l_saturatelaw05_SexprTwice_0]) (by simp)
      simp at hloop
      have e3 := printAll2_D (hp := []) (lo := 0) hw (by omega) (by omega) (ownB l.isEmpty) false
      have he : EncL l ([] ++ allText l) := enc_all l [] Gp.nil fun t ht => by have := hok t ht; simp only [S.okB, Bool.and_eq_true] at this; exact this.1
      rw [List.nil_append] at he
      obtain ⟨l', st', p1, p2⟩ := pAll_enc he (fun t ht => by have := hok t ht; simp only [S.okB, Bool.and_eq_true, decide_eq_true_eq] at this; exact this.2) (by omega)
      rw [S.sames_comm] at p2
      have e4 := parseAll2_D (s := allText l) (hp := []) (lo := 0) false
      rw [p1] at e4
      simp only [outA] at e4
      have e5 := ref_sames_D (hp := []) (lo := 0) hw l' (by omega) (ownB l.isEmpty) (ownB l'.isEmpty) false
      rw [p2] at e5
      try simp at e1
      try simp at e3
      try simp at e4
      try simp at e5
      simp [IP_saturatelaw05_SexprTwice, i_saturatelaw05_SexprTwice, a1, el, e1, hloop, e3, e4, e5]
end Go.Proofs.Ytajlmldpbhendaa.Rf
end
