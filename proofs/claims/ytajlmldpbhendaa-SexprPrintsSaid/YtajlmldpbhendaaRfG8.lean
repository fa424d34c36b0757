/- Print and PrintAll, of the program and of the reference; the reference's weighing. -/
import Derived.Test.YtajlmldpbhendaaRfG7
section
set_option linter.unusedSimpArgs false
set_option linter.unusedVariables false
namespace Go.Proofs.Ytajlmldpbhendaa.Rf

def allText : List S → List UInt8
  | [] => []
  | t :: r => t.text ++ (10 :: allText r)
theorem allText_app : ∀ (l : List S) (t : S), allText (l ++ [t]) = allText l ++ (t.text ++ [10])
  | [], t => by simp [allText]
  | u :: r, t => by simp [allText, allText_app r t]
theorem allText_take {l : List S} {i : Nat} (h : i < l.length) : allText (l.take (i + 1)) = allText (l.take i) ++ (l[i].text ++ [10]) := by
  rw [List.take_succ_eq_append_getElem h, allText_app]
theorem allText_le : ∀ (l : List S) (i : Nat), (allText (l.take i)).length ≤ (allText l).length
  | [], i => by simp
  | x :: r, 0 => by simp [allText]
  | x :: r, i + 1 => by
    have := allText_le r i
    simp only [List.take_succ_cons, allText, List.length_append, List.length_cons]; omega
section
variable {hp : List HObj} {lo : Nat}
theorem B0_fold (hp : List HObj) : hp ++ [.cells 82 [.nilp, .list [] .nil]] = BH hp [] := rfl
theorem print2_D {t : S} (hw : t.wf) (hb : t.text.length ≤ 140737488355328) (q : Bool) : callD G0 IP n_sexpr_Print [t.av] hp lo q = some (.ret (.str t.text) hp) := by
  rw [callD_eq]
  have e1 := write_D t hw (hp := hp) (lo := hp.length) (Nat.le_refl _) [] (by simpa using hb)
  have e2 := bstr_D (hp := hp) (lo := hp.length) (Nat.le_refl _) t.text hb
  rw [S.av_eq] at e1
  simp at e1
  rw [S.av_eq]
  simp [IP_sexpr_Print, i_sexpr_Print, B0_fold, e1, e2]
theorem printAll2_D {l : List S} (hw : ∀ t, t ∈ l → t.wf) (hl : l.length ≤ 9223372036854775807) (hb : (allText l).length ≤ 140737488355328) (o : Own) (q : Bool) : callD G0 IP n_sexpr_PrintAll [.list (S.avs l) o] hp lo q = some (.ret (.str (allText l)) hp) := by
  rw [callD_eq]
  have hloop := loop_iter (G := G0) (IP := IP) (lo := hp.length) (b := l_sexpr_PrintAll_0)
    (fun i => ⟨[(3, .ptr hp.length 0), (6, .list (S.avs l) o), (7, .int .i64 l.length), (8, .int .i64 i)], BH hp (allText (l.take i))⟩) l.length
    (r := (.exit 0, ⟨[(3, .ptr hp.length 0), (6, .list (S.avs l) o), (7, .int .i64 l.length), (8, .int .i64 l.length), (9, .bool false)], BH hp (allText l)⟩)) (fun i hi => by
      have hle := allText_le l (i + 1)
      rw [allText_take hi] at hle
      simp only [List.length_append, List.length_cons, List.length_nil] at hle
      have hw1 := wrap_succ hi hl
      have e1 := write_D l[i] (hw _ (List.getElem_mem hi)) (hp := hp) (lo := hp.length) (Nat.le_refl _) (allText (l.take i)) (by omega)
      have e2 := wbyte_D (hp := hp) (lo := hp.length) (Nat.le_refl _) (allText (l.take i) ++ l[i].text) 10 (by simp; omega)
      rw [S.av_eq] at e1
      rw [allText_take hi, ← hw1]
      simp at e1 e2
      simp [l_sexpr_PrintAll_0, hi, S.av_eq l[i], e1, e2])
    (by simp [l_sexpr_PrintAll_0]) (by simp)
  simp [allText] at hloop
  have e2 := bstr_D (hp := hp) (lo := hp.length) (Nat.le_refl _) (allText l) hb
  simp [IP_sexpr_PrintAll, i_sexpr_PrintAll, B0_fold, e2, hloop]
theorem print1_D (t : S) : t.wf → t.text.length ≤ 140737488355328 → ∀ (hp : List HObj) (lo : Nat) (q : Bool), callD G0 IP n_saturateref05_Print [t.av] hp lo q = some (.ret (.str t.text) hp) := by
  induction t using S.ind with | h t ih =>
  intro hw hb hp lo q
  rw [S.wf_eq] at hw
  obtain ⟨_, hl, _, hws⟩ := hw
  rw [callD_eq]
  have ht := S.text_eq t
  by_cases ha : t.atom = []
  · rw [if_pos ha] at ht
    rw [ht] at hb ⊢
    simp only [List.length_cons, List.length_append, List.length_nil] at hb
    have hloop := loop_iter (G := G0) (IP := IP) (lo := hp.length) (b := l_saturateref05_Print_0)
      (fun i => ⟨[(1, .box [.str t.atom, .list (S.avs t.list) (ownB t.o)]), (3, .str (40 :: S.texts true (t.list.take i))), (4, .int .i64 i)], hp⟩) t.list.length
      (r := (.exit 0, ⟨[(1, .box [.str t.atom, .list (S.avs t.list) (ownB t.o)]), (3, .str (40 :: S.texts true t.list)), (4, .int .i64 t.list.length), (14, .bool false)], hp⟩)) (fun i hi => by
        have hle := texts_le (b := true) t.list (i + 1)
        rw [texts_take_len hi] at hle
        simp only [List.length_append] at hle
        have hw := wrap_succ hi hl
        have hiI : (i : Int) < (t.list.length : Int) := by omega
        have e3 := ih t.list[i] (List.getElem_mem hi) (hws _ (List.getElem_mem hi)) (by omega) hp hp.length false
        rw [S.av_eq] at e3
        by_cases h0 : i = 0
        · subst h0
          rw [texts_take_len hi]
          have hb1 : t.list[0].text.length + 1 ≤ 9223372036854775807 := by omega
          have hb2 : 1 + t.list[0].text.length ≤ 9223372036854775807 := by omega
          simp [l_saturateref05_Print_0, hi, S.av_eq t.list[0], S.texts, e3, hb1, hb2, show IntKind.wrap .i64 1 = 1 from rfl]
        · have h0' : 0 < i := by omega
          have hle2 : ((if true && decide (i = 0) then ([] : List UInt8) else [32])).length = 1 := by simp [h0]
          rw [hle2] at hle
          rw [texts_take_len hi, ← hw]
          have hb1 : (S.texts true (List.take i t.list)).length + 1 + 1 ≤ 9223372036854775807 := by omega
          have hb2 : (S.texts true (List.take i t.list)).length + 1 + 1 + t.list[i].text.length ≤ 9223372036854775807 := by omega
          simp [l_saturateref05_Print_0, hi, hiI, h0, h0', S.av_eq t.list[i], e3, hb1, hb2])
      (by simp [l_saturateref05_Print_0]) (by simp)
    simp [S.texts, ha] at hloop
    have hb3 : (S.texts true t.list).length + 1 + 1 ≤ 9223372036854775807 := by omega
    rw [S.av_eq t]
    simp [IP_saturateref05_Print, i_saturateref05_Print, ha, hloop, hb3]
  · rw [if_neg ha] at ht
    rw [ht]
    rw [S.av_eq t]
    simp [IP_saturateref05_Print, i_saturateref05_Print, ha]
theorem printAll1_D {l : List S} (hw : ∀ t, t ∈ l → t.wf) (hl : l.length ≤ 9223372036854775807) (hb : (allText l).length ≤ 140737488355328) (o : Own) (q : Bool) : callD G0 IP n_saturateref05_PrintAll [.list (S.avs l) o] hp lo q = some (.ret (.str (allText l)) hp) := by
  rw [callD_eq]
  have hloop := loop_iter (G := G0) (IP := IP) (lo := hp.length) (b := l_saturateref05_PrintAll_0)
    (fun i => ⟨[(0, .list (S.avs l) o), (3, .str (allText (l.take i))), (4, .int .i64 i)], hp⟩) l.length
    (r := (.exit 0, ⟨[(0, .list (S.avs l) o), (3, .str (allText l)), (4, .int .i64 l.length), (8, .bool false)], hp⟩)) (fun i hi => by
      have hle := allText_le l (i + 1)
      rw [allText_take hi] at hle
      simp only [List.length_append, List.length_cons, List.length_nil] at hle
      have hw1 := wrap_succ hi hl
      have hiI : (i : Int) < (l.length : Int) := by omega
      have e1 := print1_D l[i] (hw _ (List.getElem_mem hi)) (by omega) hp hp.length false
      rw [S.av_eq] at e1
      rw [allText_take hi, ← hw1]
      have hb1 : l[i].text.length + 1 ≤ 9223372036854775807 := by omega
      have hb2 : (allText (List.take i l)).length + (l[i].text.length + 1) ≤ 9223372036854775807 := by omega
      simp [l_saturateref05_PrintAll_0, hi, hiI, S.av_eq l[i], e1, hb1, hb2])
    (by simp [l_saturateref05_PrintAll_0]) (by simp)
  simp [allText] at hloop
  simp [IP_saturateref05_PrintAll, i_saturateref05_PrintAll, hloop]
end
/-! weighing -/
mutual
def S.weigh : S → Int → Int
  | .mk a _ l, n => S.weighs l (n - 1 - (a.length : Int).tdiv 100)
def S.weighs : List S → Int → Int
  | [], n => n
  | t :: r, n => if 0 ≤ n then S.weighs r (t.weigh n) else n
end
mutual
def S.wt : S → Nat
  | .mk a _ l => 1 + a.length / 100 + S.wts l
def S.wts : List S → Nat
  | [] => 0
  | t :: r => t.wt + S.wts r
end
theorem S.weigh_eq (t : S) (n : Int) : t.weigh n = S.weighs t.list (n - 1 - (t.atom.length : Int).tdiv 100) := by cases t; rfl
theorem S.wt_eq (t : S) : t.wt = 1 + t.atom.length / 100 + S.wts t.list := by cases t; rfl
theorem tdiv100 (n : Nat) : (n : Int).tdiv 100 = ((n / 100 : Nat) : Int) := by rfl
theorem S.weighs_neg : ∀ (l : List S) (n : Int), n < 0 → S.weighs l n = n
  | [], n, _ => rfl
  | t :: r, n, h => by simp only [S.weighs]; rw [if_neg (by omega)]
theorem S.weigh_ge (t : S) : ∀ n : Int, 0 ≤ t.weigh n → t.weigh n = n - t.wt := by
  induction t using S.ind with | h t ih =>
  have hl : ∀ (l : List S), (∀ u, u ∈ l → ∀ n : Int, 0 ≤ u.weigh n → u.weigh n = n - u.wt) → ∀ n : Int, 0 ≤ S.weighs l n → S.weighs l n = n - S.wts l := by
    intro l
    induction l with
    | nil => intro _ n _; simp [S.weighs, S.wts]
    | cons x r ihr =>
      intro h n hn
      simp only [S.weighs] at hn ⊢
      split
      · rename_i h0
        rw [if_pos h0] at hn
        by_cases hx : 0 ≤ x.weigh n
        · rw [ihr (fun u hu => h u (by simp [hu])) _ hn, h x (by simp) n hx]; simp only [S.wts]; omega
        · rw [S.weighs_neg r _ (by omega)] at hn; exact absurd hn hx
      · rename_i h0; rw [if_neg h0] at hn; exact absurd hn h0
  intro n hn
  rw [S.weigh_eq] at hn ⊢
  rw [hl t.list ih _ hn, S.wt_eq, tdiv100]; omega
theorem S.text_len (t : S) : t.text.length + 1 ≤ 200 * t.wt := by
  induction t using S.ind with | h t ih =>
  have hl : ∀ (l : List S) (b : Bool), (∀ u, u ∈ l → u.text.length + 1 ≤ 200 * u.wt) → (S.texts b l).length ≤ 200 * S.wts l := by
    intro l
    induction l with
    | nil => intro b _; simp [S.texts, S.wts]
    | cons x r ihr =>
      intro b h
      have h1 := h x (by simp)
      have h2 := ihr false fun u hu => h u (by simp [hu])
      simp only [S.texts, S.wts, List.length_append]
      have h4 : (if b = true then ([] : List UInt8) else [32]).length ≤ 1 := by cases b <;> simp
      omega
  have h := hl t.list true ih
  rw [S.text_eq, S.wt_eq]
  split
  · simp; omega
  · omega
theorem allText_len : ∀ (l : List S) (n : Nat), (∀ t, t ∈ l → t.wt ≤ n) → (allText l).length ≤ 200 * n * l.length
  | [], n, _ => by simp [allText]
  | t :: r, n, h => by
    have h1 := allText_len r n fun u hu => h u (by simp [hu])
    have h2 := S.text_len t
    have h3 := h t (by simp)
    simp only [allText, List.length_append, List.length_cons, Nat.mul_add, Nat.mul_one]
    have : 200 * t.wt ≤ 200 * n := Nat.mul_le_mul_left _ h3
    omega
section
variable {lo : Nat}
theorem weigh_D (t : S) : t.wf → ∀ (n : Int), 0 ≤ n → n ≤ 1000 → ∀ (hp : List HObj) (lo : Nat) (q : Bool), callD G0 IP n_saturateref05_weigh [t.av, .int .i64 n] hp lo q = some (.ret (.int .i64 (t.weigh n)) hp) := by
  induction t using S.ind with | h t ih =>
  intro hw n h0 h1 hp lo q
  rw [S.wf_eq] at hw
  obtain ⟨hal, hl, _, hws⟩ := hw
  have hloop : ∀ (k i : Nat) (n : Int), i + k = t.list.length → n ≤ 1000 → ∃ j : Int, loopD G0 IP hp.length l_saturateref05_weigh_0 ⟨[(1, .int .i64 n), (2, .box [.str t.atom, .list (S.avs t.list) (ownB t.o)]), (5, .int .i64 i)], hp⟩ =
      some (.exit 0, ⟨[(1, .int .i64 (S.weighs (t.list.drop i) n)), (2, .box [.str t.atom, .list (S.avs t.list) (ownB t.o)]), (5, .int .i64 j), (21, .bool false)], hp⟩) := by
    intro k
    induction k with
    | zero =>
      intro i n hi _
      have hI : ¬ (i : Int) < (t.list.length : Int) := by omega
      refine ⟨i, ?_⟩
      rw [loopD_eq, loopBody, List.drop_eq_nil_of_le (by omega)]
      simp [l_saturateref05_weigh_0, hI, S.weighs]
    | succ k ihk =>
      intro i n hi hn
      have hlt : i < t.list.length := by omega
      have hI : (i : Int) < (t.list.length : Int) := by omega
      rw [List.drop_eq_getElem_cons hlt]
      simp only [S.weighs]
      by_cases hneg : 0 ≤ n
      · have e1 := ih t.list[i] (List.getElem_mem hlt) (hws _ (List.getElem_mem hlt)) n hneg hn hp hp.length false
        have hle : t.list[i].weigh n ≤ 1000 := by
          by_cases hx : 0 ≤ t.list[i].weigh n
          · have := S.weigh_ge _ _ hx; omega
          · omega
        obtain ⟨j, e2⟩ := ihk (i + 1) (t.list[i].weigh n) (by omega) hle
        have hw1 := wrap_succ hlt hl
        rw [S.av_eq] at e1
        refine ⟨j, ?_⟩
        rw [loopD_eq, loopBody, if_pos hneg]
        simp [l_saturateref05_weigh_0, hI, hlt, hneg, S.av_eq t.list[i], e1, hw1]
        exact e2
      · refine ⟨i, ?_⟩
        rw [loopD_eq, loopBody, if_neg hneg]
        simp [l_saturateref05_weigh_0, hI, hlt, hneg]
  have hd : (t.atom.length : Int).tdiv 100 = ((t.atom.length / 100 : Nat) : Int) := tdiv100 _
  have hdl : t.atom.length / 100 ≤ 92233720368547758 := by omega
  obtain ⟨j, e2⟩ := hloop t.list.length 0 (n - 1 - (t.atom.length : Int).tdiv 100) (by omega) (by rw [hd]; omega)
  have hwr : ∀ m : Int, -9223372036854775808 ≤ m → m ≤ 9223372036854775807 → IntKind.wrap .i64 m = m := fun m a b => by
    simp [IntKind.wrap, IntKind.signed, IntKind.bits]; omega
  have w1 : IntKind.wrap .i64 (n - 1) = n - 1 := hwr _ (by omega) (by omega)
  have w2 : IntKind.wrap .i64 ((t.atom.length : Int).tdiv 100) = (t.atom.length : Int).tdiv 100 := by rw [hd]; exact hwr _ (by omega) (by omega)
  have w3 : IntKind.wrap .i64 (n - 1 - (t.atom.length : Int).tdiv 100) = n - 1 - (t.atom.length : Int).tdiv 100 := by rw [hd]; exact hwr _ (by omega) (by omega)
  rw [callD_eq, S.weigh_eq, S.av_eq]
  have he : (t.atom.length : Int).tdiv 100 = (t.atom.length : Int) / 100 := by rw [hd]; omega
  rw [he] at w2 w3 e2 ⊢
  simp at e2
  simp [IP_saturateref05_weigh, i_saturateref05_weigh, w1, w2, w3, e2]
def fewB (t : S) (n : Int) : Bool := decide (0 ≤ t.weigh n)
theorem few_D {t : S} (hw : t.wf) {n : Int} (h0 : 0 ≤ n) (h1 : n ≤ 1000) {hp : List HObj} (q : Bool) : callD G0 IP n_saturateref05_Few [t.av, .int .i64 n] hp lo q = some (.ret (.bool (fewB t n)) hp) := by
  rw [callD_eq]
  have e1 := weigh_D t hw n h0 h1 hp hp.length false
  rw [S.av_eq] at e1 ⊢
  simp [IP_saturateref05_Few, i_saturateref05_Few, e1, fewB]
theorem few_wt {t : S} {n : Int} (h : fewB t n = true) : (t.wt : Int) ≤ n := by
  simp only [fewB, decide_eq_true_eq] at h
  have := S.weigh_ge t n h
  omega
end
end Go.Proofs.Ytajlmldpbhendaa.Rf
end
section
/- The law of printing. -/
set_option linter.unusedSimpArgs false
set_option linter.unusedVariables false
namespace Go.Proofs.Ytajlmldpbhendaa.Rf

theorem sexprPrints_D {l : List S} {o : Bool} (hw : ∀ t, t ∈ l → t.wf) (q : Bool) : callD G0 IP n_saturatelaw05_SexprPrints [.list (S.avs l) (ownB o)] [] 0 q = some (.ret (.bool true) []) := by
  rw [callD_eq]
  have el := live_D
  by_cases h20 : l.length > 20
  · have a1 : (20 : Int) < (l.length : Int) := by omega
    simp [IP_saturatelaw05_SexprPrints, i_saturatelaw05_SexprPrints, a1, el]
  · have a1 : ¬ (20 : Int) < (l.length : Int) := by omega
    have hloop := loop_find (G := G0) (IP := IP) (lo := 0) (b := l_saturatelaw05_SexprPrints_0)
      (fun i => ⟨[(0, .list (S.avs l) (ownB o)), (3, .int .i64 i)], []⟩) l.length (fun i => !fewB (l.getD i (.mk [] true [])) 300)
      (.ret, ⟨[(2, .bool true)], []⟩) (.exit 0, ⟨[(0, .list (S.avs l) (ownB o)), (3, .int .i64 l.length), (11, .bool false)], []⟩)
      (fun i hi hp1 => by
        have h2 : fewB l[i] 300 = true := by simpa [hi] using hp1
        have hwi := hw _ (List.getElem_mem hi)
        have hwt := few_wt h2
        have htl := S.text_len l[i]
        have e1 := few_D (lo := 0) hwi (n := 300) (by omega) (by omega) (hp := []) false
        have e2 := print2_D (hp := []) (lo := 0) hwi (by omega) true
        have e3 := print1_D l[i] hwi (by omega) [] 0 true
        rw [h2] at e1
        rw [S.av_eq] at e1 e2 e3
        have hiI : (i : Int) < (l.length : Int) := by omega
        have hw1 := wrap_succ hi (n := l.length) (by omega)
        simp [l_saturatelaw05_SexprPrints_0, hi, hiI, S.av_eq l[i], e1, e2, e3, hw1])
      (fun i hi hp1 => by
        have h2 : fewB l[i] 300 = false := by simpa [hi] using hp1
        have hwi := hw _ (List.getElem_mem hi)
        have e1 := few_D (lo := 0) hwi (n := 300) (by omega) (by omega) (hp := []) false
        rw [h2] at e1
        rw [S.av_eq] at e1
        have hiI : (i : Int) < (l.length : Int) := by omega
        simp [l_saturatelaw05_SexprPrints_0, hi, hiI, S.av_eq l[i], e1, el])
      (fun s => by simp) (by simp [l_saturatelaw05_SexprPrints_0]) (fun s => by simp)
    simp only [Int.natCast_zero] at hloop
    cases hany : (List.range l.length).any fun i => !fewB (l.getD i (.mk [] true [])) 300
    · rw [hany] at hloop
      simp only [Bool.false_eq_true, if_false] at hloop
      have hall : ∀ t, t ∈ l → t.wt ≤ 300 := fun t ht => by
        obtain ⟨i, hi, rfl⟩ := List.getElem_of_mem ht
        have := (List.any_eq_false.1 hany) i (List.mem_range.2 hi)
        have h2 : fewB l[i] 300 = true := by simpa [hi] using this
        have := few_wt h2
        omega
      have hlen := allText_len l 300 hall
      have hlen2 : 200 * 300 * l.length ≤ 200 * 300 * 20 := Nat.mul_le_mul_left _ (by omega)
      have e1 := printAll2_D (hp := []) (lo := 0) hw (by omega) (by omega) (ownB o) false
      have e2 := printAll1_D (hp := []) (lo := 0) hw (by omega) (by omega) (ownB o) false
      simp [IP_saturatelaw05_SexprPrints, i_saturatelaw05_SexprPrints, a1, el, hloop, e1, e2]
    · rw [hany] at hloop
      simp only [if_true] at hloop
      simp [IP_saturatelaw05_SexprPrints, i_saturatelaw05_SexprPrints, a1, el, hloop]
end Go.Proofs.Ytajlmldpbhendaa.Rf
end
