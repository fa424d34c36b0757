/- A part of the proof: see the last text. -/
import Derived.Test.YtkofimhnehkdoaaGreatDoorRfG8
import Derived.Test.YtkofimhnehkdoaaGreatDoorRfG7
section
set_option linter.unusedSimpArgs false
set_option linter.unusedVariables false
namespace Go.Proofs.YtkofimhnehkdoaaGreatDoor.Rf
inductive PR where
  | ok (e : S) (i : Nat)
  | err (i : Nat) (code : Int)
inductive LR where
  | stop (i : Nat) (acc : List S)
  | err (i : Nat) (code : Int)
mutual
def pOne (s : List UInt8) : Nat → Nat → Nat → PR
  | 0, i, _ => .err i 6
  | n + 1, i, d =>
    if byt s i = 40 then
      if d ≥ 64 then .err i 7 else
      match pLoop s n (skipN s (i + 1)) d [] with
      | .err j e => .err j e
      | .stop j acc => if j = s.length then .err j 6 else .ok (.mk [] acc.isEmpty acc) (j + 1)
    else if plainC (byt s i) then
      if d ≥ 64 then .err i 7 else .ok (.mk ((s.take (atomN s i)).drop i) true []) (atomN s i)
    else .err i 6
def pLoop (s : List UInt8) : Nat → Nat → Nat → List S → LR
  | 0, i, _, acc => .stop i acc
  | n + 1, i, d, acc =>
    if i < s.length then
      if byt s i = 41 then .stop i acc else
      match pOne s n i (d + 1) with
      | .err j e => .err j e
      | .ok x j => pLoop s n (skipN s j) d (acc ++ [x])
    else .stop i acc
end
theorem atomN_gt {s : List UInt8} {i : Nat} (h : i < s.length) (hp : plainC (byt s i) = true) : i < atomN s i ∧ atomN s i ≤ s.length := by
  obtain ⟨k, hk⟩ : ∃ k, s.length - i = k + 1 := ⟨s.length - i - 1, by omega⟩
  unfold atomN
  rw [hk]; simp only [atomK, hp, if_true]
  have := atomK_le s k (i + 1)
  omega
theorem skipN_le {s : List UInt8} {i : Nat} (h : i ≤ s.length) : i ≤ skipN s i ∧ skipN s i ≤ s.length := skipK_le s _ i h
theorem p_le (s : List UInt8) : ∀ n, (∀ i d x j, i < s.length → pOne s n i d = .ok x j → i < j ∧ j ≤ s.length) ∧ (∀ i d acc j acc', i ≤ s.length → acc.length ≤ i → pLoop s n i d acc = .stop j acc' → i ≤ j ∧ j ≤ s.length ∧ acc'.length ≤ j)
  | 0 => ⟨fun i d x j hi h => by simp [pOne] at h, fun i d acc j acc' hi ha h => by simp [pLoop] at h; obtain ⟨rfl, rfl⟩ := h; exact ⟨Nat.le_refl _, hi, ha⟩⟩
  | n + 1 => by
    obtain ⟨h1, h2⟩ := p_le s n
    refine ⟨fun i d x j hi h => ?_, fun i d acc j acc' hi ha h => ?_⟩
    · simp only [pOne] at h
      have hk := skipN_le (s := s) (i := i + 1) (by omega)
      split at h
      · split at h
        · cases h
        · split at h
          · cases h
          · rename_i j' acc' hl
            have := h2 _ _ _ _ _ hk.2 (by simp) hl
            split at h
            · cases h
            · cases h; omega
      · split at h
        · rename_i hp
          split at h
          · cases h
          · cases h; exact atomN_gt hi hp
        · cases h
    · simp only [pLoop] at h
      split at h
      · rename_i hlt
        split at h
        · cases h; omega
        · split at h
          · cases h
          · rename_i x j' ho
            have := h1 _ _ _ _ hlt ho
            have hk := skipN_le (s := s) (i := j') (by omega)
            have := h2 _ _ _ _ _ hk.2 (by simp; omega) h
            omega
      · cases h; omega
theorem perr_both (s : List UInt8) : ∀ n, (∀ i d j e, pOne s n i d = .err j e → ¬ e = 0) ∧ (∀ i d acc j e, pLoop s n i d acc = .err j e → ¬ e = 0)
  | 0 => ⟨fun i d j e h => by simp [pOne] at h; obtain ⟨_, rfl⟩ := h; simp, fun i d acc j e h => by simp [pLoop] at h⟩
  | n + 1 => by
    obtain ⟨h1, h2⟩ := perr_both s n
    refine ⟨fun i d j e h => ?_, fun i d acc j e h => ?_⟩
    · simp only [pOne] at h
      repeat' split at h
      all_goals first
        | (cases h; done)
        | (cases h; simp; done)
        | (rename_i hl; cases h; exact h2 _ _ _ _ _ hl)
    · simp only [pLoop] at h
      repeat' split at h
      all_goals first
        | (cases h; done)
        | (rename_i hl; cases h; exact h1 _ _ _ _ hl)
        | exact h2 _ _ _ _ _ h
theorem perr_ne (s : List UInt8) (n i d j : Nat) (e : Int) (h : pOne s n i d = .err j e) : ¬ e = 0 := (perr_both s n).1 i d j e h
mutual
theorem S.av_closed (n : Nat) : ∀ t : S, AV.closed n t.av = true
  | .mk a o l => by simp [S.av, AV.closed, AV.closedL, S.avs_closed n l]
theorem S.avs_closed (n : Nat) : ∀ l : List S, AV.closedL n (S.avs l) = true
  | [] => rfl
  | t :: r => by simp [S.avs, AV.closedL, S.av_closed n t, S.avs_closed n r]
end
@[simp] theorem S.okSize_avs (l : List S) : okSize 2 (S.avs l) = true := by
  cases l with
  | nil => rfl
  | cons t r => simp [S.avs, S.av_eq]
def ownA (acc : List S) : Own := if acc.isEmpty then .nil else .own 2 0
@[simp] theorem ownA_cp (acc : List S) : (ownA acc).cp = ownB acc.isEmpty := by cases acc <;> rfl
@[simp] theorem ownA_app (acc : List S) (x : S) : ownA (acc ++ [x]) = .own 2 0 := by cases acc <;> rfl
theorem ownA_ok (acc : List S) : ownA acc = .nil ∨ ownA acc = .own 2 0 := by cases acc <;> simp [ownA]
section
variable {s : List UInt8}
end
end Go.Proofs.YtkofimhnehkdoaaGreatDoor.Rf
end
section
set_option linter.unusedSimpArgs false
set_option linter.unusedVariables false
namespace Go.Proofs.YtkofimhnehkdoaaGreatDoor.Rf
abbrev failAV (j : Nat) (e : Int) : AV := .iface 168 (.agg [.int .i64 j, .int .i64 e])
theorem fail_D (p q : Nat) (j e : Int) (hp : List HObj) (lo : Nat) : callD G0 IP n_sexpr_parser_fail [.ptr p q, .int .i64 j, .int .i64 e] hp lo false = some (.pan (.iface 168 (.agg [.int .i64 j, .int .i64 e])) hp) := by
  rw [callD_eq]
  simp [IP_sexpr_parser_fail, i_sexpr_parser_fail]
section
variable {hp : List HObj} {s : List UInt8} {lo : Nat}
theorem atom2_L (hs : s.length ≤ 65536) (hlo : lo ≤ hp.length) (f : Int) : ∀ (k i : Nat), i + k = s.length →
    loopD G0 IP lo l_sexpr_parser_expression_0 ⟨[(0, .ptr hp.length 0), (4, .box [.str [], .list [] .nil]), (6, .int .i64 f)], PH hp s i⟩ =
      some (.exit 0, ⟨[(0, .ptr hp.length 0), (4, .box [.str [], .list [] .nil]), (6, .int .i64 f), (66, .bool false)], PH hp s (atomK s k i)⟩)
  | 0, i, h => by
    rw [loopD_eq, loopBody]
    have : ¬ (i : Int) < (s.length : Int) := by omega
    simp [l_sexpr_parser_expression_0, this, atomK]
  | k + 1, i, h => by
    rw [loopD_eq, loopBody]
    have h1 : (i : Int) < (s.length : Int) := by omega
    obtain ⟨c, h2, hb⟩ := byt_some (s := s) (i := i) (by omega)
    have h3 := wrap_succ (i := i) (n := s.length) (by omega) (by omega)
    have ih := atom2_L hs hlo f k (i + 1) (by omega)
    simp only [atomK, hb]
    cases hc : plainC (c.toNat : Int)
    · simp [l_sexpr_parser_expression_0, h1, h2, hc, plain2_D]
    · simp [l_sexpr_parser_expression_0, h1, h2, hc, h3, plain2_D, hlo]
      exact ih
def outE (hp : List HObj) (s : List UInt8) : PR → COut
  | .ok x j => .ret x.av (PH hp s j)
  | .err j e => .pan (failAV j e) (PH hp s j)
def LRok (hp : List HObj) (s : List UInt8) : LR → Ex → St → Prop
  | .err j e, ex, st => ex = .pan (failAV j e) ∧ st.hp = PH hp s j
  | .stop j acc, ex, st => if j = s.length then ex = .pan (failAV j 6) ∧ st.hp = PH hp s j else ex = .ret ∧ st = ⟨[(4, .box [.str [], .list (S.avs acc) (ownB acc.isEmpty)])], PH hp s ((j + 1 : Nat) : Int)⟩
theorem expr_W (hs : s.length ≤ 65536) (hlo : lo ≤ hp.length) : ∀ n, (∀ (i d : Nat), i < s.length → d ≤ 64 → 2 * (s.length - i) ≤ n → callD G0 IP n_sexpr_parser_expression [.ptr hp.length 0, .int .i64 d] (PH hp s i) lo false = some (outE hp s (pOne s n i d))) ∧
    (∀ (i d : Nat) (acc : List S), i ≤ s.length → d < 64 → acc.length ≤ i → 2 * (s.length - skipN s i) + 1 ≤ n →
      ∃ ex st, loopD G0 IP lo l_sexpr_parser_expression_1 ⟨[(0, .ptr hp.length 0), (1, .int .i64 d), (4, .box [.str [], .list [] .nil]), (7, .box [.str [], .list (S.avs acc) (ownA acc)])], PH hp s i⟩ = some (ex, st) ∧ LRok hp s (pLoop s n (skipN s i) d acc) ex st) := by
  have hs' : s.length ≤ 9223372036854775807 := by omega
  intro n
  induction n with
  | zero => exact ⟨fun i d hi _ h => absurd h (by omega), fun i d acc hi _ _ h => absurd h (by omega)⟩
  | succ n ih =>
    obtain ⟨ih1, ih2⟩ := ih
    refine ⟨fun i d hi hd h => ?_, fun i d acc hi hd ha h => ?_⟩
    · rw [callD_eq]
      obtain ⟨c, h2, hb⟩ := byt_some (s := s) (i := i) hi
      have hw : IntKind.wrap .i64 ((i : Int) + 1) = (i : Int) + 1 := wrap_small (by omega) (by omega)
      have hwd : IntKind.wrap .i64 ((d : Int) + 1) = (d : Int) + 1 := wrap_small (by omega) (by omega)
      have hk := skipN_le (s := s) (i := i + 1) (by omega)
      simp only [pOne, hb]
      by_cases h40 : (c.toNat : Int) = 40
      · by_cases h64 : d ≥ 64
        · have h64' : (64 : Int) < (d : Int) + 1 := by omega
          simp [IP_sexpr_parser_expression, i_sexpr_parser_expression, h2, h40, h64, h64', hwd, outE, fail_D]
        · have h64' : ¬ (64 : Int) < (d : Int) + 1 := by omega
          obtain ⟨ex, st, e3, e4⟩ := ih2 (i + 1) d [] (by omega) (by omega) (by simp) (by omega)
          simp [ownA] at e3
          cases hx : pLoop s n (skipN s (i + 1)) d [] with
          | err j e =>
            rw [hx] at e4
            obtain ⟨rfl, e5⟩ := e4
            simp [IP_sexpr_parser_expression, i_sexpr_parser_expression, h2, h40, h64, h64', hwd, hw, hlo, outE, e3, e5]
          | stop j acc =>
            rw [hx] at e4
            simp only [LRok] at e4
            by_cases hjl : j = s.length
            · rw [if_pos hjl] at e4
              obtain ⟨rfl, e5⟩ := e4
              simp [IP_sexpr_parser_expression, i_sexpr_parser_expression, h2, h40, h64, h64', hwd, hw, hlo, outE, e3, e5, hjl]
            · rw [if_neg hjl] at e4
              obtain ⟨rfl, rfl⟩ := e4
              simp [IP_sexpr_parser_expression, i_sexpr_parser_expression, h2, h40, h64, h64', hwd, hw, hlo, outE, e3, hjl, S.av]
      · cases hc : plainC (c.toNat : Int)
        · simp [IP_sexpr_parser_expression, i_sexpr_parser_expression, h2, h40, hc, outE, fail_D, plain2_D]
        · by_cases h64 : d ≥ 64
          · have h64' : (64 : Int) < (d : Int) + 1 := by omega
            simp [IP_sexpr_parser_expression, i_sexpr_parser_expression, h2, h40, hc, h64, h64', hwd, outE, fail_D, plain2_D]
          · have h64' : ¬ (64 : Int) < (d : Int) + 1 := by omega
            have e2 := atom2_L (hp := hp) (lo := lo) hs hlo (i : Int) (s.length - i) i (by omega)
            have ha := atomN_gt (s := s) (i := i) hi (by rw [hb]; exact hc)
            unfold atomN at ha
            simp [IP_sexpr_parser_expression, i_sexpr_parser_expression, h2, h40, hc, h64, h64', hwd, outE, plain2_D, e2, ha.1, ha.2, Nat.le_of_lt ha.1, S.av, atomN, ownB]
    · rw [loopD_eq, loopBody]
      have e0 := skip2_D (hp := hp) (lo := lo) hs' hlo i hi
      have hk := skipN_le (s := s) (i := i) hi
      generalize hj : skipN s i = j at *
      simp only [pLoop]
      by_cases h0 : j < s.length
      · have h1 : ¬ (j : Int) = (s.length : Int) := by omega
        obtain ⟨c, h2, hb⟩ := byt_some (s := s) (i := j) h0
        simp only [if_pos h0, hb]
        by_cases h41 : (c.toNat : Int) = 41
        · have hw : IntKind.wrap .i64 ((j : Int) + 1) = (j : Int) + 1 := wrap_small (by omega) (by omega)
          have h1' : ¬ j = s.length := by omega
          refine ⟨.ret, ⟨[(4, .box [.str [], .list (S.avs acc) (ownB acc.isEmpty)])], PH hp s ((j + 1 : Nat) : Int)⟩, ?_, ?_⟩
          · simp [l_sexpr_parser_expression_1, e0, h1, h2, h41, hw, hlo]
          · simp only [h41, if_true, LRok]
            rw [if_neg h1']
            simp
        · have e1 : callD G0 IP n_sexpr_parser_expression [.ptr hp.length 0, .int .i64 ((d : Int) + 1)] (PH hp s j) lo false = some (outE hp s (pOne s n j (d + 1))) := ih1 j (d + 1) h0 (by omega) (by omega)
          have hw : IntKind.wrap .i64 ((d : Int) + 1) = (d : Int) + 1 := wrap_small (by omega) (by omega)
          have he := (p_le s n).1 j (d + 1)
          simp only [if_neg h41]
          cases hx : pOne s n j (d + 1) with
          | err k e =>
            rw [hx] at e1
            simp only [outE] at e1
            simp [l_sexpr_parser_expression_1, e0, h1, h2, h41, hw, e1]
            exact ⟨_, _, ⟨rfl, rfl⟩, rfl, rfl⟩
          | ok x k =>
            rw [hx] at e1
            simp only [outE] at e1
            obtain ⟨hj1, hj2⟩ := he x k h0 hx
            have hsk := skipN_le (s := s) (i := k) hj2
            obtain ⟨ex, st, e3, e4⟩ := ih2 k d (acc ++ [x]) hj2 hd (by simp; omega) (by omega)
            have hb1 : (acc.length + 1) * 40 ≤ 140737488355328 := by omega
            have hb2 : acc.length + 1 ≤ 9223372036854775807 := by omega
            rw [S.av_eq] at e1
            rw [S.avs_app, ownA_app, show S.avs [x] = [.agg [.str x.atom, .list (S.avs x.list) (ownB x.o)]] by simp [S.avs, S.av_eq]] at e3
            refine ⟨ex, st, ?_, e4⟩
            simp [l_sexpr_parser_expression_1, e0, h1, h2, h41, hw, e1, hb1, hb2, ownA_ok]
            exact e3
      · have h1' : j = s.length := by omega
        subst h1'
        simp only [if_neg h0, LRok, if_true]
        simp [l_sexpr_parser_expression_1, e0, fail_D]
        exact ⟨_, _, ⟨rfl, rfl⟩, rfl, rfl⟩
end
end Go.Proofs.YtkofimhnehkdoaaGreatDoor.Rf
end
section
set_option linter.unusedSimpArgs false
set_option linter.unusedVariables false
namespace Go.Proofs.YtkofimhnehkdoaaGreatDoor.Rf
inductive PTR where
  | ok (l : List S) (st : List Nat)
  | err (i : Nat) (code : Int)
def pTop (s : List UInt8) : Nat → Nat → List S → List Nat → PTR
  | 0, _, acc, st => .ok acc st
  | n + 1, i, acc, st =>
    if i < s.length then
      match pOne s (2 * s.length) i 0 with
      | .err j e => .err j e
      | .ok x j => pTop s n (skipN s j) (acc ++ [x]) (st ++ [i])
    else .ok acc st
def pAll (s : List UInt8) : PTR := if s.length > 65536 then .err 0 7 else pTop s (s.length + 1) (skipN s 0) [] []
section
variable {s : List UInt8} {hp : List HObj} {lo : Nat}
abbrev intsA (l : List Nat) : List AV := l.map fun n : Nat => AV.int .i64 (n : Int)
def ownI (l : List Nat) : Own := if l.isEmpty then .nil else .own 1 0
@[simp] theorem ownI_cp (l : List Nat) : (ownI l).cp = ownB l.isEmpty := by cases l <;> rfl
@[simp] theorem ownI_app (l : List Nat) (x : Nat) : ownI (l ++ [x]) = .own 1 0 := by cases l <;> rfl
theorem ownI_ok (l : List Nat) : ownI l = .nil ∨ ownI l = .own 1 0 := by cases l <;> simp [ownI]
@[simp] theorem okSize_ints (l : List Nat) : okSize 1 (intsA l) = true := by cases l <;> simp [intsA]
def PTRok (hp : List HObj) (s : List UInt8) : PTR → Ex → St → Prop
  | .err j e, ex, st => ex = .pan (failAV j e) ∧ st.hp = PH hp s j ∧ ∃ v2 v3 v4 v5, st.fr.get 2 = .box [v2] ∧ st.fr.get 3 = .box [v3] ∧ st.fr.get 4 = .box [v4] ∧ st.fr.get 5 = .box [v5]
  | .ok l st', ex, st => ex = .exit 0 ∧ st = ⟨[(0, .str s), (2, .box [.list (S.avs l) (ownA l)]), (3, .box [.list (intsA st') (ownI st')]), (4, .box [.int .i64 0]), (5, .box [.int .i64 0]), (6, .ptr hp.length 0), (22, .bool false)], PH hp s s.length⟩
theorem top2_L (hs : s.length ≤ 65536) (hlo : lo ≤ hp.length) : ∀ (n i : Nat) (acc : List S) (st : List Nat), i ≤ s.length → acc.length ≤ i → st.length ≤ i → s.length - i < n →
    ∃ ex st', loopD G0 IP lo l_sexpr_all_0 ⟨[(0, .str s), (2, .box [.list (S.avs acc) (ownA acc)]), (3, .box [.list (intsA st) (ownI st)]), (4, .box [.int .i64 0]), (5, .box [.int .i64 0]), (6, .ptr hp.length 0)], PH hp s i⟩ = some (ex, st') ∧ PTRok hp s (pTop s n i acc st) ex st' := by
  have hs' : s.length ≤ 9223372036854775807 := by omega
  intro n
  induction n with
  | zero => intro i acc st hi ha _ h; omega
  | succ n ih =>
    intro i acc st hi ha hst h
    rw [loopD_eq, loopBody]
    simp only [pTop]
    by_cases h0 : i < s.length
    · have h1 : (i : Int) < (s.length : Int) := by omega
      have e1 : callD G0 IP n_sexpr_parser_expression [.ptr hp.length 0, .int .i64 0] (PH hp s i) lo false = some (outE hp s (pOne s (2 * s.length) i 0)) := (expr_W hs hlo (2 * s.length)).1 i 0 h0 (by omega) (by omega)
      have hc1 : (st.length + 1) * 8 ≤ 140737488355328 := by omega
      have hc2 : st.length + 1 ≤ 9223372036854775807 := by omega
      simp only [if_pos h0]
      cases hx : pOne s (2 * s.length) i 0 with
      | err j e =>
        rw [hx] at e1
        simp only [outE] at e1
        simp [l_sexpr_all_0, h1, e1, hc1, hc2, ownI_ok]
        exact ⟨_, _, ⟨rfl, rfl⟩, rfl, rfl, _, _, _, _, rfl, rfl, rfl, rfl⟩
      | ok x j =>
        rw [hx] at e1
        simp only [outE] at e1
        obtain ⟨hj1, hj2⟩ := (p_le s _).1 i 0 x j h0 hx
        have hsk := skipN_le (s := s) (i := j) hj2
        have e2 := skip2_D (hp := hp) (lo := lo) hs' hlo j hj2
        obtain ⟨ex, st', e3, e4⟩ := ih (skipN s j) (acc ++ [x]) (st ++ [i]) hsk.2 (by simp; omega) (by simp; omega) (by omega)
        have hb1 : (acc.length + 1) * 40 ≤ 140737488355328 := by omega
        have hb2 : acc.length + 1 ≤ 9223372036854775807 := by omega
        rw [S.av_eq] at e1
        rw [S.avs_app, ownA_app, ownI_app, show S.avs [x] = [.agg [.str x.atom, .list (S.avs x.list) (ownB x.o)]] by simp [S.avs, S.av_eq]] at e3
        refine ⟨ex, st', ?_, e4⟩
        simp [l_sexpr_all_0, h1, e1, e2, hb1, hb2, hc1, hc2, ownA_ok, ownI_ok, Fr.noLast]
        rw [show intsA (st ++ [i]) = intsA st ++ [AV.int .i64 (i : Int)] by simp [intsA]] at e3
        exact e3
    · have h1 : i = s.length := by omega
      subst h1
      simp only [if_neg h0, PTRok]
      simp [l_sexpr_all_0]
theorem recv_D (hp : List HObj) (v2 v3 v4 v5 : AV) (j : Nat) (e : Int) (lo : Nat) (hlo : lo ≤ hp.length) : evalRecv G0 IP (callD G0 IP) (loopD G0 IP lo) lo n_sexpr_all_1 [.ptr hp.length 0, .ptr (hp.length + 1) 0, .ptr (hp.length + 2) 0, .ptr (hp.length + 3) 0]
    (hp ++ [.cells 0 [v2], .cells 0 [v3], .cells 0 [v4], .cells 0 [v5]]) (failAV j e) = some (hp ++ [.cells 0 [.list [] .nil], .cells 0 [.list [] .nil], .cells 0 [.int .i64 j], .cells 0 [.int .i64 e]]) := by
  have h1 : lo ≤ hp.length + 1 := by omega
  have h2 : lo ≤ hp.length + 2 := by omega
  have h3 : lo ≤ hp.length + 3 := by omega
  simp [IP_sexpr_all_1, i_sexpr_all_1, hlo, h1, h2, h3, List.getElem?_append_right, List.set_append_right]
theorem recv0_D (hp : List HObj) (v2 v3 v4 v5 : AV) (lo : Nat) : evalRecv G0 IP (callD G0 IP) (loopD G0 IP lo) lo n_sexpr_all_1 [.ptr hp.length 0, .ptr (hp.length + 1) 0, .ptr (hp.length + 2) 0, .ptr (hp.length + 3) 0]
    (hp ++ [.cells 0 [v2], .cells 0 [v3], .cells 0 [v4], .cells 0 [v5]]) .nili = some (hp ++ [.cells 0 [v2], .cells 0 [v3], .cells 0 [v4], .cells 0 [v5]]) := by
  simp [IP_sexpr_all_1, i_sexpr_all_1]
end
end Go.Proofs.YtkofimhnehkdoaaGreatDoor.Rf
end
section
set_option linter.unusedSimpArgs false
set_option linter.unusedVariables false
namespace Go.Proofs.YtkofimhnehkdoaaGreatDoor.Rf
def outAll : PTR → AV
  | .ok l st => .tup [.list (S.avs l) (ownB l.isEmpty), .list (intsA st) (ownB st.isEmpty), .int .i64 0, .int .i64 0]
  | .err j e => .tup [.list [] .nil, .list [] .nil, .int .i64 j, .int .i64 e]
theorem ints_closed (n : Nat) : ∀ l : List Nat, AV.closedL n (intsA l) = true
  | [] => rfl
  | x :: r => by simp [intsA, AV.closedL]; simpa [intsA] using ints_closed n r
theorem PH_fold (hp : List HObj) (s : List UInt8) (v : Int) : hp ++ [.cells 0 [.str s, .int .i64 v, .list [] .nil]] = PH hp s v := rfl
theorem get4_2 {α : Type} (xs : List α) (a b c d : α) (h : xs.length + 1 + 1 < (xs ++ [a, b, c, d]).length) : (xs ++ [a, b, c, d])[xs.length + 1 + 1] = c := by
  rw [List.getElem_append_right (by omega)]
  simp [show xs.length + 1 + 1 - xs.length = 2 by omega]
theorem get4_3 {α : Type} (xs : List α) (a b c d : α) (h : xs.length + 1 + 1 + 1 < (xs ++ [a, b, c, d]).length) : (xs ++ [a, b, c, d])[xs.length + 1 + 1 + 1] = d := by
  rw [List.getElem_append_right (by omega)]
  simp [show xs.length + 1 + 1 + 1 - xs.length = 3 by omega]
section
variable {s : List UInt8} {hp : List HObj} {lo : Nat}
theorem all_D (q : Bool) : callD G0 IP n_sexpr_all [.str s] hp lo q = some (.ret (outAll (pAll s)) hp) := by
  rw [callD_eq]
  by_cases hs : s.length ≤ 65536
  · have h1 : ¬ (65536 : Int) < (s.length : Int) := by omega
    have h1' : ¬ s.length > 65536 := by omega
    have e2 : callD G0 IP n_sexpr_parser_skip [.ptr hp.length 0] (PH hp s 0) hp.length false = some (.ret (.tup []) (PH hp s (skipN s 0))) := skip2_D (by omega) (Nat.le_refl _) 0 (by omega)
    have hk := skipN_le (s := s) (i := 0) (by omega)
    obtain ⟨ex, st', e3, e4⟩ := top2_L (hp := hp) (lo := hp.length) hs (Nat.le_refl _) (s.length + 1) (skipN s 0) [] [] hk.2 (by simp) (by simp) (by omega)
    simp [ownA, ownI] at e3
    simp only [pAll, if_neg h1']
    cases hx : pTop s (s.length + 1) (skipN s 0) [] [] with
    | err j e =>
      rw [hx] at e4
      obtain ⟨rfl, e5, v2, v3, v4, v5, g2, g3, g4, g5⟩ := e4
      have hr := recv_D (PH hp s j) v2 v3 v4 v5 j e hp.length (by rw [PH_len]; omega)
      simp [-evalRecv, IP_sexpr_all, i_sexpr_all, h1, PH_fold, e2, e3, e5, g2, g3, g4, g5, hr, outAll, get4_2, get4_3]
    | ok l st =>
      rw [hx] at e4
      obtain ⟨rfl, rfl⟩ := e4
      simp [-evalRecv, IP_sexpr_all, i_sexpr_all, h1, PH_fold, e2, e3, recv0_D, outAll, get4_2, get4_3, S.avs_closed, ints_closed]
  · have h1 : (65536 : Int) < (s.length : Int) := by omega
    have h1' : s.length > 65536 := by omega
    simp [IP_sexpr_all, i_sexpr_all, h1, pAll, h1', outAll]
end
end Go.Proofs.YtkofimhnehkdoaaGreatDoor.Rf
end
section
set_option linter.unusedSimpArgs false
set_option linter.unusedVariables false
namespace Go.Proofs.YtkofimhnehkdoaaGreatDoor.Rf
theorem top_err (s : List UInt8) : ∀ n i acc st j e, pTop s n i acc st = .err j e → ¬ e = 0
  | 0, i, acc, st, j, e, h => by simp [pTop] at h
  | n + 1, i, acc, st, j, e, h => by
    simp only [pTop] at h
    split at h
    · split at h
      · rename_i hx; cases h; exact perr_ne s _ _ _ _ _ hx
      · exact top_err s n _ _ _ _ _ h
    · cases h
theorem pAll_err {s : List UInt8} {j : Nat} {e : Int} (h : pAll s = .err j e) : ¬ e = 0 := by
  unfold pAll at h
  split at h
  · cases h; simp
  · exact top_err s _ _ _ _ _ _ h
theorem pAll_len {s : List UInt8} {l : List S} {st : List Nat} (h : pAll s = .ok l st) : st.length = l.length := by
  have : ∀ n i acc st l st', acc.length = st.length → pTop s n i acc st = .ok l st' → st'.length = l.length := by
    intro n
    induction n with
    | zero => intro i acc st l st' ha h; simp [pTop] at h; obtain ⟨rfl, rfl⟩ := h; exact ha.symm
    | succ n ih =>
      intro i acc st l st' ha h
      simp only [pTop] at h
      split at h
      · split at h
        · cases h
        · exact ih _ _ _ _ _ (by simp [ha]) h
      · cases h; exact ha.symm
  unfold pAll at h
  split at h
  · cases h
  · exact this _ _ _ _ _ _ rfl h
def outS1 (s : List UInt8) : PTR → AV
  | .err j e => .tup [.agg [.str [], .list [] .nil], .int .i64 j, .int .i64 e]
  | .ok [] _ => .tup [.agg [.str [], .list [] .nil], .int .i64 s.length, .int .i64 6]
  | .ok [x] _ => .tup [x.av, .int .i64 0, .int .i64 0]
  | .ok (_ :: _ :: _) st => .tup [.agg [.str [], .list [] .nil], .int .i64 (st.getD 1 0 : Nat), .int .i64 6]
section
variable {s : List UInt8} {hp : List HObj} {lo : Nat}
theorem parse2_D (q : Bool) : callD G0 IP n_sexpr_Parse [.str s] hp lo q = some (.ret (outS1 s (pAll s)) hp) := by
  rw [callD_eq]
  have e1 : ∀ q, callD G0 IP n_sexpr_all [.str s] hp hp.length q = some (.ret (outAll (pAll s)) hp) := fun q => all_D q
  cases hx : pAll s with
  | err j e =>
    simp only [hx, outAll] at e1
    have hne := pAll_err hx
    simp [IP_sexpr_Parse, i_sexpr_Parse, e1, outS1, hne]
  | ok l st =>
    simp only [hx, outAll] at e1
    have hlen := pAll_len hx
    match l, st, hlen, e1 with
    | [], st, hlen, e1 =>
      simp at e1
      simp [IP_sexpr_Parse, i_sexpr_Parse, e1, outS1]
    | [x], st, hlen, e1 =>
      simp [S.avs, S.av_eq x] at e1
      have hc := S.av_closed hp.length x
      simp [S.av_eq x, AV.closed, AV.closedL] at hc
      simp [IP_sexpr_Parse, i_sexpr_Parse, e1, outS1, S.av_eq x, S.avs_closed]
    | x :: y :: l, st, hlen, e1 =>
      obtain ⟨b0, b1, r, rfl⟩ : ∃ b0 b1 r, st = b0 :: b1 :: r := by
        match st, hlen with
        | b0 :: b1 :: r, _ => exact ⟨b0, b1, r, rfl⟩
      simp [S.avs, intsA] at e1
      have h1 : (1 : Int) < (l.length : Int) + 1 + 1 := by omega
      have h0 : ¬ (l.length : Int) + 1 + 1 = 0 := by omega
      have h2 : (1 : Int) < (r.length : Int) + 1 + 1 := by omega
      simp [IP_sexpr_Parse, i_sexpr_Parse, e1, outS1, h0, h1, h2]
end
end Go.Proofs.YtkofimhnehkdoaaGreatDoor.Rf
end
section
set_option linter.unusedSimpArgs false
set_option linter.unusedVariables false
namespace Go.Proofs.YtkofimhnehkdoaaGreatDoor.Rf
section
variable {hp : List HObj} {lo : Nat}
theorem sames_of {as : List S} (ih : ∀ t, t ∈ as → ∀ (u : S) (hp : List HObj) (lo : Nat) (q : Bool), callD G0 IP n_saturateref05_Same [t.av, u.av] hp lo q = some (.ret (.bool (t.same u)) hp)) (bs : List S) (hl : as.length ≤ 9223372036854775807) (o1 o2 : Own) (hp : List HObj) (lo : Nat) (q : Bool) :
    callD G0 IP n_saturateref05_SameAll [.list (S.avs as) o1, .list (S.avs bs) o2] hp lo q = some (.ret (.bool (S.sames as bs)) hp) := by
  rw [callD_eq]
  by_cases he : as.length = bs.length
  · have hloop := loop_find (G := G0) (IP := IP) (lo := hp.length) (b := l_saturateref05_SameAll_0)
      (fun i => ⟨[(0, .list (S.avs as) o1), (1, .list (S.avs bs) o2), (5, .int .i64 i)], hp⟩) as.length (fun i => !(as.getD i (.mk [] true [])).same (bs.getD i (.mk [] true [])))
      (.ret, ⟨[(4, .bool false)], hp⟩) (.exit 0, ⟨[(0, .list (S.avs as) o1), (1, .list (S.avs bs) o2), (5, .int .i64 as.length), (14, .bool false)], hp⟩)
      (fun i hi hp1 => by
        have hi2 : i < bs.length := by omega
        have e1 := ih as[i] (List.getElem_mem hi) bs[i] hp hp.length true
        have h2 : as[i].same bs[i] = true := by simpa [hi, hi2] using hp1
        rw [h2, S.av_eq, S.av_eq] at e1
        have hiI : (i : Int) < (as.length : Int) := by omega
        have hiI2 : (i : Int) < (bs.length : Int) := by omega
        have hw := wrap_succ hi hl
        simp [l_saturateref05_SameAll_0, hi, hi2, hiI, hiI2, S.av_eq as[i], S.av_eq bs[i], e1, hw])
      (fun i hi hp1 => by
        have hi2 : i < bs.length := by omega
        have e1 := ih as[i] (List.getElem_mem hi) bs[i] hp hp.length true
        have h2 : as[i].same bs[i] = false := by simpa [hi, hi2] using hp1
        rw [h2, S.av_eq, S.av_eq] at e1
        have hiI : (i : Int) < (as.length : Int) := by omega
        have hiI2 : (i : Int) < (bs.length : Int) := by omega
        simp [l_saturateref05_SameAll_0, hi, hi2, hiI, hiI2, S.av_eq as[i], S.av_eq bs[i], e1])
      (fun s => by simp) (by simp [l_saturateref05_SameAll_0]) (fun s => by simp)
    have hI : (as.length : Int) = (bs.length : Int) := by omega
    rw [S.sames_eq as bs he]
    simp only [Int.natCast_zero] at hloop
    cases hany : (List.range as.length).any fun i => !(as.getD i (.mk [] true [])).same (bs.getD i (.mk [] true []))
    · rw [hany] at hloop
      simp only [Bool.false_eq_true, if_false] at hloop
      simp [IP_saturateref05_SameAll, i_saturateref05_SameAll, hI, hloop]
    · rw [hany] at hloop
      simp only [if_true] at hloop
      simp [IP_saturateref05_SameAll, i_saturateref05_SameAll, hI, hloop]
  · have hI : ¬ (as.length : Int) = (bs.length : Int) := by omega
    rw [S.sames_len as bs he]
    simp [IP_saturateref05_SameAll, i_saturateref05_SameAll, hI]
theorem ref_same_D (t : S) : t.wf → ∀ (u : S) (hp : List HObj) (lo : Nat) (q : Bool), callD G0 IP n_saturateref05_Same [t.av, u.av] hp lo q = some (.ret (.bool (t.same u)) hp) := by
  induction t using S.ind with | h t ih =>
  intro hw u hp lo q
  rw [S.wf_eq] at hw
  have e1 := fun q => sames_of (as := t.list) (fun x hx => ih x hx (hw.2.2.2 x hx)) u.list hw.2.1 (ownB t.o) (ownB u.o) hp hp.length q
  rw [callD_eq, S.same_eq]
  rw [S.av_eq t, S.av_eq u]
  by_cases hc : t.atom = u.atom
  · simp [IP_saturateref05_Same, i_saturateref05_Same, hc, e1]
  · simp [IP_saturateref05_Same, i_saturateref05_Same, hc]
end
end Go.Proofs.YtkofimhnehkdoaaGreatDoor.Rf
end
section
set_option linter.unusedSimpArgs false
set_option linter.unusedVariables false
namespace Go.Proofs.YtkofimhnehkdoaaGreatDoor.Rf
@[simp] theorem cp_data (xs : List AV) (e : Nat) : AV.cp (.data xs e) = .data xs e := rfl
abbrev bytesA (bs : List UInt8) : List AV := bs.map fun b => AV.int .u8 (b.toNat : Int)
def BW (hp : List HObj) (bs : List UInt8) : List HObj := hp ++ [.cells 110 [.ptr hp.length 0, .list (bytesA bs) (.own 1 5)]]
def B0 (hp : List HObj) : List HObj := hp ++ [.cells 110 [.nilp, .list [] .nil]]
def BH (hp : List HObj) (bs : List UInt8) : List HObj := if bs = [] then B0 hp else BW hp bs
section
variable {hp : List HObj} {lo : Nat}
@[simp] theorem BW_get (bs : List UInt8) : (BW hp bs)[hp.length]? = some (.cells 110 [.ptr hp.length 0, .list (bytesA bs) (.own 1 5)]) := by simp [BW]
@[simp] theorem B0_get : (B0 hp)[hp.length]? = some (.cells 110 [.nilp, .list [] .nil]) := by simp [B0]
@[simp] theorem okSize_bytes (bs : List UInt8) : okSize 1 (bytesA bs) = true := by cases bs <;> simp [bytesA]
theorem copyW_D (hlo : lo ≤ hp.length) (bs : List UInt8) : callD G0 IP n_strings_Builder_copyCheck [.ptr hp.length 0] (BW hp bs) lo false = some (.ret (.tup []) (BW hp bs)) := by
  rw [callD_eq]
  simp [IP_strings_Builder_copyCheck, i_strings_Builder_copyCheck]
theorem copy0_D (hlo : lo ≤ hp.length) : callD G0 IP n_strings_Builder_copyCheck [.ptr hp.length 0] (B0 hp) lo false = some (.ret (.tup []) (hp ++ [.cells 110 [.ptr hp.length 0, .list [] .nil]])) := by
  rw [callD_eq]
  simp [IP_strings_Builder_copyCheck, i_strings_Builder_copyCheck, hlo]
  simp [B0]
theorem wbyte_D (hlo : lo ≤ hp.length) (bs : List UInt8) (c : UInt8) (hb : bs.length + 1 ≤ 140737488355328) : callD G0 IP n_strings_Builder_WriteByte [.ptr hp.length 0, .int .u8 c.toNat] (BH hp bs) lo false = some (.ret .nili (BH hp (bs ++ [c]))) := by
  rw [callD_eq]
  have h63 : bs.length + 1 ≤ 9223372036854775807 := by omega
  by_cases h0 : bs = []
  · subst h0
    have e1 := copy0_D (hp := hp) (lo := lo) hlo
    simp [IP_strings_Builder_WriteByte, i_strings_Builder_WriteByte, BH, e1, hlo]
    simp [BW]
  · have e1 := copyW_D (hp := hp) (lo := lo) hlo bs
    simp [IP_strings_Builder_WriteByte, i_strings_Builder_WriteByte, BH, h0, e1, hlo, hb, h63]
    simp [BW]
theorem wstr_D (hlo : lo ≤ hp.length) (bs cs : List UInt8) (hc : cs ≠ []) (hb : bs.length + cs.length ≤ 140737488355328) : callD G0 IP n_strings_Builder_WriteString [.ptr hp.length 0, .str cs] (BH hp bs) lo false = some (.ret (.tup [.int .i64 cs.length, .nili]) (BH hp (bs ++ cs))) := by
  rw [callD_eq]
  have h63 : bs.length + cs.length ≤ 9223372036854775807 := by omega
  by_cases h0 : bs = []
  · subst h0
    have e1 := copy0_D (hp := hp) (lo := lo) hlo
    have hb' : cs.length ≤ 140737488355328 := by simpa using hb
    have h63' : cs.length ≤ 9223372036854775807 := by omega
    simp [IP_strings_Builder_WriteString, i_strings_Builder_WriteString, BH, e1, hlo, hc, hb', h63']
    simp [BW]
  · have e1 := copyW_D (hp := hp) (lo := lo) hlo bs
    simp [IP_strings_Builder_WriteString, i_strings_Builder_WriteString, BH, h0, hc, e1, hlo, hb, h63]
    simp [BW]
theorem bytesOf_bytes : ∀ bs : List UInt8, bytesOf (bytesA bs) = some bs
  | [] => rfl
  | b :: r => by
    have h := bytesOf_bytes r
    have h1 : (b.toNat : Int) < 256 := by have := b.toNat_lt; omega
    simp only [bytesA, List.map_cons, bytesOf]
    rw [if_pos ⟨by omega, h1⟩]
    simp only [bytesA] at h
    rw [h]; simp
theorem bstr_D (hlo : lo ≤ hp.length) (bs : List UInt8) (hb : bs.length ≤ 140737488355328) : callD G0 IP n_strings_Builder_String [.ptr hp.length 0] (BH hp bs) lo false = some (.ret (.str bs) (BH hp bs)) := by
  rw [callD_eq]
  have h63 : (bs.length : Int) ≤ 9223372036854775807 := by omega
  by_cases h0 : bs = []
  · subst h0
    simp [IP_strings_Builder_String, i_strings_Builder_String, BH]
  · have h1 := bytesOf_bytes bs
    simp only [bytesA] at h1
    simp [IP_strings_Builder_String, i_strings_Builder_String, BH, h0, Own.cp_own, Own.cp_view, h1, h63]
end
mutual
def S.text : S → List UInt8
  | .mk a _ l => if a = [] then 40 :: (S.texts true l ++ [41]) else a
def S.texts : Bool → List S → List UInt8
  | _, [] => []
  | b, t :: r => (if b then [] else [32]) ++ (t.text ++ S.texts false r)
end
theorem S.text_eq (t : S) : t.text = if t.atom = [] then 40 :: (S.texts true t.list ++ [41]) else t.atom := by cases t; rfl
theorem S.texts_app (b : Bool) : ∀ (l : List S) (t : S), S.texts b (l ++ [t]) = S.texts b l ++ ((if b && l.isEmpty then [] else [32]) ++ t.text)
  | [], t => by cases b <;> simp [S.texts]
  | u :: r, t => by
    rw [List.cons_append]
    simp only [S.texts]
    rw [S.texts_app false r t]
    simp
section
variable {hp : List HObj} {lo : Nat}
theorem texts_take_len {b : Bool} {l : List S} {i : Nat} (h : i < l.length) : S.texts b (l.take (i + 1)) = S.texts b (l.take i) ++ ((if b && decide (i = 0) then [] else [32]) ++ l[i].text) := by
  rw [List.take_succ_eq_append_getElem h, S.texts_app]
  have : (l.take i).isEmpty = decide (i = 0) := by
    cases i with
    | zero => simp
    | succ i => cases l with
      | nil => simp at h
      | cons x r => simp
  rw [this]
theorem texts_le {b : Bool} (l : List S) (i : Nat) : (S.texts b (l.take i)).length ≤ (S.texts b l).length := by
  have : ∀ (l : List S) (b : Bool) (i : Nat), (S.texts b (l.take i)).length ≤ (S.texts b l).length := by
    intro l
    induction l with
    | nil => intro b i; simp
    | cons x r ih =>
      intro b i
      cases i with
      | zero => simp [S.texts]
      | succ i =>
        simp only [List.take_succ_cons, S.texts, List.length_append]
        have := ih false i
        omega
  exact this l b i
theorem write_D (t : S) : t.wf → ∀ {hp : List HObj} {lo : Nat}, lo ≤ hp.length → ∀ (bs : List UInt8), bs.length + t.text.length ≤ 140737488355328 → callD G0 IP n_sexpr_write [.ptr hp.length 0, t.av] (BH hp bs) lo false = some (.ret (.tup []) (BH hp (bs ++ t.text))) := by
  induction t using S.ind with | h t ih =>
  intro hw hp lo hlo bs hb
  rw [S.wf_eq] at hw
  obtain ⟨_, hl, _, hws⟩ := hw
  rw [callD_eq]
  have ht := S.text_eq t
  by_cases ha : t.atom = []
  · rw [if_pos ha] at ht
    rw [ht] at hb ⊢
    simp only [List.length_cons, List.length_append, List.length_nil] at hb
    have e1 := wbyte_D (hp := hp) (lo := lo) hlo bs 40 (by omega)
    have e2 := wbyte_D (hp := hp) (lo := lo) hlo (bs ++ 40 :: S.texts true t.list) 41 (by simp; omega)
    have hloop := loop_iter (G := G0) (IP := IP) (lo := lo) (b := l_sexpr_write_0)
      (fun i => ⟨[(0, .ptr hp.length 0), (16, .list (S.avs t.list) (ownB t.o)), (17, .int .i64 t.list.length), (18, .int .i64 i)], BH hp (bs ++ 40 :: S.texts true (t.list.take i))⟩) t.list.length
      (r := (.exit 0, ⟨[(0, .ptr hp.length 0), (16, .list (S.avs t.list) (ownB t.o)), (17, .int .i64 t.list.length), (18, .int .i64 t.list.length), (19, .bool false)], BH hp (bs ++ 40 :: S.texts true t.list)⟩)) (fun i hi => by
        have hle := texts_le (b := true) t.list (i + 1)
        rw [texts_take_len hi] at hle
        simp only [List.length_append] at hle
        have hw := wrap_succ hi hl
        have hiI : (i : Int) < (t.list.length : Int) := by omega
        by_cases h0 : i = 0
        · subst h0
          have e3 := ih t.list[0] (List.getElem_mem hi) (hws _ (List.getElem_mem hi)) hlo (bs ++ [40]) (by simp at hle ⊢; omega)
          rw [S.av_eq] at e3
          rw [texts_take_len hi]
          simp [l_sexpr_write_0, hi, S.av_eq t.list[0], S.texts] at e3 ⊢
          simp [e3, show IntKind.wrap .i64 1 = 1 from rfl]
        · have h0' : 0 < i := by omega
          have hle2 : ((if true && decide (i = 0) then ([] : List UInt8) else [32])).length = 1 := by simp [h0]
          rw [hle2] at hle
          have e4 := wbyte_D (hp := hp) (lo := lo) hlo (bs ++ 40 :: S.texts true (t.list.take i)) 32 (by simp; omega)
          have e3 := ih t.list[i] (List.getElem_mem hi) (hws _ (List.getElem_mem hi)) hlo (bs ++ 40 :: S.texts true (t.list.take i) ++ [32]) (by simp; omega)
          rw [S.av_eq] at e3
          rw [texts_take_len hi, ← hw]
          simp at e3 e4
          simp [l_sexpr_write_0, hi, hiI, h0, h0', S.av_eq t.list[i], e3, e4])
      (by simp [l_sexpr_write_0]) (by simp)
    simp [S.texts] at hloop
    simp at e1 e2
    rw [S.av_eq t]
    simp [IP_sexpr_write, i_sexpr_write, ha, e1, e2, hloop]
  · rw [if_neg ha] at ht
    rw [ht] at hb ⊢
    have e1 := wstr_D (hp := hp) (lo := lo) hlo bs t.atom ha hb
    rw [S.av_eq t]
    simp [IP_sexpr_write, i_sexpr_write, ha, e1]
end
end Go.Proofs.YtkofimhnehkdoaaGreatDoor.Rf
end
section
set_option linter.unusedSimpArgs false
set_option linter.unusedVariables false
namespace Go.Proofs.YtkofimhnehkdoaaGreatDoor.Rf
section
variable {hp : List HObj} {lo : Nat} (q : Bool)
def hasPre (s p : List UInt8) : Bool := decide (p.length ≤ s.length) && decide (s.take p.length = p)
theorem hasPreL_D (s p : List UInt8) : callD G0 IP n_internal_stringslite_HasPrefix [.str s, .str p] hp lo q = some (.ret (.bool (hasPre s p)) hp) := by
  rw [callD_eq]
  by_cases h : p.length ≤ s.length
  · have h1 : (p.length : Int) ≤ (s.length : Int) := by omega
    simp [IP_internal_stringslite_HasPrefix, i_internal_stringslite_HasPrefix, h, h1, hasPre]
  · have h1 : ¬ (p.length : Int) ≤ (s.length : Int) := by omega
    simp [IP_internal_stringslite_HasPrefix, i_internal_stringslite_HasPrefix, h, h1, hasPre]
theorem hasPre_D (s p : List UInt8) : callD G0 IP n_strings_HasPrefix [.str s, .str p] hp lo q = some (.ret (.bool (hasPre s p)) hp) := by
  rw [callD_eq]
  simp [IP_strings_HasPrefix, i_strings_HasPrefix, hasPreL_D]
theorem cutPreL_D (s p : List UInt8) : callD G0 IP n_internal_stringslite_CutPrefix [.str s, .str p] hp lo q = some (.ret (.tup [.str (if hasPre s p then s.drop p.length else s), .bool (hasPre s p)]) hp) := by
  rw [callD_eq]
  cases h : hasPre s p with
  | true =>
    have h1 : p.length ≤ s.length := by simp [hasPre] at h; exact h.1
    simp [IP_internal_stringslite_CutPrefix, i_internal_stringslite_CutPrefix, hasPreL_D, h, h1]
  | false => simp [IP_internal_stringslite_CutPrefix, i_internal_stringslite_CutPrefix, hasPreL_D, h]
theorem cutPre_D (s p : List UInt8) : callD G0 IP n_strings_CutPrefix [.str s, .str p] hp lo q = some (.ret (.tup [.str (if hasPre s p then s.drop p.length else s), .bool (hasPre s p)]) hp) := by
  rw [callD_eq]
  simp [IP_strings_CutPrefix, i_strings_CutPrefix, cutPreL_D]
theorem idxBL_D (s : List UInt8) (n : Int) : callD G0 IP n_internal_stringslite_IndexByte [.str s, .int .u8 n] hp lo q = some (.ret (.int .i64 (idxB s (UInt8.ofNat n.toNat))) hp) := by
  rw [callD_eq]
  simp [IP_internal_stringslite_IndexByte, i_internal_stringslite_IndexByte]
theorem idxB_D (s : List UInt8) (n : Int) : callD G0 IP n_strings_IndexByte [.str s, .int .u8 n] hp lo q = some (.ret (.int .i64 (idxB s (UInt8.ofNat n.toNat))) hp) := by
  rw [callD_eq]
  simp [IP_strings_IndexByte, i_strings_IndexByte, idxBL_D]
theorem idxB_ge : ∀ (s : List UInt8) (c : UInt8), -1 ≤ idxB s c ∧ idxB s c < s.length
  | [], c => by simp [idxB]
  | b :: l, c => by
    have := idxB_ge l c
    simp only [idxB]
    split
    · simp
    · split
      · simp; omega
      · rename_i h; simp at h; simp; omega
theorem idxB_mem : ∀ (s : List UInt8) (c : UInt8), (0 ≤ idxB s c ↔ c ∈ s)
  | [], c => by simp [idxB]
  | b :: l, c => by
    have ih := idxB_mem l c
    have hg := idxB_ge l c
    simp only [idxB, List.mem_cons]
    by_cases h : b = c
    · subst h; simp
    · have h' : ¬ c = b := fun e => h e.symm
      simp only [show (b == c) = false by simp [h], Bool.false_eq_true, if_false, h', false_or]
      split
      · rename_i h2; simp at h2; rw [← ih]; omega
      · rename_i h2; simp at h2; rw [← ih]; omega
theorem index1_D (s : List UInt8) (c : UInt8) : callD G0 IP n_internal_stringslite_Index [.str s, .str [c]] hp lo q = some (.ret (.int .i64 (idxB s c)) hp) := by
  rw [callD_eq]
  by_cases h : [c] = s
  · subst h
    simp [IP_internal_stringslite_Index, i_internal_stringslite_Index, idxB]
  · simp [IP_internal_stringslite_Index, i_internal_stringslite_Index, h, idxBL_D]
def cutB (s : List UInt8) (c : UInt8) : List UInt8 × List UInt8 × Bool := if 0 ≤ idxB s c then (s.take (idxB s c).toNat, s.drop ((idxB s c).toNat + 1), true) else (s, [], false)
theorem cut1L_D (s : List UInt8) (hs : s.length ≤ 9223372036854775806) (c : UInt8) : callD G0 IP n_internal_stringslite_Cut [.str s, .str [c]] hp lo q = some (.ret (.tup [.str (cutB s c).1, .str (cutB s c).2.1, .bool (cutB s c).2.2]) hp) := by
  rw [callD_eq]
  have hg := idxB_ge s c
  by_cases h : 0 ≤ idxB s c
  · have hw : IntKind.wrap .i64 (idxB s c + 1) = idxB s c + 1 := wrap_small (by omega) (by omega)
    have h1 : (idxB s c).toNat ≤ s.length := by omega
    have h2 : (idxB s c + 1).toNat = (idxB s c).toNat + 1 := by omega
    have h3 : (idxB s c).toNat + 1 ≤ s.length := by omega
    have h4 : 0 ≤ idxB s c + 1 := by omega
    simp [IP_internal_stringslite_Cut, i_internal_stringslite_Cut, index1_D, h, hw, h1, h2, h3, h4, cutB]
  · simp [IP_internal_stringslite_Cut, i_internal_stringslite_Cut, index1_D, h, cutB]
theorem cut1_D (s : List UInt8) (hs : s.length ≤ 9223372036854775806) (c : UInt8) : callD G0 IP n_strings_Cut [.str s, .str [c]] hp lo q = some (.ret (.tup [.str (cutB s c).1, .str (cutB s c).2.1, .bool (cutB s c).2.2]) hp) := by
  rw [callD_eq]
  have e := fun (hp : List HObj) (lo : Nat) (q : Bool) => cut1L_D (hp := hp) (lo := lo) q s hs c
  simp [IP_strings_Cut, i_strings_Cut, e]
end
end Go.Proofs.YtkofimhnehkdoaaGreatDoor.Rf
end
section
set_option linter.unusedSimpArgs false
set_option linter.unusedVariables false
namespace Go.Proofs.YtkofimhnehkdoaaGreatDoor.Rf
theorem wrapU (n : Int) : IntKind.wrap .u64 n = n % 18446744073709551616 := by
  simp [IntKind.wrap, IntKind.signed, IntKind.bits]
theorem wrapU_small {n : Int} (h0 : 0 ≤ n) (h1 : n < 18446744073709551616) : IntKind.wrap .u64 n = n := by rw [wrapU]; omega
theorem wrap8_small {n : Int} (h0 : 0 ≤ n) (h1 : n < 256) : IntKind.wrap .u8 n = n := by
  simp [IntKind.wrap, IntKind.signed, IntKind.bits]; omega
theorem idxB_decs (c : UInt8) : (idxB [48, 49, 50, 51, 52, 53, 54, 55, 56, 57] c < 0) ↔ isDig c = false := by
  have h := idxB_mem [48, 49, 50, 51, 52, 53, 54, 55, 56, 57] c
  have h2 : c ∈ ([48, 49, 50, 51, 52, 53, 54, 55, 56, 57] : List UInt8) ↔ isDig c = true := by
    simp only [List.mem_cons, List.not_mem_nil, or_false, isDig, Bool.and_eq_true, decide_eq_true_eq, ← UInt8.toNat_inj]
    have := c.toNat_lt
    simp
    omega
  rw [h2] at h
  cases hd : isDig c with
  | true => rw [hd] at h; simp at h ⊢; omega
  | false => rw [hd] at h; simp at h ⊢; omega
theorem any_range_isDig (s : List UInt8) : ((List.range s.length).any fun i => !isDig (s.getD i 0)) = !s.all isDig := by
  induction s with
  | nil => rfl
  | cons c r ih =>
    rw [List.length_cons, List.range_succ_eq_map]
    simp [List.any_map, Function.comp_def] at ih ⊢
    rw [ih]
section
variable {hp : List HObj} {lo : Nat} (q : Bool)
theorem numeral_D (s : List UInt8) (hs : s.length ≤ 9223372036854775807) : callD G0 IP n_digits_numeral [.str s, .str [48, 49, 50, 51, 52, 53, 54, 55, 56, 57]] hp lo q = some (.ret (.bool (numOk s)) hp) := by
  rw [callD_eq]
  cases s with
  | nil => simp [IP_digits_numeral, i_digits_numeral, numOk]
  | cons a r =>
    generalize hse : a :: r = s at *
    have hne : s ≠ [] := by rw [← hse]; simp
    have h0 : s[0]? = some a := by rw [← hse]; rfl
    have hloop := loop_find (G := G0) (IP := IP) (lo := hp.length) (b := l_digits_numeral_0)
      (fun i => ⟨[(0, .str s), (1, .str [48, 49, 50, 51, 52, 53, 54, 55, 56, 57]), (19, .int .i64 s.length), (20, .int .i64 i)], hp⟩) s.length (fun i => !isDig (s.getD i 0))
      (.ret, ⟨[(4, .bool false)], hp⟩) (.exit 0, ⟨[(0, .str s), (1, .str [48, 49, 50, 51, 52, 53, 54, 55, 56, 57]), (19, .int .i64 s.length), (20, .int .i64 s.length), (21, .bool false)], hp⟩)
      (fun i hi hp => by
        have hw := wrap_succ hi hs
        have hd : ¬ idxB [48, 49, 50, 51, 52, 53, 54, 55, 56, 57] s[i] < 0 := by rw [idxB_decs]; simp [List.getD, hi] at hp; simp [hp]
        rw [← hw]
        simp [l_digits_numeral_0, hi, idxB_D, hd])
      (fun i hi hp => by
        have hd : idxB [48, 49, 50, 51, 52, 53, 54, 55, 56, 57] s[i] < 0 := by rw [idxB_decs]; simp [List.getD, hi] at hp; simp [hp]
        simp [l_digits_numeral_0, hi, idxB_D, hd])
      (by simp) (by simp [l_digits_numeral_0]) (by simp)
    rw [any_range_isDig] at hloop
    simp only [Int.natCast_zero] at hloop
    have hh : s.head? = some a := by rw [← hse]; rfl
    have hemp : s.isEmpty = false := by rw [← hse]; rfl
    by_cases hl : (1 : Int) < (s.length : Int)
    · have hl' : 1 < s.length := by omega
      by_cases ha : a = 48
      · subst ha
        simp [IP_digits_numeral, i_digits_numeral, numOk, hne, h0, hl, hl', hh, hemp]
      · have ha' : ¬ (a.toNat : Int) = 48 := by intro e; apply ha; apply UInt8.toNat_inj.1; simp; omega
        cases hd : s.all isDig with
        | true => simp [IP_digits_numeral, i_digits_numeral, numOk, hne, h0, hl, hl', hh, ha, ha', hloop, hd, hemp]
        | false => simp [IP_digits_numeral, i_digits_numeral, numOk, hne, h0, hl, hl', hh, ha, ha', hloop, hd, hemp]
    · have hl' : ¬ 1 < s.length := by omega
      cases hd : s.all isDig with
      | true => simp [IP_digits_numeral, i_digits_numeral, numOk, hne, h0, hl, hl', hh, hloop, hd, hemp]
      | false => simp [IP_digits_numeral, i_digits_numeral, numOk, hne, h0, hl, hl', hh, hloop, hd, hemp]
theorem digVal_take {s : List UInt8} {i : Nat} (h : i < s.length) : digVal (s.take (i + 1)) = 10 * digVal (s.take i) + (s[i].toNat - 48) := by
  rw [List.take_succ_eq_append_getElem h, digVal_snoc]
def pU (s : List UInt8) : AV := if 18446744073709551616 ≤ digVal s then .tup [.int .u64 18446744073709551615, .iface 211 (.int .i64 1)] else .tup [.int .u64 (digVal s), .nili]
theorem digVal_le {s : List UInt8} {i : Nat} (h : i ≤ s.length) : digVal (s.take i) ≤ digVal s := by
  have key : ∀ (k : Nat), i + k ≤ s.length → digVal (s.take i) ≤ digVal (s.take (i + k)) := by
    intro k
    induction k with
    | zero => intro _; exact Nat.le_refl _
    | succ k ih =>
      intro hk
      have := ih (by omega)
      rw [← Nat.add_assoc, digVal_take (by omega)]; omega
  have := key (s.length - i) (by omega)
  rwa [show i + (s.length - i) = s.length by omega, List.take_length] at this
theorem any_over (s : List UInt8) : ((List.range s.length).any fun i => decide (18446744073709551616 ≤ digVal (s.take (i + 1)))) = decide (18446744073709551616 ≤ digVal s) := by
  rw [Bool.eq_iff_iff]
  simp only [List.any_eq_true, List.mem_range, decide_eq_true_eq]
  constructor
  · rintro ⟨i, hi, h⟩; exact Nat.le_trans h (digVal_le (by omega))
  · intro h
    have hl : s.length ≠ 0 := by
      intro e
      have : s = [] := List.length_eq_zero_iff.1 e
      have h2 : digVal s = 0 := by subst this; rfl
      omega
    exact ⟨s.length - 1, by omega, by rwa [show s.length - 1 + 1 = s.length by omega, List.take_length]⟩
theorem parseUintI_D (s : List UInt8) (hs : s.length ≤ 140737488355328) (h0 : s ≠ []) (hd : s.all isDig = true) : callD G0 IP n_internal_strconv_ParseUint [.str s, .int .i64 10, .int .i64 64] hp lo false = some (.ret (pU s) hp) := by
  rw [callD_eq]
  have hc : ∀ i (h : i < s.length), 48 ≤ s[i].toNat ∧ s[i].toNat ≤ 57 := fun i h => by
    have := List.all_eq_true.1 hd s[i] (List.getElem_mem h)
    simpa [isDig] using this
  have hloop := loop_find (G := G0) (IP := IP) (lo := lo) (b := l_internal_strconv_ParseUint_0)
    (fun i => ⟨[(1, .int .i64 10), (8, .bool false), (9, .str s), (10, .int .u64 1844674407370955162), (11, .int .u64 18446744073709551615), (12, .bool false), (13, .int .u64 (digVal (s.take i))), (99, .list (s.map fun b => .int .u8 b.toNat) .no), (100, .int .i64 s.length), (101, .int .i64 i)], hp⟩)
    s.length (fun i => decide (18446744073709551616 ≤ digVal (s.take (i + 1))))
    (.ret, ⟨[(6, .int .u64 18446744073709551615), (7, .iface 211 (.int .i64 1))], hp⟩)
    (.exit 3, ⟨[(1, .int .i64 10), (8, .bool false), (9, .str s), (10, .int .u64 1844674407370955162), (11, .int .u64 18446744073709551615), (12, .bool false), (13, .int .u64 (digVal s)), (99, .list (s.map fun b => .int .u8 b.toNat) .no), (100, .int .i64 s.length), (101, .int .i64 s.length), (102, .bool false)], hp⟩)
    (fun i hi hp => by
      have hw := wrap_succ hi (by omega)
      obtain ⟨c1, c2⟩ := hc i hi
      simp only [decide_eq_false_iff_not] at hp
      have ht := digVal_take hi
      rw [ht] at hp
      have e1 : ¬ ((s[i].toNat : Int) = 95) := by omega
      have e2 : (48 : Int) ≤ (s[i].toNat : Int) := by omega
      have e3 : (s[i].toNat : Int) ≤ 57 := by omega
      have e4 : IntKind.wrap .u8 ((s[i].toNat : Int) - 48) = ((s[i].toNat - 48 : Nat) : Int) := by rw [wrap8_small (by omega) (by omega)]; omega
      have e5 : ¬ (10 : Int) ≤ ((s[i].toNat - 48 : Nat) : Int) := by omega
      have e6 : ¬ (1844674407370955162 : Int) ≤ (digVal (s.take i) : Int) := by omega
      have e7 : IntKind.wrap .u64 ((digVal (s.take i) : Int) * 10) = ((10 * digVal (s.take i) : Nat) : Int) := by rw [wrapU_small (by omega) (by omega)]; omega
      have e8 : IntKind.wrap .u64 ((s[i].toNat - 48 : Nat) : Int) = ((s[i].toNat - 48 : Nat) : Int) := wrapU_small (by omega) (by omega)
      have e9 : IntKind.wrap .u64 (((10 * digVal (s.take i) : Nat) : Int) + ((s[i].toNat - 48 : Nat) : Int)) = ((10 * digVal (s.take i) + (s[i].toNat - 48) : Nat) : Int) := by rw [wrapU_small (by omega) (by omega)]; omega
      have e10 : ¬ ((10 * digVal (s.take i) + (s[i].toNat - 48) : Nat) : Int) < ((10 * digVal (s.take i) : Nat) : Int) := by omega
      have e11 : ¬ ((10 * digVal (s.take i) + (s[i].toNat - 48) : Nat) : Int) > 18446744073709551615 := by omega
      rw [← hw, ht]
      generalize ((10 * digVal (s.take i) + (s[i].toNat - 48) : Nat) : Int) = N at *
      generalize ((10 * digVal (s.take i) : Nat) : Int) = M at *
      generalize ((s[i].toNat - 48 : Nat) : Int) = D at *
      generalize (digVal (s.take i) : Int) = V at *
      simp [l_internal_strconv_ParseUint_0, hi, e1, e2, e3, e4, e5, e6, e7, e8, e9, e10, e11, show IntKind.wrap .u8 10 = 10 from rfl, show IntKind.wrap .u64 10 = 10 from rfl])
    (fun i hi hp => by
      obtain ⟨c1, c2⟩ := hc i hi
      simp only [decide_eq_true_eq] at hp
      have ht := digVal_take hi
      rw [ht] at hp
      have e1 : ¬ ((s[i].toNat : Int) = 95) := by omega
      have e2 : (48 : Int) ≤ (s[i].toNat : Int) := by omega
      have e3 : (s[i].toNat : Int) ≤ 57 := by omega
      have e4 : IntKind.wrap .u8 ((s[i].toNat : Int) - 48) = ((s[i].toNat - 48 : Nat) : Int) := by rw [wrap8_small (by omega) (by omega)]; omega
      have e5 : ¬ (10 : Int) ≤ ((s[i].toNat - 48 : Nat) : Int) := by omega
      by_cases e6 : (1844674407370955162 : Int) ≤ (digVal (s.take i) : Int)
      · generalize ((s[i].toNat - 48 : Nat) : Int) = D at *
        generalize (digVal (s.take i) : Int) = V at *
        simp [l_internal_strconv_ParseUint_0, hi, e1, e2, e3, e4, e5, e6, show IntKind.wrap .u8 10 = 10 from rfl, show IntKind.wrap .u64 10 = 10 from rfl]
      · have e7 : IntKind.wrap .u64 ((digVal (s.take i) : Int) * 10) = ((10 * digVal (s.take i) : Nat) : Int) := by rw [wrapU_small (by omega) (by omega)]; omega
        have e8 : IntKind.wrap .u64 ((s[i].toNat - 48 : Nat) : Int) = ((s[i].toNat - 48 : Nat) : Int) := wrapU_small (by omega) (by omega)
        have e9 : IntKind.wrap .u64 (((10 * digVal (s.take i) : Nat) : Int) + ((s[i].toNat - 48 : Nat) : Int)) = (((10 * digVal (s.take i) + (s[i].toNat - 48) : Nat) : Int) - 18446744073709551616) := by rw [wrapU]; omega
        have e10 : (((10 * digVal (s.take i) + (s[i].toNat - 48) : Nat) : Int) - 18446744073709551616) < ((10 * digVal (s.take i) : Nat) : Int) := by omega
        generalize (((10 * digVal (s.take i) + (s[i].toNat - 48) : Nat) : Int) - 18446744073709551616) = N at *
        generalize ((10 * digVal (s.take i) : Nat) : Int) = M at *
        generalize ((s[i].toNat - 48 : Nat) : Int) = D at *
        generalize (digVal (s.take i) : Int) = V at *
        simp [l_internal_strconv_ParseUint_0, hi, e1, e2, e3, e4, e5, e6, e7, e8, e9, e10, show IntKind.wrap .u8 10 = 10 from rfl, show IntKind.wrap .u64 10 = 10 from rfl])
    (by simp) (by simp [l_internal_strconv_ParseUint_0]) (by simp)
  rw [any_over] at hloop
  simp only [List.take_zero, show digVal [] = 0 from rfl, Int.natCast_zero] at hloop
  by_cases hv : 18446744073709551616 ≤ digVal s
  · simp [IP_internal_strconv_ParseUint, i_internal_strconv_ParseUint, h0, hs, hloop, hv, pU, show IntKind.wrap .u64 64 = 64 from rfl, show IntKind.wrap .u64 18446744073709551616 = 0 from rfl, show IntKind.wrap .u64 (-1) = 18446744073709551615 from rfl, IntKind.bits]
  · simp [IP_internal_strconv_ParseUint, i_internal_strconv_ParseUint, h0, hs, hloop, hv, pU, show IntKind.wrap .u64 64 = 64 from rfl, show IntKind.wrap .u64 18446744073709551616 = 0 from rfl, show IntKind.wrap .u64 (-1) = 18446744073709551615 from rfl, IntKind.bits]
theorem numE_nonempty {s : List UInt8} (h : numOk s = true) : s ≠ [] ∧ s.all isDig = true := by
  simp only [numOk, Bool.and_eq_true] at h
  refine ⟨?_, h.2.2⟩
  intro e; subst e; simp at h
end
end Go.Proofs.YtkofimhnehkdoaaGreatDoor.Rf
end
section
set_option linter.unusedSimpArgs false
set_option linter.unusedVariables false
namespace Go.Proofs.YtkofimhnehkdoaaGreatDoor.Rf
def opN : List (List UInt8) := [[], [118, 97, 114], [99, 111, 110, 115, 116], [110, 111, 116], [110, 101, 103], [97, 110, 100], [111, 114], [120, 111, 114], [97, 100, 100], [115, 117, 98], [109, 117, 108], [117, 100, 105, 118], [117, 114, 101, 109], [115, 104, 108], [108, 115, 104, 114], [97, 115, 104, 114], [101, 113], [117, 108, 116], [115, 108, 116], [105, 116, 101], [99, 111, 110, 99, 97, 116], [101, 120, 116, 114, 97, 99, 116], [122, 101, 120, 116], [115, 101, 120, 116], [104, 111, 108, 101], [110, 117, 109], [101, 118, 97, 108]]
theorem g_0_eq : g_0 = opN.map AV.str := rfl
theorem g_0_len : g_0.length = 27 := rfl
def nm (n : Nat) : List UInt8 := opN.getD n []
theorem g_0_at {n : Nat} (h : n < 27) : (g_0.drop n).take 1 = [AV.str (nm n)] := by
  rw [g_0_eq, List.drop_eq_getElem_cons (by simpa [opN] using h)]
  simp [nm, List.getD, show n < opN.length by simpa [opN] using h]
def opOk (op : Int) : Bool := decide (1 ≤ op) && decide (op ≤ 26)
theorem opOk_cases {op : Int} (h : opOk op = true) : op = 1 ∨ op = 2 ∨ op = 3 ∨ op = 4 ∨ op = 5 ∨ op = 6 ∨ op = 7 ∨ op = 8 ∨ op = 9 ∨ op = 10 ∨ op = 11 ∨ op = 12 ∨ op = 13 ∨ op = 14 ∨ op = 15 ∨ op = 16 ∨ op = 17 ∨ op = 18 ∨ op = 19 ∨ op = 20 ∨ op = 21 ∨ op = 22 ∨ op = 23 ∨ op = 24 ∨ op = 25 ∨ op = 26 := by
  simp [opOk] at h; omega
theorem opOk_nat {op : Int} (h : opOk op = true) : ∃ n : Nat, op = n ∧ 1 ≤ n ∧ n ≤ 26 := by
  simp [opOk] at h; exact ⟨op.toNat, by omega, by omega, by omega⟩
def nameE (op : Int) : List UInt8 := if opOk op then nm op.toNat else []
def ofE (s : List UInt8) : Int × Bool := match (List.range 26).find? fun i => decide (nm (i + 1) = s) with | some i => (((i + 1 : Nat) : Int), true) | none => (0, false)
def arE (op : Int) : Int := if opOk op = false then -1 else if op = 1 ∨ op = 2 ∨ op = 24 ∨ op = 25 then 0 else if op = 3 ∨ op = 4 ∨ op = 21 ∨ op = 22 ∨ op = 23 ∨ op = 26 then 1 else if op = 19 then 3 else 2
def insE (w : Int) : Bool := decide (0 ≤ w) && decide (w ≤ 64)
def leafE (op w v : Int) : Int × Int := if insE w = false ∨ (op = 2 ∧ 0 < w ∧ 2 ^ w.toNat ≤ v) then (0, 3) else (w, 0)
def resE (op w v f : Int) : Int × Int := if w < 1 ∨ 64 < w ∨ f < 1 then (0, 3) else if (op ≠ 21 ∧ w < f) ∨ (op = 21 ∧ (f < w ∨ f - w < v)) then (0, 3) else (w, 0)
def widE (op w v : Int) (as : List Int) : Int × Int :=
  if opOk op = false ∨ (as.length : Int) ≠ arE op then (0, 4) else
  if as.all insE = false then (0, 3) else
  if op = 1 ∨ op = 2 ∨ op = 24 ∨ op = 25 then leafE op w v else
  if op = 3 ∨ op = 4 ∨ op = 26 then (as.getD 0 0, 0) else
  if op = 21 ∨ op = 22 ∨ op = 23 then resE op w v (as.getD 0 0) else
  if op = 19 then (if as.getD 0 0 = 1 ∧ as.getD 1 0 = as.getD 2 0 then (as.getD 1 0, 0) else (0, 3)) else
  if op = 20 then (if 1 ≤ as.getD 0 0 ∧ 1 ≤ as.getD 1 0 ∧ as.getD 0 0 + as.getD 1 0 ≤ 64 then (as.getD 0 0 + as.getD 1 0, 0) else (0, 3)) else
  if op = 16 ∨ op = 17 ∨ op = 18 then (if as.getD 0 0 = as.getD 1 0 then (1, 0) else (0, 3)) else
  if as.getD 0 0 = as.getD 1 0 then (as.getD 0 0, 0) else (0, 3)
section
variable {hp : List HObj} {lo : Nat} (q : Bool)
theorem known_D (op : Int) : callD G0 IP n_opinfo_known [.int .i64 op] hp lo q = some (.ret (.bool (opOk op)) hp) := by
  rw [callD_eq]
  by_cases h : 1 ≤ op
  · by_cases h2 : op ≤ 26 <;> simp [IP_opinfo_known, i_opinfo_known, opOk, h, h2]
  · simp [IP_opinfo_known, i_opinfo_known, opOk, h]
theorem opName_D (op : Int) : callD G0 IP n_opinfo_Name [.int .i64 op] hp lo q = some (.ret (.str (nameE op)) hp) := by
  rw [callD_eq]
  cases h : opOk op with
  | false => simp [IP_opinfo_Name, i_opinfo_Name, known_D, h, nameE]
  | true =>
    obtain ⟨n, rfl, h1, h2⟩ := opOk_nat h
    have e1 : (n : Int) < 27 := by omega
    have e2 : n + 1 ≤ 27 := by omega
    simp [IP_opinfo_Name, i_opinfo_Name, known_D, h, nameE, G0_0, e1, e2, g_0_at (show n < 27 by omega), g_0_len]
theorem opOf_D (s : List UInt8) : callD G0 IP n_opinfo_Of [.str s] hp lo q = some (.ret (.tup [.int .i64 (ofE s).1, .bool (ofE s).2]) hp) := by
  rw [callD_eq]
  have hloop := loop_some (G := G0) (IP := IP) (lo := hp.length) (b := l_opinfo_Of_0)
    (fun i => ⟨[(0, .str s), (4, .int .i64 ((i : Int) + 1))], hp⟩) 26 (fun i => decide (nm (i + 1) = s)) (fun i => (.ret, ⟨[(2, .int .i64 ((i : Int) + 1)), (3, .bool true)], hp⟩))
    (.exit 0, ⟨[(0, .str s), (4, .int .i64 27), (6, .bool false)], hp⟩)
    (fun i hi hp => by
      have e1 : (i : Int) + 1 ≤ 26 := by omega
      have e2 : (0 : Int) ≤ (i : Int) + 1 := by omega
      have e3 : (i : Int) + 1 < 27 := by omega
      have e4 : i + 1 + 1 ≤ 27 := by omega
      have e5 : IntKind.wrap .i64 ((i : Int) + 1 + 1) = (i : Int) + 1 + 1 := wrap_small (by omega) (by omega)
      have e6 : ((i : Int) + 1).toNat = i + 1 := by omega
      simp only [decide_eq_false_iff_not] at hp
      simp [l_opinfo_Of_0, G0_0, e1, e2, e3, e4, e5, e6, g_0_at (show i + 1 < 27 by omega), g_0_len, hp])
    (fun i hi hp => by
      have e1 : (i : Int) + 1 ≤ 26 := by omega
      have e2 : (0 : Int) ≤ (i : Int) + 1 := by omega
      have e3 : (i : Int) + 1 < 27 := by omega
      have e4 : i + 1 + 1 ≤ 27 := by omega
      have e6 : ((i : Int) + 1).toNat = i + 1 := by omega
      simp only [decide_eq_true_eq] at hp
      simp [l_opinfo_Of_0, G0_0, e1, e2, e3, e4, e6, g_0_at (show i + 1 < 27 by omega), g_0_len, hp])
    (fun i s => by simp) (by simp [l_opinfo_Of_0]) (by simp)
  simp only [Int.natCast_zero, Int.zero_add] at hloop
  rcases hloop with ⟨m, hm, hp1, hp2, hl⟩ | ⟨hno, hl⟩
  · have hf : (List.range 26).find? (fun i => decide (nm (i + 1) = s)) = some m := by
      rw [List.find?_range_eq_some]
      exact ⟨hp1, by simpa using hm, fun j hj => by simpa using hp2 j hj⟩
    have he : ofE s = (((m + 1 : Nat) : Int), true) := by simp [ofE, hf]
    simp [IP_opinfo_Of, i_opinfo_Of, hl, he]
  · have hf : (List.range 26).find? (fun i => decide (nm (i + 1) = s)) = none := by
      rw [List.find?_eq_none]
      intro i hi; simp at hi; have := hno i hi; simpa using this
    have he : ofE s = (0, false) := by simp [ofE, hf]
    simp [IP_opinfo_Of, i_opinfo_Of, hl, he]
theorem arity_D (op : Int) : callD G0 IP n_opinfo_Arity [.int .i64 op] hp lo q = some (.ret (.int .i64 (arE op)) hp) := by
  rw [callD_eq]
  cases h : opOk op with
  | true =>
    rcases opOk_cases h with rfl | rfl | rfl | rfl | rfl | rfl | rfl | rfl | rfl | rfl | rfl | rfl | rfl | rfl | rfl | rfl | rfl | rfl | rfl | rfl | rfl | rfl | rfl | rfl | rfl | rfl
    all_goals simp [IP_opinfo_Arity, i_opinfo_Arity, arE, opOk, show IntKind.wrap .i64 1 = 1 from rfl, show IntKind.wrap .i64 2 = 2 from rfl, show IntKind.wrap .i64 3 = 3 from rfl]
  | false =>
    have hk : ∀ k : Int, 1 ≤ k → k ≤ 26 → (op = k) = False := fun k h1 h2 => by
      simp only [eq_iff_iff, iff_false]; intro e; subst e; simp [opOk] at h; omega
    simp [IP_opinfo_Arity, i_opinfo_Arity, arE, h, hk]
theorem opLeaf_D (op : Int) : callD G0 IP n_opinfo_Leaf [.int .i64 op] hp lo q = some (.ret (.bool (decide (arE op = 0))) hp) := by
  rw [callD_eq]
  simp [IP_opinfo_Leaf, i_opinfo_Leaf, arity_D]
theorem inside_D (w : Int) : callD G0 IP n_opinfo_inside [.int .i64 w] hp lo q = some (.ret (.bool (insE w)) hp) := by
  rw [callD_eq]
  by_cases h : 0 ≤ w
  · by_cases h2 : w ≤ 64 <;> simp [IP_opinfo_inside, i_opinfo_inside, insE, h, h2]
  · simp [IP_opinfo_inside, i_opinfo_inside, insE, h]
theorem agreed_D (ok : Bool) (r : Int) : callD G0 IP n_opinfo_agreed [.bool ok, .int .i64 r] hp lo q = some (.ret (.tup [.int .i64 (if ok then r else 0), .int .i64 (if ok then 0 else 3)]) hp) := by
  rw [callD_eq]
  cases ok <;> simp [IP_opinfo_agreed, i_opinfo_agreed]
end
end Go.Proofs.YtkofimhnehkdoaaGreatDoor.Rf
end
section
set_option linter.unusedSimpArgs false
set_option linter.unusedVariables false
namespace Go.Proofs.YtkofimhnehkdoaaGreatDoor.Rf
theorem fdiv_pow {v : Int} (h0 : 0 ≤ v) {w : Nat} : (v.fdiv (2 ^ w) = 0) ↔ v < 2 ^ w := by
  have hp : (0 : Int) < 2 ^ w := Int.pow_pos (by omega)
  rw [Int.fdiv_eq_ediv_of_nonneg _ (by omega)]
  constructor
  · intro h
    have := Int.lt_ediv_add_one_mul_self v hp
    rw [h] at this; simpa using this
  · intro h; exact Int.ediv_eq_zero_of_lt h0 h
section
variable {hp : List HObj} {lo : Nat} (q : Bool)
theorem opLeafW_D (op w v : Int) (hv : 0 ≤ v) : callD G0 IP n_opinfo_leaf [.int .i64 op, .int .i64 w, .int .u64 v] hp lo q = some (.ret (.tup [.int .i64 (leafE op w v).1, .int .i64 (leafE op w v).2]) hp) := by
  rw [callD_eq]
  cases hi : insE w with
  | false => simp [IP_opinfo_leaf, i_opinfo_leaf, inside_D, hi, leafE]
  | true =>
    by_cases h1 : op = 2
    · by_cases h2 : 0 < w
      · have hw : w ≤ 64 := by simp [insE] at hi; exact hi.2
        have h3 : ¬ w < 0 := by omega
        have hm : min w.toNat 64 = w.toNat := by omega
        have hd := fdiv_pow hv (w := w.toNat)
        by_cases h4 : v < 2 ^ w.toNat
        · have h5 : ¬ (2 : Int) ^ w.toNat ≤ v := by omega
          simp [IP_opinfo_leaf, i_opinfo_leaf, inside_D, hi, leafE, h1, h2, h3, IntKind.bits, hm, hd.2 h4, h5]
        · have h5 : (2 : Int) ^ w.toNat ≤ v := by omega
          have h6 : ¬ v.fdiv (2 ^ w.toNat) = 0 := fun e => h4 (hd.1 e)
          simp [IP_opinfo_leaf, i_opinfo_leaf, inside_D, hi, leafE, h1, h2, h3, IntKind.bits, hm, h6, h5]
      · simp [IP_opinfo_leaf, i_opinfo_leaf, inside_D, hi, leafE, h1, h2]
    · simp [IP_opinfo_leaf, i_opinfo_leaf, inside_D, hi, leafE, h1]
theorem resized_D (op w v f : Int) (hf : f ≤ 64) (hv : 0 ≤ v) : callD G0 IP n_opinfo_resized [.int .i64 op, .int .i64 w, .int .u64 v, .int .i64 f] hp lo q = some (.ret (.tup [.int .i64 (resE op w v f).1, .int .i64 (resE op w v f).2]) hp) := by
  rw [callD_eq]
  by_cases h1 : w < 1
  · simp [IP_opinfo_resized, i_opinfo_resized, resE, h1]
  · by_cases h2 : 64 < w
    · simp [IP_opinfo_resized, i_opinfo_resized, resE, h1, h2]
    · by_cases h3 : f < 1
      · simp [IP_opinfo_resized, i_opinfo_resized, resE, h1, h2, h3]
      · by_cases h4 : op = 21
        · by_cases h5 : f < w
          · simp [IP_opinfo_resized, i_opinfo_resized, resE, h1, h2, h3, h4, h5]
          · have e1 : IntKind.wrap .i64 (f - w) = f - w := wrap_small (by omega) (by omega)
            have e2 : IntKind.wrap .u64 (f - w) = f - w := wrapU_small (by omega) (by omega)
            by_cases h6 : f - w < v
            · simp [IP_opinfo_resized, i_opinfo_resized, resE, h1, h2, h3, h4, h5, h6, e1, e2]
            · simp [IP_opinfo_resized, i_opinfo_resized, resE, h1, h2, h3, h4, h5, h6, e1, e2]
        · by_cases h5 : w < f
          · simp [IP_opinfo_resized, i_opinfo_resized, resE, h1, h2, h3, h4, h5]
          · simp [IP_opinfo_resized, i_opinfo_resized, resE, h1, h2, h3, h4, h5]
theorem any_ins (as : List Int) : ((List.range as.length).any fun i => !insE (as.getD i 0)) = !as.all insE := by
  induction as with
  | nil => rfl
  | cons c r ih =>
    rw [List.length_cons, List.range_succ_eq_map]
    simp [List.any_map, Function.comp_def] at ih ⊢
    rw [ih]
end
end Go.Proofs.YtkofimhnehkdoaaGreatDoor.Rf
end
section
set_option linter.unusedSimpArgs false
set_option linter.unusedVariables false
namespace Go.Proofs.YtkofimhnehkdoaaGreatDoor.Rf
section
variable {hp : List HObj} {lo : Nat} (q : Bool)
def wfr (op w v : Int) (as : List Int) (o : Own) (i : Nat) : Fr := [(0, .int .i64 op), (1, .int .i64 w), (2, .int .u64 v), (3, .list (as.map (AV.int .i64)) o), (22, .list (as.map (AV.int .i64)) o.cp), (23, .int .i64 as.length), (24, .int .i64 i)]
theorem width_loop (op w v : Int) (as : List Int) (o : Own) (ha : as.length ≤ 9223372036854775807) (hp : List HObj) (lo : Nat) : loopD G0 IP lo l_opinfo_Width_0 ⟨wfr op w v as o 0, hp⟩ =
    some (if as.all insE = false then (.ret, ⟨[(8, .int .i64 0), (9, .int .i64 3)], hp⟩) else (.exit 0, ⟨wfr op w v as o as.length ++ [(25, .bool false)], hp⟩)) := by
  have hloop := loop_find (G := G0) (IP := IP) (lo := lo) (b := l_opinfo_Width_0)
    (fun i => ⟨wfr op w v as o i, hp⟩) as.length (fun i => !insE (as.getD i 0))
    (.ret, ⟨[(8, .int .i64 0), (9, .int .i64 3)], hp⟩)
    (.exit 0, ⟨wfr op w v as o as.length ++ [(25, .bool false)], hp⟩)
    (fun i hi hp => by
      have hw := wrap_succ hi ha
      simp [List.getD, hi] at hp
      simp only [wfr]
      rw [← hw]
      simp [l_opinfo_Width_0, hi, inside_D, hp])
    (fun i hi hp => by
      simp [List.getD, hi] at hp
      simp [l_opinfo_Width_0, wfr, hi, inside_D, hp])
    (by simp) (by simp [l_opinfo_Width_0, wfr]) (by simp)
  rw [any_ins] at hloop
  rw [hloop]
  cases as.all insE <;> rfl
theorem width_bad (op w v : Int) (as : List Int) (o : Own) (h : opOk op = false ∨ (as.length : Int) ≠ arE op) : callD G0 IP n_opinfo_Width [.int .i64 op, .int .i64 w, .int .u64 v, .list (as.map (AV.int .i64)) o] hp lo q = some (.ret (.tup [.int .i64 0, .int .i64 4]) hp) := by
  rw [callD_eq]
  cases hk : opOk op with
  | false => simp [IP_opinfo_Width, i_opinfo_Width, known_D, hk]
  | true =>
    have hl : ¬ (as.length : Int) = arE op := by rcases h with h | h; rw [h] at hk; cases hk; exact h
    simp [IP_opinfo_Width, i_opinfo_Width, known_D, arity_D, hk, hl]
theorem width_out (op w v : Int) (as : List Int) (o : Own) (ha : as.length ≤ 9223372036854775807) (hk : opOk op = true) (hl : (as.length : Int) = arE op) (hall : as.all insE = false) : callD G0 IP n_opinfo_Width [.int .i64 op, .int .i64 w, .int .u64 v, .list (as.map (AV.int .i64)) o] hp lo q = some (.ret (.tup [.int .i64 0, .int .i64 3]) hp) := by
  rw [callD_eq]
  have hloop := width_loop op w v as o ha hp hp.length
  rw [if_pos hall] at hloop
  simp only [wfr, Int.natCast_zero, hl] at hloop
  simp [IP_opinfo_Width, i_opinfo_Width, known_D, arity_D, hk, hl, hloop]
theorem width_1 (w v : Int) (hv : 0 ≤ v)  (o : Own) (hall : List.all [] insE = true) : callD G0 IP n_opinfo_Width [.int .i64 1, .int .i64 w, .int .u64 v, .list (([] : List Int).map (AV.int .i64)) o] hp lo q =
    some (.ret (.tup [.int .i64 (leafE 1 w v).1, .int .i64 (leafE 1 w v).2]) hp) := by
  rw [callD_eq]
  have hloop := width_loop 1 w v [] o (by simp) hp hp.length
  rw [if_neg (by simp [hall])] at hloop
  simp [wfr] at hloop
  have hk : opOk 1 = true := rfl
  have hb : arE 1 = 0 := rfl
  have e := fun (hp : List HObj) (lo : Nat) (q : Bool) => opLeafW_D (hp := hp) (lo := lo) q 1 w v hv
  simp [IP_opinfo_Width, i_opinfo_Width, known_D, arity_D, hk, hb, hloop, e]
theorem width_2 (w v : Int) (hv : 0 ≤ v)  (o : Own) (hall : List.all [] insE = true) : callD G0 IP n_opinfo_Width [.int .i64 2, .int .i64 w, .int .u64 v, .list (([] : List Int).map (AV.int .i64)) o] hp lo q =
    some (.ret (.tup [.int .i64 (leafE 2 w v).1, .int .i64 (leafE 2 w v).2]) hp) := by
  rw [callD_eq]
  have hloop := width_loop 2 w v [] o (by simp) hp hp.length
  rw [if_neg (by simp [hall])] at hloop
  simp [wfr] at hloop
  have hk : opOk 2 = true := rfl
  have hb : arE 2 = 0 := rfl
  have e := fun (hp : List HObj) (lo : Nat) (q : Bool) => opLeafW_D (hp := hp) (lo := lo) q 2 w v hv
  simp [IP_opinfo_Width, i_opinfo_Width, known_D, arity_D, hk, hb, hloop, e]
theorem width_24 (w v : Int) (hv : 0 ≤ v)  (o : Own) (hall : List.all [] insE = true) : callD G0 IP n_opinfo_Width [.int .i64 24, .int .i64 w, .int .u64 v, .list (([] : List Int).map (AV.int .i64)) o] hp lo q =
    some (.ret (.tup [.int .i64 (leafE 24 w v).1, .int .i64 (leafE 24 w v).2]) hp) := by
  rw [callD_eq]
  have hloop := width_loop 24 w v [] o (by simp) hp hp.length
  rw [if_neg (by simp [hall])] at hloop
  simp [wfr] at hloop
  have hk : opOk 24 = true := rfl
  have hb : arE 24 = 0 := rfl
  have e := fun (hp : List HObj) (lo : Nat) (q : Bool) => opLeafW_D (hp := hp) (lo := lo) q 24 w v hv
  simp [IP_opinfo_Width, i_opinfo_Width, known_D, arity_D, hk, hb, hloop, e]
theorem width_25 (w v : Int) (hv : 0 ≤ v)  (o : Own) (hall : List.all [] insE = true) : callD G0 IP n_opinfo_Width [.int .i64 25, .int .i64 w, .int .u64 v, .list (([] : List Int).map (AV.int .i64)) o] hp lo q =
    some (.ret (.tup [.int .i64 (leafE 25 w v).1, .int .i64 (leafE 25 w v).2]) hp) := by
  rw [callD_eq]
  have hloop := width_loop 25 w v [] o (by simp) hp hp.length
  rw [if_neg (by simp [hall])] at hloop
  simp [wfr] at hloop
  have hk : opOk 25 = true := rfl
  have hb : arE 25 = 0 := rfl
  have e := fun (hp : List HObj) (lo : Nat) (q : Bool) => opLeafW_D (hp := hp) (lo := lo) q 25 w v hv
  simp [IP_opinfo_Width, i_opinfo_Width, known_D, arity_D, hk, hb, hloop, e]
theorem width_3 (w v : Int) (hv : 0 ≤ v) (a : Int) (o : Own) (hall : List.all [a] insE = true) : callD G0 IP n_opinfo_Width [.int .i64 3, .int .i64 w, .int .u64 v, .list (([a] : List Int).map (AV.int .i64)) o] hp lo q =
    some (.ret (.tup [.int .i64 (((a, 0) : Int × Int)).1, .int .i64 (((a, 0) : Int × Int)).2]) hp) := by
  rw [callD_eq]
  have hloop := width_loop 3 w v [a] o (by simp) hp hp.length
  rw [if_neg (by simp [hall])] at hloop
  simp [wfr] at hloop
  have hk : opOk 3 = true := rfl
  have hb : arE 3 = 1 := rfl
  simp [IP_opinfo_Width, i_opinfo_Width, known_D, arity_D, hk, hb, hloop]
theorem width_4 (w v : Int) (hv : 0 ≤ v) (a : Int) (o : Own) (hall : List.all [a] insE = true) : callD G0 IP n_opinfo_Width [.int .i64 4, .int .i64 w, .int .u64 v, .list (([a] : List Int).map (AV.int .i64)) o] hp lo q =
    some (.ret (.tup [.int .i64 (((a, 0) : Int × Int)).1, .int .i64 (((a, 0) : Int × Int)).2]) hp) := by
  rw [callD_eq]
  have hloop := width_loop 4 w v [a] o (by simp) hp hp.length
  rw [if_neg (by simp [hall])] at hloop
  simp [wfr] at hloop
  have hk : opOk 4 = true := rfl
  have hb : arE 4 = 1 := rfl
  simp [IP_opinfo_Width, i_opinfo_Width, known_D, arity_D, hk, hb, hloop]
theorem width_26 (w v : Int) (hv : 0 ≤ v) (a : Int) (o : Own) (hall : List.all [a] insE = true) : callD G0 IP n_opinfo_Width [.int .i64 26, .int .i64 w, .int .u64 v, .list (([a] : List Int).map (AV.int .i64)) o] hp lo q =
    some (.ret (.tup [.int .i64 (((a, 0) : Int × Int)).1, .int .i64 (((a, 0) : Int × Int)).2]) hp) := by
  rw [callD_eq]
  have hloop := width_loop 26 w v [a] o (by simp) hp hp.length
  rw [if_neg (by simp [hall])] at hloop
  simp [wfr] at hloop
  have hk : opOk 26 = true := rfl
  have hb : arE 26 = 1 := rfl
  simp [IP_opinfo_Width, i_opinfo_Width, known_D, arity_D, hk, hb, hloop]
theorem width_21 (w v : Int) (hv : 0 ≤ v) (a : Int) (o : Own) (hall : List.all [a] insE = true) : callD G0 IP n_opinfo_Width [.int .i64 21, .int .i64 w, .int .u64 v, .list (([a] : List Int).map (AV.int .i64)) o] hp lo q =
    some (.ret (.tup [.int .i64 (resE 21 w v a).1, .int .i64 (resE 21 w v a).2]) hp) := by
  rw [callD_eq]
  have hloop := width_loop 21 w v [a] o (by simp) hp hp.length
  rw [if_neg (by simp [hall])] at hloop
  simp [wfr] at hloop
  have hk : opOk 21 = true := rfl
  have hb : arE 21 = 1 := rfl
  have ha64 : a ≤ 64 := by simp [insE] at hall; exact hall.2
  have e := fun (hp : List HObj) (lo : Nat) (q : Bool) => resized_D (hp := hp) (lo := lo) q 21 w v a ha64 hv
  simp [IP_opinfo_Width, i_opinfo_Width, known_D, arity_D, hk, hb, hloop, e]
theorem width_22 (w v : Int) (hv : 0 ≤ v) (a : Int) (o : Own) (hall : List.all [a] insE = true) : callD G0 IP n_opinfo_Width [.int .i64 22, .int .i64 w, .int .u64 v, .list (([a] : List Int).map (AV.int .i64)) o] hp lo q =
    some (.ret (.tup [.int .i64 (resE 22 w v a).1, .int .i64 (resE 22 w v a).2]) hp) := by
  rw [callD_eq]
  have hloop := width_loop 22 w v [a] o (by simp) hp hp.length
  rw [if_neg (by simp [hall])] at hloop
  simp [wfr] at hloop
  have hk : opOk 22 = true := rfl
  have hb : arE 22 = 1 := rfl
  have ha64 : a ≤ 64 := by simp [insE] at hall; exact hall.2
  have e := fun (hp : List HObj) (lo : Nat) (q : Bool) => resized_D (hp := hp) (lo := lo) q 22 w v a ha64 hv
  simp [IP_opinfo_Width, i_opinfo_Width, known_D, arity_D, hk, hb, hloop, e]
theorem width_23 (w v : Int) (hv : 0 ≤ v) (a : Int) (o : Own) (hall : List.all [a] insE = true) : callD G0 IP n_opinfo_Width [.int .i64 23, .int .i64 w, .int .u64 v, .list (([a] : List Int).map (AV.int .i64)) o] hp lo q =
    some (.ret (.tup [.int .i64 (resE 23 w v a).1, .int .i64 (resE 23 w v a).2]) hp) := by
  rw [callD_eq]
  have hloop := width_loop 23 w v [a] o (by simp) hp hp.length
  rw [if_neg (by simp [hall])] at hloop
  simp [wfr] at hloop
  have hk : opOk 23 = true := rfl
  have hb : arE 23 = 1 := rfl
  have ha64 : a ≤ 64 := by simp [insE] at hall; exact hall.2
  have e := fun (hp : List HObj) (lo : Nat) (q : Bool) => resized_D (hp := hp) (lo := lo) q 23 w v a ha64 hv
  simp [IP_opinfo_Width, i_opinfo_Width, known_D, arity_D, hk, hb, hloop, e]
theorem width_19 (w v : Int) (hv : 0 ≤ v) (a : Int) (b : Int) (c : Int) (o : Own) (hall : List.all [a, b, c] insE = true) : callD G0 IP n_opinfo_Width [.int .i64 19, .int .i64 w, .int .u64 v, .list (([a, b, c] : List Int).map (AV.int .i64)) o] hp lo q =
    some (.ret (.tup [.int .i64 (if a = 1 ∧ b = c then ((b, 0) : Int × Int) else (0, 3)).1, .int .i64 (if a = 1 ∧ b = c then ((b, 0) : Int × Int) else (0, 3)).2]) hp) := by
  rw [callD_eq]
  have hloop := width_loop 19 w v [a, b, c] o (by simp) hp hp.length
  rw [if_neg (by simp [hall])] at hloop
  simp [wfr] at hloop
  have hk : opOk 19 = true := rfl
  have hb : arE 19 = 3 := rfl
  by_cases h1 : a = 1
  · subst h1
    by_cases h2 : b = c
    · subst h2
      simp [IP_opinfo_Width, i_opinfo_Width, known_D, arity_D, hk, hb, hloop, agreed_D]
    · simp [IP_opinfo_Width, i_opinfo_Width, known_D, arity_D, hk, hb, hloop, agreed_D, h2]
  · simp [IP_opinfo_Width, i_opinfo_Width, known_D, arity_D, hk, hb, hloop, agreed_D, h1]
theorem width_20 (w v : Int) (hv : 0 ≤ v) (a : Int) (b : Int) (o : Own) (hall : List.all [a, b] insE = true) : callD G0 IP n_opinfo_Width [.int .i64 20, .int .i64 w, .int .u64 v, .list (([a, b] : List Int).map (AV.int .i64)) o] hp lo q =
    some (.ret (.tup [.int .i64 (if 1 ≤ a ∧ 1 ≤ b ∧ a + b ≤ 64 then ((a + b, 0) : Int × Int) else (0, 3)).1, .int .i64 (if 1 ≤ a ∧ 1 ≤ b ∧ a + b ≤ 64 then ((a + b, 0) : Int × Int) else (0, 3)).2]) hp) := by
  rw [callD_eq]
  have hloop := width_loop 20 w v [a, b] o (by simp) hp hp.length
  rw [if_neg (by simp [hall])] at hloop
  simp [wfr] at hloop
  have hk : opOk 20 = true := rfl
  have hb : arE 20 = 2 := rfl
  have ha : 0 ≤ a ∧ a ≤ 64 ∧ 0 ≤ b ∧ b ≤ 64 := by simp [insE] at hall; omega
  have e1 : IntKind.wrap .i64 (a + b) = a + b := wrap_small (by omega) (by omega)
  by_cases h1 : 1 ≤ a
  · by_cases h2 : 1 ≤ b
    · by_cases h3 : a + b ≤ 64
      · simp [IP_opinfo_Width, i_opinfo_Width, known_D, arity_D, hk, hb, hloop, agreed_D, h1, h2, h3, e1]
      · simp [IP_opinfo_Width, i_opinfo_Width, known_D, arity_D, hk, hb, hloop, agreed_D, h1, h2, h3, e1]
    · simp [IP_opinfo_Width, i_opinfo_Width, known_D, arity_D, hk, hb, hloop, agreed_D, h1, h2, e1]
  · simp [IP_opinfo_Width, i_opinfo_Width, known_D, arity_D, hk, hb, hloop, agreed_D, h1, e1]
theorem width_16 (w v : Int) (hv : 0 ≤ v) (a : Int) (b : Int) (o : Own) (hall : List.all [a, b] insE = true) : callD G0 IP n_opinfo_Width [.int .i64 16, .int .i64 w, .int .u64 v, .list (([a, b] : List Int).map (AV.int .i64)) o] hp lo q =
    some (.ret (.tup [.int .i64 (if a = b then ((1, 0) : Int × Int) else (0, 3)).1, .int .i64 (if a = b then ((1, 0) : Int × Int) else (0, 3)).2]) hp) := by
  rw [callD_eq]
  have hloop := width_loop 16 w v [a, b] o (by simp) hp hp.length
  rw [if_neg (by simp [hall])] at hloop
  simp [wfr] at hloop
  have hk : opOk 16 = true := rfl
  have hb : arE 16 = 2 := rfl
  by_cases h1 : a = b
  · subst h1
    simp [IP_opinfo_Width, i_opinfo_Width, known_D, arity_D, hk, hb, hloop, agreed_D]
  · simp [IP_opinfo_Width, i_opinfo_Width, known_D, arity_D, hk, hb, hloop, agreed_D, h1]
theorem width_17 (w v : Int) (hv : 0 ≤ v) (a : Int) (b : Int) (o : Own) (hall : List.all [a, b] insE = true) : callD G0 IP n_opinfo_Width [.int .i64 17, .int .i64 w, .int .u64 v, .list (([a, b] : List Int).map (AV.int .i64)) o] hp lo q =
    some (.ret (.tup [.int .i64 (if a = b then ((1, 0) : Int × Int) else (0, 3)).1, .int .i64 (if a = b then ((1, 0) : Int × Int) else (0, 3)).2]) hp) := by
  rw [callD_eq]
  have hloop := width_loop 17 w v [a, b] o (by simp) hp hp.length
  rw [if_neg (by simp [hall])] at hloop
  simp [wfr] at hloop
  have hk : opOk 17 = true := rfl
  have hb : arE 17 = 2 := rfl
  by_cases h1 : a = b
  · subst h1
    simp [IP_opinfo_Width, i_opinfo_Width, known_D, arity_D, hk, hb, hloop, agreed_D]
  · simp [IP_opinfo_Width, i_opinfo_Width, known_D, arity_D, hk, hb, hloop, agreed_D, h1]
theorem width_18 (w v : Int) (hv : 0 ≤ v) (a : Int) (b : Int) (o : Own) (hall : List.all [a, b] insE = true) : callD G0 IP n_opinfo_Width [.int .i64 18, .int .i64 w, .int .u64 v, .list (([a, b] : List Int).map (AV.int .i64)) o] hp lo q =
    some (.ret (.tup [.int .i64 (if a = b then ((1, 0) : Int × Int) else (0, 3)).1, .int .i64 (if a = b then ((1, 0) : Int × Int) else (0, 3)).2]) hp) := by
  rw [callD_eq]
  have hloop := width_loop 18 w v [a, b] o (by simp) hp hp.length
  rw [if_neg (by simp [hall])] at hloop
  simp [wfr] at hloop
  have hk : opOk 18 = true := rfl
  have hb : arE 18 = 2 := rfl
  by_cases h1 : a = b
  · subst h1
    simp [IP_opinfo_Width, i_opinfo_Width, known_D, arity_D, hk, hb, hloop, agreed_D]
  · simp [IP_opinfo_Width, i_opinfo_Width, known_D, arity_D, hk, hb, hloop, agreed_D, h1]
theorem width_5 (w v : Int) (hv : 0 ≤ v) (a : Int) (b : Int) (o : Own) (hall : List.all [a, b] insE = true) : callD G0 IP n_opinfo_Width [.int .i64 5, .int .i64 w, .int .u64 v, .list (([a, b] : List Int).map (AV.int .i64)) o] hp lo q =
    some (.ret (.tup [.int .i64 (if a = b then ((a, 0) : Int × Int) else (0, 3)).1, .int .i64 (if a = b then ((a, 0) : Int × Int) else (0, 3)).2]) hp) := by
  rw [callD_eq]
  have hloop := width_loop 5 w v [a, b] o (by simp) hp hp.length
  rw [if_neg (by simp [hall])] at hloop
  simp [wfr] at hloop
  have hk : opOk 5 = true := rfl
  have hb : arE 5 = 2 := rfl
  by_cases h1 : a = b
  · subst h1
    simp [IP_opinfo_Width, i_opinfo_Width, known_D, arity_D, hk, hb, hloop, agreed_D]
  · simp [IP_opinfo_Width, i_opinfo_Width, known_D, arity_D, hk, hb, hloop, agreed_D, h1]
theorem width_6 (w v : Int) (hv : 0 ≤ v) (a : Int) (b : Int) (o : Own) (hall : List.all [a, b] insE = true) : callD G0 IP n_opinfo_Width [.int .i64 6, .int .i64 w, .int .u64 v, .list (([a, b] : List Int).map (AV.int .i64)) o] hp lo q =
    some (.ret (.tup [.int .i64 (if a = b then ((a, 0) : Int × Int) else (0, 3)).1, .int .i64 (if a = b then ((a, 0) : Int × Int) else (0, 3)).2]) hp) := by
  rw [callD_eq]
  have hloop := width_loop 6 w v [a, b] o (by simp) hp hp.length
  rw [if_neg (by simp [hall])] at hloop
  simp [wfr] at hloop
  have hk : opOk 6 = true := rfl
  have hb : arE 6 = 2 := rfl
  by_cases h1 : a = b
  · subst h1
    simp [IP_opinfo_Width, i_opinfo_Width, known_D, arity_D, hk, hb, hloop, agreed_D]
  · simp [IP_opinfo_Width, i_opinfo_Width, known_D, arity_D, hk, hb, hloop, agreed_D, h1]
theorem width_7 (w v : Int) (hv : 0 ≤ v) (a : Int) (b : Int) (o : Own) (hall : List.all [a, b] insE = true) : callD G0 IP n_opinfo_Width [.int .i64 7, .int .i64 w, .int .u64 v, .list (([a, b] : List Int).map (AV.int .i64)) o] hp lo q =
    some (.ret (.tup [.int .i64 (if a = b then ((a, 0) : Int × Int) else (0, 3)).1, .int .i64 (if a = b then ((a, 0) : Int × Int) else (0, 3)).2]) hp) := by
  rw [callD_eq]
  have hloop := width_loop 7 w v [a, b] o (by simp) hp hp.length
  rw [if_neg (by simp [hall])] at hloop
  simp [wfr] at hloop
  have hk : opOk 7 = true := rfl
  have hb : arE 7 = 2 := rfl
  by_cases h1 : a = b
  · subst h1
    simp [IP_opinfo_Width, i_opinfo_Width, known_D, arity_D, hk, hb, hloop, agreed_D]
  · simp [IP_opinfo_Width, i_opinfo_Width, known_D, arity_D, hk, hb, hloop, agreed_D, h1]
theorem width_8 (w v : Int) (hv : 0 ≤ v) (a : Int) (b : Int) (o : Own) (hall : List.all [a, b] insE = true) : callD G0 IP n_opinfo_Width [.int .i64 8, .int .i64 w, .int .u64 v, .list (([a, b] : List Int).map (AV.int .i64)) o] hp lo q =
    some (.ret (.tup [.int .i64 (if a = b then ((a, 0) : Int × Int) else (0, 3)).1, .int .i64 (if a = b then ((a, 0) : Int × Int) else (0, 3)).2]) hp) := by
  rw [callD_eq]
  have hloop := width_loop 8 w v [a, b] o (by simp) hp hp.length
  rw [if_neg (by simp [hall])] at hloop
  simp [wfr] at hloop
  have hk : opOk 8 = true := rfl
  have hb : arE 8 = 2 := rfl
  by_cases h1 : a = b
  · subst h1
    simp [IP_opinfo_Width, i_opinfo_Width, known_D, arity_D, hk, hb, hloop, agreed_D]
  · simp [IP_opinfo_Width, i_opinfo_Width, known_D, arity_D, hk, hb, hloop, agreed_D, h1]
theorem width_9 (w v : Int) (hv : 0 ≤ v) (a : Int) (b : Int) (o : Own) (hall : List.all [a, b] insE = true) : callD G0 IP n_opinfo_Width [.int .i64 9, .int .i64 w, .int .u64 v, .list (([a, b] : List Int).map (AV.int .i64)) o] hp lo q =
    some (.ret (.tup [.int .i64 (if a = b then ((a, 0) : Int × Int) else (0, 3)).1, .int .i64 (if a = b then ((a, 0) : Int × Int) else (0, 3)).2]) hp) := by
  rw [callD_eq]
  have hloop := width_loop 9 w v [a, b] o (by simp) hp hp.length
  rw [if_neg (by simp [hall])] at hloop
  simp [wfr] at hloop
  have hk : opOk 9 = true := rfl
  have hb : arE 9 = 2 := rfl
  by_cases h1 : a = b
  · subst h1
    simp [IP_opinfo_Width, i_opinfo_Width, known_D, arity_D, hk, hb, hloop, agreed_D]
  · simp [IP_opinfo_Width, i_opinfo_Width, known_D, arity_D, hk, hb, hloop, agreed_D, h1]
theorem width_10 (w v : Int) (hv : 0 ≤ v) (a : Int) (b : Int) (o : Own) (hall : List.all [a, b] insE = true) : callD G0 IP n_opinfo_Width [.int .i64 10, .int .i64 w, .int .u64 v, .list (([a, b] : List Int).map (AV.int .i64)) o] hp lo q =
    some (.ret (.tup [.int .i64 (if a = b then ((a, 0) : Int × Int) else (0, 3)).1, .int .i64 (if a = b then ((a, 0) : Int × Int) else (0, 3)).2]) hp) := by
  rw [callD_eq]
  have hloop := width_loop 10 w v [a, b] o (by simp) hp hp.length
  rw [if_neg (by simp [hall])] at hloop
  simp [wfr] at hloop
  have hk : opOk 10 = true := rfl
  have hb : arE 10 = 2 := rfl
  by_cases h1 : a = b
  · subst h1
    simp [IP_opinfo_Width, i_opinfo_Width, known_D, arity_D, hk, hb, hloop, agreed_D]
  · simp [IP_opinfo_Width, i_opinfo_Width, known_D, arity_D, hk, hb, hloop, agreed_D, h1]
theorem width_11 (w v : Int) (hv : 0 ≤ v) (a : Int) (b : Int) (o : Own) (hall : List.all [a, b] insE = true) : callD G0 IP n_opinfo_Width [.int .i64 11, .int .i64 w, .int .u64 v, .list (([a, b] : List Int).map (AV.int .i64)) o] hp lo q =
    some (.ret (.tup [.int .i64 (if a = b then ((a, 0) : Int × Int) else (0, 3)).1, .int .i64 (if a = b then ((a, 0) : Int × Int) else (0, 3)).2]) hp) := by
  rw [callD_eq]
  have hloop := width_loop 11 w v [a, b] o (by simp) hp hp.length
  rw [if_neg (by simp [hall])] at hloop
  simp [wfr] at hloop
  have hk : opOk 11 = true := rfl
  have hb : arE 11 = 2 := rfl
  by_cases h1 : a = b
  · subst h1
    simp [IP_opinfo_Width, i_opinfo_Width, known_D, arity_D, hk, hb, hloop, agreed_D]
  · simp [IP_opinfo_Width, i_opinfo_Width, known_D, arity_D, hk, hb, hloop, agreed_D, h1]
theorem width_12 (w v : Int) (hv : 0 ≤ v) (a : Int) (b : Int) (o : Own) (hall : List.all [a, b] insE = true) : callD G0 IP n_opinfo_Width [.int .i64 12, .int .i64 w, .int .u64 v, .list (([a, b] : List Int).map (AV.int .i64)) o] hp lo q =
    some (.ret (.tup [.int .i64 (if a = b then ((a, 0) : Int × Int) else (0, 3)).1, .int .i64 (if a = b then ((a, 0) : Int × Int) else (0, 3)).2]) hp) := by
  rw [callD_eq]
  have hloop := width_loop 12 w v [a, b] o (by simp) hp hp.length
  rw [if_neg (by simp [hall])] at hloop
  simp [wfr] at hloop
  have hk : opOk 12 = true := rfl
  have hb : arE 12 = 2 := rfl
  by_cases h1 : a = b
  · subst h1
    simp [IP_opinfo_Width, i_opinfo_Width, known_D, arity_D, hk, hb, hloop, agreed_D]
  · simp [IP_opinfo_Width, i_opinfo_Width, known_D, arity_D, hk, hb, hloop, agreed_D, h1]
theorem width_13 (w v : Int) (hv : 0 ≤ v) (a : Int) (b : Int) (o : Own) (hall : List.all [a, b] insE = true) : callD G0 IP n_opinfo_Width [.int .i64 13, .int .i64 w, .int .u64 v, .list (([a, b] : List Int).map (AV.int .i64)) o] hp lo q =
    some (.ret (.tup [.int .i64 (if a = b then ((a, 0) : Int × Int) else (0, 3)).1, .int .i64 (if a = b then ((a, 0) : Int × Int) else (0, 3)).2]) hp) := by
  rw [callD_eq]
  have hloop := width_loop 13 w v [a, b] o (by simp) hp hp.length
  rw [if_neg (by simp [hall])] at hloop
  simp [wfr] at hloop
  have hk : opOk 13 = true := rfl
  have hb : arE 13 = 2 := rfl
  by_cases h1 : a = b
  · subst h1
    simp [IP_opinfo_Width, i_opinfo_Width, known_D, arity_D, hk, hb, hloop, agreed_D]
  · simp [IP_opinfo_Width, i_opinfo_Width, known_D, arity_D, hk, hb, hloop, agreed_D, h1]
theorem width_14 (w v : Int) (hv : 0 ≤ v) (a : Int) (b : Int) (o : Own) (hall : List.all [a, b] insE = true) : callD G0 IP n_opinfo_Width [.int .i64 14, .int .i64 w, .int .u64 v, .list (([a, b] : List Int).map (AV.int .i64)) o] hp lo q =
    some (.ret (.tup [.int .i64 (if a = b then ((a, 0) : Int × Int) else (0, 3)).1, .int .i64 (if a = b then ((a, 0) : Int × Int) else (0, 3)).2]) hp) := by
  rw [callD_eq]
  have hloop := width_loop 14 w v [a, b] o (by simp) hp hp.length
  rw [if_neg (by simp [hall])] at hloop
  simp [wfr] at hloop
  have hk : opOk 14 = true := rfl
  have hb : arE 14 = 2 := rfl
  by_cases h1 : a = b
  · subst h1
    simp [IP_opinfo_Width, i_opinfo_Width, known_D, arity_D, hk, hb, hloop, agreed_D]
  · simp [IP_opinfo_Width, i_opinfo_Width, known_D, arity_D, hk, hb, hloop, agreed_D, h1]
theorem width_15 (w v : Int) (hv : 0 ≤ v) (a : Int) (b : Int) (o : Own) (hall : List.all [a, b] insE = true) : callD G0 IP n_opinfo_Width [.int .i64 15, .int .i64 w, .int .u64 v, .list (([a, b] : List Int).map (AV.int .i64)) o] hp lo q =
    some (.ret (.tup [.int .i64 (if a = b then ((a, 0) : Int × Int) else (0, 3)).1, .int .i64 (if a = b then ((a, 0) : Int × Int) else (0, 3)).2]) hp) := by
  rw [callD_eq]
  have hloop := width_loop 15 w v [a, b] o (by simp) hp hp.length
  rw [if_neg (by simp [hall])] at hloop
  simp [wfr] at hloop
  have hk : opOk 15 = true := rfl
  have hb : arE 15 = 2 := rfl
  by_cases h1 : a = b
  · subst h1
    simp [IP_opinfo_Width, i_opinfo_Width, known_D, arity_D, hk, hb, hloop, agreed_D]
  · simp [IP_opinfo_Width, i_opinfo_Width, known_D, arity_D, hk, hb, hloop, agreed_D, h1]
end
end Go.Proofs.YtkofimhnehkdoaaGreatDoor.Rf
end
section
set_option linter.unusedSimpArgs false
set_option linter.unusedVariables false
namespace Go.Proofs.YtkofimhnehkdoaaGreatDoor.Rf
def leafB (op : Int) : Bool := decide (op = 1) || (decide (op = 2) || (decide (op = 24) || decide (op = 25)))
theorem any_eq (op : Int) (l : List Int) : ((List.range l.length).any fun i => decide (l.getD i 0 = op)) = l.any fun x => decide (x = op) := by
  induction l with
  | nil => rfl
  | cons c r ih =>
    rw [List.length_cons, List.range_succ_eq_map]
    simp [List.any_map, Function.comp_def] at ih ⊢
    rw [ih]
theorem eq_comm_dec (a b : Int) : decide (a = b) = decide (b = a) := by
  by_cases h : a = b
  · simp [h]
  · rw [decide_eq_false h, decide_eq_false fun e : b = a => h e.symm]
section
variable {hp : List HObj} {lo : Nat} (q : Bool)
theorem is4_D (op : Int) (l : List Int) (o : Own) (hl : l.length ≤ 9223372036854775807) : callD G0 IP n_saturateref04_Is [.int .i64 op, .list (l.map (AV.int .i64)) o] hp lo q = some (.ret (.bool (l.any fun x => decide (x = op))) hp) := by
  rw [callD_eq]
  have hloop := loop_find (G := G0) (IP := IP) (lo := hp.length) (b := l_saturateref04_Is_0)
    (fun i => ⟨[(0, .int .i64 op), (1, .list (l.map (AV.int .i64)) o), (7, .int .i64 l.length), (8, .int .i64 i)], hp⟩) l.length (fun i => decide (l.getD i 0 = op))
    (.ret, ⟨[(4, .bool true)], hp⟩) (.exit 0, ⟨[(0, .int .i64 op), (1, .list (l.map (AV.int .i64)) o), (7, .int .i64 l.length), (8, .int .i64 l.length), (9, .bool false)], hp⟩)
    (fun i hi hp => by
      have hw := wrap_succ hi hl
      simp [List.getD, hi] at hp
      rw [← hw]
      simp [l_saturateref04_Is_0, hi, show (i : Int) < (l.length : Int) by omega, hp])
    (fun i hi hp => by
      simp [List.getD, hi] at hp
      simp [l_saturateref04_Is_0, hi, show (i : Int) < (l.length : Int) by omega, hp])
    (by simp) (by simp [l_saturateref04_Is_0]) (by simp)
  rw [any_eq] at hloop
  simp only [Int.natCast_zero] at hloop
  cases h : l.any fun x => decide (x = op) with
  | true => rw [h] at hloop; simp only [if_true] at hloop; simp [IP_saturateref04_Is, i_saturateref04_Is, hloop]
  | false => rw [h] at hloop; simp only [Bool.false_eq_true, if_false] at hloop; simp [IP_saturateref04_Is, i_saturateref04_Is, hloop]
theorem leaf4_D (op : Int) : callD G0 IP n_saturateref04_Leaf [.int .i64 op] hp lo q = some (.ret (.bool (leafB op)) hp) := by
  rw [callD_eq]
  have e := fun (hp : List HObj) (lo : Nat) (q : Bool) (o : Own) => is4_D (hp := hp) (lo := lo) q op [1, 2, 24, 25] o (by simp)
  simp only [List.map_cons, List.map_nil, List.any_cons, List.any_nil, Bool.or_false, eq_comm_dec _ op] at e
  simp [IP_saturateref04_Leaf, i_saturateref04_Leaf, e, leafB]
theorem arity4_D (op : Int) : callD G0 IP n_saturateref04_Arity [.int .i64 op] hp lo q = some (.ret (.int .i64 (arE op)) hp) := by
  rw [callD_eq]
  have e := fun (hp : List HObj) (lo : Nat) (q : Bool) (o : Own) => is4_D (hp := hp) (lo := lo) q op [3, 4, 21, 22, 23, 26] o (by simp)
  simp only [List.map_cons, List.map_nil, List.any_cons, List.any_nil, Bool.or_false, eq_comm_dec _ op] at e
  by_cases h1 : op < 1
  · have hk : opOk op = false := by simp [opOk]; omega
    simp [IP_saturateref04_Arity, i_saturateref04_Arity, arE, hk, h1]
  · by_cases h2 : 26 < op
    · have hk : opOk op = false := by simp [opOk]; omega
      simp [IP_saturateref04_Arity, i_saturateref04_Arity, arE, hk, h1, h2]
    · have hk : opOk op = true := by simp [opOk]; omega
      cases hL : leafB op with
      | true =>
        have h3 : op = 1 ∨ op = 2 ∨ op = 24 ∨ op = 25 := by simpa [leafB] using hL
        simp [IP_saturateref04_Arity, i_saturateref04_Arity, arE, hk, h1, h2, leaf4_D, hL, h3]
      | false =>
        have h3 : ¬ (op = 1 ∨ op = 2 ∨ op = 24 ∨ op = 25) := by simpa [leafB] using hL
        by_cases h4 : op = 3 ∨ op = 4 ∨ op = 21 ∨ op = 22 ∨ op = 23 ∨ op = 26
        · have h5 : (decide (op = 3) || (decide (op = 4) || (decide (op = 21) || (decide (op = 22) || (decide (op = 23) || decide (op = 26)))))) = true := by simpa using h4
          rw [h5] at e
          rw [arE, if_neg (by simp [hk]), if_neg h3, if_pos h4]
          simp [IP_saturateref04_Arity, i_saturateref04_Arity, h1, h2, leaf4_D, hL, e]
        · have h5 : (decide (op = 3) || (decide (op = 4) || (decide (op = 21) || (decide (op = 22) || (decide (op = 23) || decide (op = 26)))))) = false := by simpa using h4
          rw [h5] at e
          rw [arE, if_neg (by simp [hk]), if_neg h3, if_neg h4]
          by_cases h6 : op = 19
          · subst h6
            simp [IP_saturateref04_Arity, i_saturateref04_Arity, leaf4_D, hL, e]
          · simp [IP_saturateref04_Arity, i_saturateref04_Arity, h1, h2, leaf4_D, hL, e, h6]
theorem wid4_D (w : Int) : callD G0 IP n_saturateref04_width [.int .i64 w] hp lo q = some (.ret (.bool (insE w)) hp) := by
  rw [callD_eq]
  by_cases h : 0 ≤ w
  · by_cases h2 : w ≤ 64 <;> simp [IP_saturateref04_width, i_saturateref04_width, insE, h, h2]
  · simp [IP_saturateref04_width, i_saturateref04_width, insE, h]
theorem leafW4_D (op w v : Int) (hv : v < 18446744073709551616) : callD G0 IP n_saturateref04_leaf [.int .i64 op, .int .i64 w, .int .u64 v] hp lo q = some (.ret (.tup [.int .i64 (leafE op w v).1, .int .i64 (leafE op w v).2]) hp) := by
  rw [callD_eq]
  cases hi : insE w with
  | false => simp [IP_saturateref04_leaf, i_saturateref04_leaf, wid4_D, hi, leafE]
  | true =>
    have hw : 0 ≤ w ∧ w ≤ 64 := by simpa [insE] using hi
    by_cases h1 : op = 2
    · by_cases h2 : 0 < w
      · by_cases h3 : w < 64
        · have e1 : IntKind.wrap .u64 w = w := wrapU_small (by omega) (by omega)
          have h4 : ¬ w < 0 := by omega
          have hm : min w.toNat 64 = w.toNat := by omega
          have hp2 : (2 : Int) ^ w.toNat < 18446744073709551616 := by
            have : (2 : Nat) ^ w.toNat < 2 ^ 64 := Nat.pow_lt_pow_right (by omega) (by omega)
            have h := Int.ofNat_lt.2 this
            simpa using h
          have hp0 : (0 : Int) < 2 ^ w.toNat := Int.pow_pos (by omega)
          have e2 : IntKind.wrap .u64 (1 * 2 ^ w.toNat) = 2 ^ w.toNat := by rw [Int.one_mul]; exact wrapU_small (by omega) (by omega)
          rw [Int.one_mul] at e2
          by_cases h5 : (2 : Int) ^ w.toNat ≤ v
          · simp [IP_saturateref04_leaf, i_saturateref04_leaf, wid4_D, hi, leafE, h1, h2, h3, e1, h4, IntKind.bits, hm, e2, h5]
          · simp [IP_saturateref04_leaf, i_saturateref04_leaf, wid4_D, hi, leafE, h1, h2, h3, e1, h4, IntKind.bits, hm, e2, h5]
        · have hw64 : w = 64 := by omega
          subst hw64
          have h5 : ¬ (18446744073709551616 : Int) ≤ v := by omega
          have h6 : ¬ (2 : Int) ^ (64 : Int).toNat ≤ v := h5
          simp [IP_saturateref04_leaf, i_saturateref04_leaf, wid4_D, hi, leafE, h1, h5, h6]
      · simp [IP_saturateref04_leaf, i_saturateref04_leaf, wid4_D, hi, leafE, h1, h2]
    · simp [IP_saturateref04_leaf, i_saturateref04_leaf, wid4_D, hi, leafE, h1]
theorem parts4_D (op w v f : Int) (hf : f ≤ 64) : callD G0 IP n_saturateref04_parts [.int .i64 op, .int .i64 w, .int .u64 v, .int .i64 f] hp lo q = some (.ret (.tup [.int .i64 (resE op w v f).1, .int .i64 (resE op w v f).2]) hp) := by
  rw [callD_eq]
  cases hi : insE w with
  | false =>
    have h1 : w < 1 ∨ 64 < w ∨ f < 1 := by simp [insE] at hi; omega
    simp [IP_saturateref04_parts, i_saturateref04_parts, wid4_D, hi, resE, h1]
  | true =>
    have hw : 0 ≤ w ∧ w ≤ 64 := by simpa [insE] using hi
    have h2 : ¬ 64 < w := by omega
    by_cases h1 : w < 1
    · simp [IP_saturateref04_parts, i_saturateref04_parts, wid4_D, hi, resE, h1]
    · by_cases h3 : f < 1
      · simp [IP_saturateref04_parts, i_saturateref04_parts, wid4_D, hi, resE, h1, h2, h3]
      · by_cases h4 : op = 21
        · by_cases h5 : f < w
          · simp [IP_saturateref04_parts, i_saturateref04_parts, wid4_D, hi, resE, h1, h2, h3, h4, h5]
          · have e1 : IntKind.wrap .i64 (f - w) = f - w := wrap_small (by omega) (by omega)
            have e2 : IntKind.wrap .u64 (f - w) = f - w := wrapU_small (by omega) (by omega)
            by_cases h6 : f - w < v
            · simp [IP_saturateref04_parts, i_saturateref04_parts, wid4_D, hi, resE, h1, h2, h3, h4, h5, h6, e1, e2]
            · simp [IP_saturateref04_parts, i_saturateref04_parts, wid4_D, hi, resE, h1, h2, h3, h4, h5, h6, e1, e2]
        · by_cases h5 : w < f
          · simp [IP_saturateref04_parts, i_saturateref04_parts, wid4_D, hi, resE, h1, h2, h3, h4, h5]
          · simp [IP_saturateref04_parts, i_saturateref04_parts, wid4_D, hi, resE, h1, h2, h3, h4, h5]
end
end Go.Proofs.YtkofimhnehkdoaaGreatDoor.Rf
end
section
set_option linter.unusedSimpArgs false
set_option linter.unusedVariables false
namespace Go.Proofs.YtkofimhnehkdoaaGreatDoor.Rf
theorem len0 {as : List Int} (h : (as.length : Int) = 0) : as = [] := List.eq_nil_of_length_eq_zero (by omega)
theorem len1 {as : List Int} (h : (as.length : Int) = 1) : ∃ a, as = [a] := by
  rcases as with _ | ⟨a, _ | ⟨b, r⟩⟩
  · simp at h
  · exact ⟨a, rfl⟩
  · simp at h; omega
theorem len2 {as : List Int} (h : (as.length : Int) = 2) : ∃ a b, as = [a, b] := by
  rcases as with _ | ⟨a, _ | ⟨b, _ | ⟨c, r⟩⟩⟩
  · simp at h
  · simp at h
  · exact ⟨a, b, rfl⟩
  · simp at h; omega
theorem len3 {as : List Int} (h : (as.length : Int) = 3) : ∃ a b c, as = [a, b, c] := by
  rcases as with _ | ⟨a, _ | ⟨b, _ | ⟨c, _ | ⟨d, r⟩⟩⟩⟩
  · simp at h
  · simp at h
  · simp at h
  · exact ⟨a, b, c, rfl⟩
  · simp at h; omega
theorem widE_in {op w v : Int} {as : List Int} (h : ¬ (opOk op = false ∨ (as.length : Int) ≠ arE op)) (hall : as.all insE = true) : widE op w v as = (if op = 1 ∨ op = 2 ∨ op = 24 ∨ op = 25 then leafE op w v else
        if op = 3 ∨ op = 4 ∨ op = 26 then (as.getD 0 0, 0) else
        if op = 21 ∨ op = 22 ∨ op = 23 then resE op w v (as.getD 0 0) else
        if op = 19 then (if as.getD 0 0 = 1 ∧ as.getD 1 0 = as.getD 2 0 then (as.getD 1 0, 0) else (0, 3)) else
        if op = 20 then (if 1 ≤ as.getD 0 0 ∧ 1 ≤ as.getD 1 0 ∧ as.getD 0 0 + as.getD 1 0 ≤ 64 then (as.getD 0 0 + as.getD 1 0, 0) else (0, 3)) else
        if op = 16 ∨ op = 17 ∨ op = 18 then (if as.getD 0 0 = as.getD 1 0 then (1, 0) else (0, 3)) else
        if as.getD 0 0 = as.getD 1 0 then (as.getD 0 0, 0) else (0, 3)) := by
  rw [widE, if_neg h, if_neg (by simp [hall])]
section
variable {hp : List HObj} {lo : Nat} (q : Bool)
theorem width_D (op w v : Int) (hv : 0 ≤ v) (as : List Int) (o : Own) (ha : as.length ≤ 9223372036854775807) : callD G0 IP n_opinfo_Width [.int .i64 op, .int .i64 w, .int .u64 v, .list (as.map (AV.int .i64)) o] hp lo q =
    some (.ret (.tup [.int .i64 (widE op w v as).1, .int .i64 (widE op w v as).2]) hp) := by
  by_cases h : opOk op = false ∨ (as.length : Int) ≠ arE op
  · rw [width_bad q op w v as o h, widE, if_pos h]
  · have hk : opOk op = true := by cases hk : opOk op <;> simp_all
    have hl : (as.length : Int) = arE op := Decidable.byContradiction fun e => h (.inr e)
    cases hall : as.all insE with
    | false => rw [width_out q op w v as o ha hk hl hall, widE, if_neg h, if_pos hall]
    | true =>
      rw [widE_in h hall]
      rcases opOk_cases hk with rfl | rfl | rfl | rfl | rfl | rfl | rfl | rfl | rfl | rfl | rfl | rfl | rfl | rfl | rfl | rfl | rfl | rfl | rfl | rfl | rfl | rfl | rfl | rfl | rfl | rfl
      · obtain rfl := len0 hl; exact width_1 q w v hv o hall
      · obtain rfl := len0 hl; exact width_2 q w v hv o hall
      · obtain ⟨a, rfl⟩ := len1 hl; exact width_3 q w v hv a o hall
      · obtain ⟨a, rfl⟩ := len1 hl; exact width_4 q w v hv a o hall
      · obtain ⟨a, b, rfl⟩ := len2 hl; exact width_5 q w v hv a b o hall
      · obtain ⟨a, b, rfl⟩ := len2 hl; exact width_6 q w v hv a b o hall
      · obtain ⟨a, b, rfl⟩ := len2 hl; exact width_7 q w v hv a b o hall
      · obtain ⟨a, b, rfl⟩ := len2 hl; exact width_8 q w v hv a b o hall
      · obtain ⟨a, b, rfl⟩ := len2 hl; exact width_9 q w v hv a b o hall
      · obtain ⟨a, b, rfl⟩ := len2 hl; exact width_10 q w v hv a b o hall
      · obtain ⟨a, b, rfl⟩ := len2 hl; exact width_11 q w v hv a b o hall
      · obtain ⟨a, b, rfl⟩ := len2 hl; exact width_12 q w v hv a b o hall
      · obtain ⟨a, b, rfl⟩ := len2 hl; exact width_13 q w v hv a b o hall
      · obtain ⟨a, b, rfl⟩ := len2 hl; exact width_14 q w v hv a b o hall
      · obtain ⟨a, b, rfl⟩ := len2 hl; exact width_15 q w v hv a b o hall
      · obtain ⟨a, b, rfl⟩ := len2 hl; exact width_16 q w v hv a b o hall
      · obtain ⟨a, b, rfl⟩ := len2 hl; exact width_17 q w v hv a b o hall
      · obtain ⟨a, b, rfl⟩ := len2 hl; exact width_18 q w v hv a b o hall
      · obtain ⟨a, b, c, rfl⟩ := len3 hl; exact width_19 q w v hv a b c o hall
      · obtain ⟨a, b, rfl⟩ := len2 hl; exact width_20 q w v hv a b o hall
      · obtain ⟨a, rfl⟩ := len1 hl; exact width_21 q w v hv a o hall
      · obtain ⟨a, rfl⟩ := len1 hl; exact width_22 q w v hv a o hall
      · obtain ⟨a, rfl⟩ := len1 hl; exact width_23 q w v hv a o hall
      · obtain rfl := len0 hl; exact width_24 q w v hv o hall
      · obtain rfl := len0 hl; exact width_25 q w v hv o hall
      · obtain ⟨a, rfl⟩ := len1 hl; exact width_26 q w v hv a o hall
end
end Go.Proofs.YtkofimhnehkdoaaGreatDoor.Rf
end
section
set_option linter.unusedSimpArgs false
set_option linter.unusedVariables false
namespace Go.Proofs.YtkofimhnehkdoaaGreatDoor.Rf
section
variable {hp : List HObj} {lo : Nat} (q : Bool)
theorem nameSel {n : Nat} (h : n < 27) : ([AV.str [], AV.str [118, 97, 114], AV.str [99, 111, 110, 115, 116], AV.str [110, 111, 116], AV.str [110, 101, 103], AV.str [97, 110, 100], AV.str [111, 114], AV.str [120, 111, 114], AV.str [97, 100, 100], AV.str [115, 117, 98], AV.str [109, 117, 108], AV.str [117, 100, 105, 118], AV.str [117, 114, 101, 109], AV.str [115, 104, 108], AV.str [108, 115, 104, 114], AV.str [97, 115, 104, 114], AV.str [101, 113], AV.str [117, 108, 116], AV.str [115, 108, 116], AV.str [105, 116, 101], AV.str [99, 111, 110, 99, 97, 116], AV.str [101, 120, 116, 114, 97, 99, 116], AV.str [122, 101, 120, 116], AV.str [115, 101, 120, 116], AV.str [104, 111, 108, 101], AV.str [110, 117, 109], AV.str [101, 118, 97, 108]])[n]? = some (AV.str (nm n)) := by
  have e := g_0_at h
  rw [List.drop_eq_getElem_cons (by rw [g_0_len]; exact h)] at e
  simp only [List.take_succ_cons, List.take_zero, List.cons.injEq, and_true] at e
  show g_0[n]? = _
  rw [List.getElem?_eq_getElem (by rw [g_0_len]; exact h), e]
theorem name4_D (op : Int) : callD G0 IP n_saturateref04_Name [.int .i64 op] hp lo q = some (.ret (.str (nameE op)) hp) := by
  rw [callD_eq]
  cases h : opOk op with
  | false =>
    have h1 : op < 1 ∨ ¬ op < 1 ∧ 26 < op := by simp [opOk] at h; omega
    rcases h1 with h1 | ⟨h1, h2⟩
    · simp [IP_saturateref04_Name, i_saturateref04_Name, h1, h, nameE]
    · simp [IP_saturateref04_Name, i_saturateref04_Name, h1, h2, h, nameE]
  | true =>
    obtain ⟨n, rfl, h1, h2⟩ := opOk_nat h
    have e1 : (n : Int) < 27 := by omega
    have e2 : n + 1 ≤ 27 := by omega
    have e3 : ¬ (n : Int) < 1 := by omega
    have e4 : ¬ (26 : Int) < n := by omega
    simp [IP_saturateref04_Name, i_saturateref04_Name, h, nameE, e1, e2, e3, e4, nameSel (show n < 27 by omega)]
end
end Go.Proofs.YtkofimhnehkdoaaGreatDoor.Rf
end
section
set_option linter.unusedSimpArgs false
set_option linter.unusedVariables false
namespace Go.Proofs.YtkofimhnehkdoaaGreatDoor.Rf
section
variable {hp : List HObj} {lo : Nat} (q : Bool)
def wfr4 (op w v : Int) (as : List Int) (o : Own) (i : Nat) : Fr := [(0, .int .i64 op), (1, .int .i64 w), (2, .int .u64 v), (3, .list (as.map (AV.int .i64)) o), (22, .int .i64 as.length), (23, .int .i64 i)]
theorem width4_loop (op w v : Int) (as : List Int) (o : Own) (ha : as.length ≤ 9223372036854775807) (hp : List HObj) (lo : Nat) : loopD G0 IP lo l_saturateref04_Width_0 ⟨wfr4 op w v as o 0, hp⟩ =
    some (if as.all insE = false then (.ret, ⟨[(8, .int .i64 0), (9, .int .i64 3)], hp⟩) else (.exit 0, ⟨wfr4 op w v as o as.length ++ [(24, .bool false)], hp⟩)) := by
  have hloop := loop_find (G := G0) (IP := IP) (lo := lo) (b := l_saturateref04_Width_0)
    (fun i => ⟨wfr4 op w v as o i, hp⟩) as.length (fun i => !insE (as.getD i 0))
    (.ret, ⟨[(8, .int .i64 0), (9, .int .i64 3)], hp⟩)
    (.exit 0, ⟨wfr4 op w v as o as.length ++ [(24, .bool false)], hp⟩)
    (fun i hi hp => by
      have hw := wrap_succ hi ha
      simp [List.getD, hi] at hp
      simp only [wfr4]
      rw [← hw]
      simp [l_saturateref04_Width_0, hi, wid4_D, hp])
    (fun i hi hp => by
      simp [List.getD, hi] at hp
      simp [l_saturateref04_Width_0, wfr4, hi, wid4_D, hp])
    (by simp) (by simp [l_saturateref04_Width_0, wfr4]) (by simp)
  rw [any_ins] at hloop
  rw [hloop]
  cases as.all insE <;> rfl
theorem width4_bad (op w v : Int) (as : List Int) (o : Own) (h : opOk op = false ∨ (as.length : Int) ≠ arE op) : callD G0 IP n_saturateref04_Width [.int .i64 op, .int .i64 w, .int .u64 v, .list (as.map (AV.int .i64)) o] hp lo q = some (.ret (.tup [.int .i64 0, .int .i64 4]) hp) := by
  rw [callD_eq]
  by_cases hl : arE op < 0
  · simp [IP_saturateref04_Width, i_saturateref04_Width, arity4_D, hl]
  · have hl2 : ¬ (as.length : Int) = arE op := by
      rcases h with h | h
      · exact absurd (by simp [arE, h]) hl
      · exact h
    simp [IP_saturateref04_Width, i_saturateref04_Width, arity4_D, hl, hl2]
theorem width4_out (op w v : Int) (as : List Int) (o : Own) (ha : as.length ≤ 9223372036854775807) (hl : (as.length : Int) = arE op) (hall : as.all insE = false) : callD G0 IP n_saturateref04_Width [.int .i64 op, .int .i64 w, .int .u64 v, .list (as.map (AV.int .i64)) o] hp lo q = some (.ret (.tup [.int .i64 0, .int .i64 3]) hp) := by
  rw [callD_eq]
  have hloop := width4_loop op w v as o ha hp hp.length
  rw [if_pos hall] at hloop
  simp only [wfr4, Int.natCast_zero, hl] at hloop
  have hn : ¬ arE op < 0 := by omega
  simp [IP_saturateref04_Width, i_saturateref04_Width, arity4_D, hl, hn, hloop]
theorem width4_1 (w v : Int) (hv : v < 18446744073709551616)  (o : Own) (hall : List.all ([] : List Int) insE = true) : callD G0 IP n_saturateref04_Width [.int .i64 1, .int .i64 w, .int .u64 v, .list (([] : List Int).map (AV.int .i64)) o] hp lo q =
    some (.ret (.tup [.int .i64 (leafE 1 w v).1, .int .i64 (leafE 1 w v).2]) hp) := by
  rw [callD_eq]
  have hloop := width4_loop 1 w v [] o (by simp) hp hp.length
  rw [if_neg (by simp [hall])] at hloop
  simp [wfr4] at hloop
  have hb : arE 1 = 0 := rfl
  have hL : leafB 1 = true := rfl
  have e := fun (hp : List HObj) (lo : Nat) (q : Bool) => leafW4_D (hp := hp) (lo := lo) q 1 w v hv
  simp [IP_saturateref04_Width, i_saturateref04_Width, arity4_D, leaf4_D, hb, hL, hloop, e]
theorem width4_2 (w v : Int) (hv : v < 18446744073709551616)  (o : Own) (hall : List.all ([] : List Int) insE = true) : callD G0 IP n_saturateref04_Width [.int .i64 2, .int .i64 w, .int .u64 v, .list (([] : List Int).map (AV.int .i64)) o] hp lo q =
    some (.ret (.tup [.int .i64 (leafE 2 w v).1, .int .i64 (leafE 2 w v).2]) hp) := by
  rw [callD_eq]
  have hloop := width4_loop 2 w v [] o (by simp) hp hp.length
  rw [if_neg (by simp [hall])] at hloop
  simp [wfr4] at hloop
  have hb : arE 2 = 0 := rfl
  have hL : leafB 2 = true := rfl
  have e := fun (hp : List HObj) (lo : Nat) (q : Bool) => leafW4_D (hp := hp) (lo := lo) q 2 w v hv
  simp [IP_saturateref04_Width, i_saturateref04_Width, arity4_D, leaf4_D, hb, hL, hloop, e]
theorem width4_24 (w v : Int) (hv : v < 18446744073709551616)  (o : Own) (hall : List.all ([] : List Int) insE = true) : callD G0 IP n_saturateref04_Width [.int .i64 24, .int .i64 w, .int .u64 v, .list (([] : List Int).map (AV.int .i64)) o] hp lo q =
    some (.ret (.tup [.int .i64 (leafE 24 w v).1, .int .i64 (leafE 24 w v).2]) hp) := by
  rw [callD_eq]
  have hloop := width4_loop 24 w v [] o (by simp) hp hp.length
  rw [if_neg (by simp [hall])] at hloop
  simp [wfr4] at hloop
  have hb : arE 24 = 0 := rfl
  have hL : leafB 24 = true := rfl
  have e := fun (hp : List HObj) (lo : Nat) (q : Bool) => leafW4_D (hp := hp) (lo := lo) q 24 w v hv
  simp [IP_saturateref04_Width, i_saturateref04_Width, arity4_D, leaf4_D, hb, hL, hloop, e]
theorem width4_25 (w v : Int) (hv : v < 18446744073709551616)  (o : Own) (hall : List.all ([] : List Int) insE = true) : callD G0 IP n_saturateref04_Width [.int .i64 25, .int .i64 w, .int .u64 v, .list (([] : List Int).map (AV.int .i64)) o] hp lo q =
    some (.ret (.tup [.int .i64 (leafE 25 w v).1, .int .i64 (leafE 25 w v).2]) hp) := by
  rw [callD_eq]
  have hloop := width4_loop 25 w v [] o (by simp) hp hp.length
  rw [if_neg (by simp [hall])] at hloop
  simp [wfr4] at hloop
  have hb : arE 25 = 0 := rfl
  have hL : leafB 25 = true := rfl
  have e := fun (hp : List HObj) (lo : Nat) (q : Bool) => leafW4_D (hp := hp) (lo := lo) q 25 w v hv
  simp [IP_saturateref04_Width, i_saturateref04_Width, arity4_D, leaf4_D, hb, hL, hloop, e]
theorem width4_21 (w v : Int) (hv : v < 18446744073709551616) (a : Int) (o : Own) (hall : List.all ([a] : List Int) insE = true) : callD G0 IP n_saturateref04_Width [.int .i64 21, .int .i64 w, .int .u64 v, .list (([a] : List Int).map (AV.int .i64)) o] hp lo q =
    some (.ret (.tup [.int .i64 (resE 21 w v a).1, .int .i64 (resE 21 w v a).2]) hp) := by
  rw [callD_eq]
  have hloop := width4_loop 21 w v [a] o (by simp) hp hp.length
  rw [if_neg (by simp [hall])] at hloop
  simp [wfr4] at hloop
  have hb : arE 21 = 1 := rfl
  have hL : leafB 21 = false := rfl
  have ha : a ≤ 64 := by simp [insE] at hall; omega
  have e := fun (hp : List HObj) (lo : Nat) (q : Bool) => parts4_D (hp := hp) (lo := lo) q 21 w v a ha
  simp [IP_saturateref04_Width, i_saturateref04_Width, arity4_D, leaf4_D, hb, hL, hloop, e]
theorem width4_22 (w v : Int) (hv : v < 18446744073709551616) (a : Int) (o : Own) (hall : List.all ([a] : List Int) insE = true) : callD G0 IP n_saturateref04_Width [.int .i64 22, .int .i64 w, .int .u64 v, .list (([a] : List Int).map (AV.int .i64)) o] hp lo q =
    some (.ret (.tup [.int .i64 (resE 22 w v a).1, .int .i64 (resE 22 w v a).2]) hp) := by
  rw [callD_eq]
  have hloop := width4_loop 22 w v [a] o (by simp) hp hp.length
  rw [if_neg (by simp [hall])] at hloop
  simp [wfr4] at hloop
  have hb : arE 22 = 1 := rfl
  have hL : leafB 22 = false := rfl
  have ha : a ≤ 64 := by simp [insE] at hall; omega
  have e := fun (hp : List HObj) (lo : Nat) (q : Bool) => parts4_D (hp := hp) (lo := lo) q 22 w v a ha
  simp [IP_saturateref04_Width, i_saturateref04_Width, arity4_D, leaf4_D, hb, hL, hloop, e]
theorem width4_23 (w v : Int) (hv : v < 18446744073709551616) (a : Int) (o : Own) (hall : List.all ([a] : List Int) insE = true) : callD G0 IP n_saturateref04_Width [.int .i64 23, .int .i64 w, .int .u64 v, .list (([a] : List Int).map (AV.int .i64)) o] hp lo q =
    some (.ret (.tup [.int .i64 (resE 23 w v a).1, .int .i64 (resE 23 w v a).2]) hp) := by
  rw [callD_eq]
  have hloop := width4_loop 23 w v [a] o (by simp) hp hp.length
  rw [if_neg (by simp [hall])] at hloop
  simp [wfr4] at hloop
  have hb : arE 23 = 1 := rfl
  have hL : leafB 23 = false := rfl
  have ha : a ≤ 64 := by simp [insE] at hall; omega
  have e := fun (hp : List HObj) (lo : Nat) (q : Bool) => parts4_D (hp := hp) (lo := lo) q 23 w v a ha
  simp [IP_saturateref04_Width, i_saturateref04_Width, arity4_D, leaf4_D, hb, hL, hloop, e]
theorem width4_one (op : Int) (w v : Int) (hv : v < 18446744073709551616) (a : Int) (o : Own) (hall : List.all ([a] : List Int) insE = true) (hb : arE op = 1) (hL : leafB op = false) (h21 : ¬ op = 21) (h22 : ¬ op = 22) (h23 : ¬ op = 23) : callD G0 IP n_saturateref04_Width [.int .i64 op, .int .i64 w, .int .u64 v, .list (([a] : List Int).map (AV.int .i64)) o] hp lo q =
    some (.ret (.tup [.int .i64 (((a, 0) : Int × Int)).1, .int .i64 (((a, 0) : Int × Int)).2]) hp) := by
  rw [callD_eq]
  have hloop := width4_loop op w v [a] o (by simp) hp hp.length
  rw [if_neg (by simp [hall])] at hloop
  simp [wfr4] at hloop
  simp [IP_saturateref04_Width, i_saturateref04_Width, arity4_D, leaf4_D, hb, hL, hloop, h21, h22, h23]
theorem width4_20 (w v : Int) (hv : v < 18446744073709551616) (a : Int) (b : Int) (o : Own) (hall : List.all ([a, b] : List Int) insE = true) : callD G0 IP n_saturateref04_Width [.int .i64 20, .int .i64 w, .int .u64 v, .list (([a, b] : List Int).map (AV.int .i64)) o] hp lo q =
    some (.ret (.tup [.int .i64 (if 1 ≤ a ∧ 1 ≤ b ∧ a + b ≤ 64 then ((a + b, 0) : Int × Int) else (0, 3)).1, .int .i64 (if 1 ≤ a ∧ 1 ≤ b ∧ a + b ≤ 64 then ((a + b, 0) : Int × Int) else (0, 3)).2]) hp) := by
  rw [callD_eq]
  have hloop := width4_loop 20 w v [a, b] o (by simp) hp hp.length
  rw [if_neg (by simp [hall])] at hloop
  simp [wfr4] at hloop
  have hb : arE 20 = 2 := rfl
  have hL : leafB 20 = false := rfl
  have ha : 0 ≤ a ∧ a ≤ 64 ∧ 0 ≤ b ∧ b ≤ 64 := by simp [insE] at hall; omega
  have e1 : IntKind.wrap .i64 (a + b) = a + b := wrap_small (by omega) (by omega)
  by_cases h1 : a < 1
  · have g : ¬ (1 ≤ a ∧ 1 ≤ b ∧ a + b ≤ 64) := by omega
    simp only [if_neg g]
    simp [IP_saturateref04_Width, i_saturateref04_Width, arity4_D, leaf4_D, hb, hL, hloop, h1]
  · by_cases h2 : b < 1
    · have g : ¬ (1 ≤ a ∧ 1 ≤ b ∧ a + b ≤ 64) := by omega
      simp only [if_neg g]
      simp [IP_saturateref04_Width, i_saturateref04_Width, arity4_D, leaf4_D, hb, hL, hloop, h1, h2]
    · by_cases h3 : 64 < a + b
      · have g : ¬ (1 ≤ a ∧ 1 ≤ b ∧ a + b ≤ 64) := by omega
        simp only [if_neg g]
        simp [IP_saturateref04_Width, i_saturateref04_Width, arity4_D, leaf4_D, hb, hL, hloop, h1, h2, h3, e1]
      · have g : 1 ≤ a ∧ 1 ≤ b ∧ a + b ≤ 64 := by omega
        simp only [if_pos g]
        simp [IP_saturateref04_Width, i_saturateref04_Width, arity4_D, leaf4_D, hb, hL, hloop, h1, h2, h3, e1]
theorem width4_19 (w v : Int) (hv : v < 18446744073709551616) (a : Int) (b : Int) (c : Int) (o : Own) (hall : List.all ([a, b, c] : List Int) insE = true) : callD G0 IP n_saturateref04_Width [.int .i64 19, .int .i64 w, .int .u64 v, .list (([a, b, c] : List Int).map (AV.int .i64)) o] hp lo q =
    some (.ret (.tup [.int .i64 (if a = 1 ∧ b = c then ((b, 0) : Int × Int) else (0, 3)).1, .int .i64 (if a = 1 ∧ b = c then ((b, 0) : Int × Int) else (0, 3)).2]) hp) := by
  rw [callD_eq]
  have hloop := width4_loop 19 w v [a, b, c] o (by simp) hp hp.length
  rw [if_neg (by simp [hall])] at hloop
  simp [wfr4] at hloop
  have hb : arE 19 = 3 := rfl
  have hL : leafB 19 = false := rfl
  by_cases h1 : a = 1
  · subst h1
    by_cases h2 : b = c
    · subst h2
      simp [IP_saturateref04_Width, i_saturateref04_Width, arity4_D, leaf4_D, hb, hL, hloop]
    · simp [IP_saturateref04_Width, i_saturateref04_Width, arity4_D, leaf4_D, hb, hL, hloop, h2]
  · simp [IP_saturateref04_Width, i_saturateref04_Width, arity4_D, leaf4_D, hb, hL, hloop, h1]
theorem width4_16 (w v : Int) (hv : v < 18446744073709551616) (a : Int) (b : Int) (o : Own) (hall : List.all ([a, b] : List Int) insE = true) : callD G0 IP n_saturateref04_Width [.int .i64 16, .int .i64 w, .int .u64 v, .list (([a, b] : List Int).map (AV.int .i64)) o] hp lo q =
    some (.ret (.tup [.int .i64 (if a = b then ((1, 0) : Int × Int) else (0, 3)).1, .int .i64 (if a = b then ((1, 0) : Int × Int) else (0, 3)).2]) hp) := by
  rw [callD_eq]
  have hloop := width4_loop 16 w v [a, b] o (by simp) hp hp.length
  rw [if_neg (by simp [hall])] at hloop
  simp [wfr4] at hloop
  have hb : arE 16 = 2 := rfl
  have hL : leafB 16 = false := rfl
  by_cases h1 : a = b
  · subst h1
    simp [IP_saturateref04_Width, i_saturateref04_Width, arity4_D, leaf4_D, hb, hL, hloop]
  · simp [IP_saturateref04_Width, i_saturateref04_Width, arity4_D, leaf4_D, hb, hL, hloop, h1]
theorem width4_17 (w v : Int) (hv : v < 18446744073709551616) (a : Int) (b : Int) (o : Own) (hall : List.all ([a, b] : List Int) insE = true) : callD G0 IP n_saturateref04_Width [.int .i64 17, .int .i64 w, .int .u64 v, .list (([a, b] : List Int).map (AV.int .i64)) o] hp lo q =
    some (.ret (.tup [.int .i64 (if a = b then ((1, 0) : Int × Int) else (0, 3)).1, .int .i64 (if a = b then ((1, 0) : Int × Int) else (0, 3)).2]) hp) := by
  rw [callD_eq]
  have hloop := width4_loop 17 w v [a, b] o (by simp) hp hp.length
  rw [if_neg (by simp [hall])] at hloop
  simp [wfr4] at hloop
  have hb : arE 17 = 2 := rfl
  have hL : leafB 17 = false := rfl
  by_cases h1 : a = b
  · subst h1
    simp [IP_saturateref04_Width, i_saturateref04_Width, arity4_D, leaf4_D, hb, hL, hloop]
  · simp [IP_saturateref04_Width, i_saturateref04_Width, arity4_D, leaf4_D, hb, hL, hloop, h1]
theorem width4_18 (w v : Int) (hv : v < 18446744073709551616) (a : Int) (b : Int) (o : Own) (hall : List.all ([a, b] : List Int) insE = true) : callD G0 IP n_saturateref04_Width [.int .i64 18, .int .i64 w, .int .u64 v, .list (([a, b] : List Int).map (AV.int .i64)) o] hp lo q =
    some (.ret (.tup [.int .i64 (if a = b then ((1, 0) : Int × Int) else (0, 3)).1, .int .i64 (if a = b then ((1, 0) : Int × Int) else (0, 3)).2]) hp) := by
  rw [callD_eq]
  have hloop := width4_loop 18 w v [a, b] o (by simp) hp hp.length
  rw [if_neg (by simp [hall])] at hloop
  simp [wfr4] at hloop
  have hb : arE 18 = 2 := rfl
  have hL : leafB 18 = false := rfl
  by_cases h1 : a = b
  · subst h1
    simp [IP_saturateref04_Width, i_saturateref04_Width, arity4_D, leaf4_D, hb, hL, hloop]
  · simp [IP_saturateref04_Width, i_saturateref04_Width, arity4_D, leaf4_D, hb, hL, hloop, h1]
theorem width4_two (op : Int) (w v : Int) (hv : v < 18446744073709551616) (a : Int) (b : Int) (o : Own) (hall : List.all ([a, b] : List Int) insE = true) (hb : arE op = 2) (hL : leafB op = false) (h21 : ¬ op = 21) (h22 : ¬ op = 22) (h23 : ¬ op = 23) (h20 : ¬ op = 20) (h19 : ¬ op = 19) (h16 : ¬ op = 16) (h17 : ¬ op = 17) (h18 : ¬ op = 18) : callD G0 IP n_saturateref04_Width [.int .i64 op, .int .i64 w, .int .u64 v, .list (([a, b] : List Int).map (AV.int .i64)) o] hp lo q =
    some (.ret (.tup [.int .i64 (if a = b then ((a, 0) : Int × Int) else (0, 3)).1, .int .i64 (if a = b then ((a, 0) : Int × Int) else (0, 3)).2]) hp) := by
  rw [callD_eq]
  have hloop := width4_loop op w v [a, b] o (by simp) hp hp.length
  rw [if_neg (by simp [hall])] at hloop
  simp [wfr4] at hloop
  by_cases h1 : a = b
  · subst h1
    simp [IP_saturateref04_Width, i_saturateref04_Width, arity4_D, leaf4_D, hb, hL, hloop, h21, h22, h23, h20, h19, h16, h17, h18]
  · simp [IP_saturateref04_Width, i_saturateref04_Width, arity4_D, leaf4_D, hb, hL, hloop, h21, h22, h23, h20, h19, h16, h17, h18, h1]
theorem width4_D (op w v : Int) (hv : v < 18446744073709551616) (as : List Int) (o : Own) (ha : as.length ≤ 9223372036854775807) : callD G0 IP n_saturateref04_Width [.int .i64 op, .int .i64 w, .int .u64 v, .list (as.map (AV.int .i64)) o] hp lo q =
    some (.ret (.tup [.int .i64 (widE op w v as).1, .int .i64 (widE op w v as).2]) hp) := by
  by_cases h : opOk op = false ∨ (as.length : Int) ≠ arE op
  · rw [width4_bad q op w v as o h, widE, if_pos h]
  · have hk : opOk op = true := by cases hk : opOk op <;> simp_all
    have hl : (as.length : Int) = arE op := Decidable.byContradiction fun e => h (.inr e)
    cases hall : as.all insE with
    | false => rw [width4_out q op w v as o ha hl hall, widE, if_neg h, if_pos hall]
    | true =>
      rw [widE_in h hall]
      rcases opOk_cases hk with rfl | rfl | rfl | rfl | rfl | rfl | rfl | rfl | rfl | rfl | rfl | rfl | rfl | rfl | rfl | rfl | rfl | rfl | rfl | rfl | rfl | rfl | rfl | rfl | rfl | rfl
      · obtain rfl := len0 hl; exact width4_1 q w v hv o hall
      · obtain rfl := len0 hl; exact width4_2 q w v hv o hall
      · obtain ⟨a, rfl⟩ := len1 hl; exact width4_one q 3 w v hv a o hall rfl rfl (by decide) (by decide) (by decide)
      · obtain ⟨a, rfl⟩ := len1 hl; exact width4_one q 4 w v hv a o hall rfl rfl (by decide) (by decide) (by decide)
      · obtain ⟨a, b, rfl⟩ := len2 hl; exact width4_two q 5 w v hv a b o hall rfl rfl (by decide) (by decide) (by decide) (by decide) (by decide) (by decide) (by decide) (by decide)
      · obtain ⟨a, b, rfl⟩ := len2 hl; exact width4_two q 6 w v hv a b o hall rfl rfl (by decide) (by decide) (by decide) (by decide) (by decide) (by decide) (by decide) (by decide)
      · obtain ⟨a, b, rfl⟩ := len2 hl; exact width4_two q 7 w v hv a b o hall rfl rfl (by decide) (by decide) (by decide) (by decide) (by decide) (by decide) (by decide) (by decide)
      · obtain ⟨a, b, rfl⟩ := len2 hl; exact width4_two q 8 w v hv a b o hall rfl rfl (by decide) (by decide) (by decide) (by decide) (by decide) (by decide) (by decide) (by decide)
      · obtain ⟨a, b, rfl⟩ := len2 hl; exact width4_two q 9 w v hv a b o hall rfl rfl (by decide) (by decide) (by decide) (by decide) (by decide) (by decide) (by decide) (by decide)
      · obtain ⟨a, b, rfl⟩ := len2 hl; exact width4_two q 10 w v hv a b o hall rfl rfl (by decide) (by decide) (by decide) (by decide) (by decide) (by decide) (by decide) (by decide)
      · obtain ⟨a, b, rfl⟩ := len2 hl; exact width4_two q 11 w v hv a b o hall rfl rfl (by decide) (by decide) (by decide) (by decide) (by decide) (by decide) (by decide) (by decide)
      · obtain ⟨a, b, rfl⟩ := len2 hl; exact width4_two q 12 w v hv a b o hall rfl rfl (by decide) (by decide) (by decide) (by decide) (by decide) (by decide) (by decide) (by decide)
      · obtain ⟨a, b, rfl⟩ := len2 hl; exact width4_two q 13 w v hv a b o hall rfl rfl (by decide) (by decide) (by decide) (by decide) (by decide) (by decide) (by decide) (by decide)
      · obtain ⟨a, b, rfl⟩ := len2 hl; exact width4_two q 14 w v hv a b o hall rfl rfl (by decide) (by decide) (by decide) (by decide) (by decide) (by decide) (by decide) (by decide)
      · obtain ⟨a, b, rfl⟩ := len2 hl; exact width4_two q 15 w v hv a b o hall rfl rfl (by decide) (by decide) (by decide) (by decide) (by decide) (by decide) (by decide) (by decide)
      · obtain ⟨a, b, rfl⟩ := len2 hl; exact width4_16 q w v hv a b o hall
      · obtain ⟨a, b, rfl⟩ := len2 hl; exact width4_17 q w v hv a b o hall
      · obtain ⟨a, b, rfl⟩ := len2 hl; exact width4_18 q w v hv a b o hall
      · obtain ⟨a, b, c, rfl⟩ := len3 hl; exact width4_19 q w v hv a b c o hall
      · obtain ⟨a, b, rfl⟩ := len2 hl; exact width4_20 q w v hv a b o hall
      · obtain ⟨a, rfl⟩ := len1 hl; exact width4_21 q w v hv a o hall
      · obtain ⟨a, rfl⟩ := len1 hl; exact width4_22 q w v hv a o hall
      · obtain ⟨a, rfl⟩ := len1 hl; exact width4_23 q w v hv a o hall
      · obtain rfl := len0 hl; exact width4_24 q w v hv o hall
      · obtain rfl := len0 hl; exact width4_25 q w v hv o hall
      · obtain ⟨a, rfl⟩ := len1 hl; exact width4_one q 26 w v hv a o hall rfl rfl (by decide) (by decide) (by decide)
end
end Go.Proofs.YtkofimhnehkdoaaGreatDoor.Rf
end
section
set_option linter.unusedSimpArgs false
set_option linter.unusedVariables false
namespace Go.Proofs.YtkofimhnehkdoaaGreatDoor.Rf
section
variable {hp : List HObj} {lo : Nat} (q : Bool)
theorem bytesOf_map : ∀ s : List UInt8, bytesOf (s.map fun b => AV.int .u8 b.toNat) = some s
  | [] => rfl
  | b :: r => by
    have h := bytesOf_map r
    have h1 : (b.toNat : Int) < 256 := by have := b.toNat_lt; omega
    simp only [List.map_cons, bytesOf]
    rw [if_pos ⟨by omega, h1⟩, h]
    simp
theorem clone_D (s : List UInt8) (hs : s.length ≤ 140737488355328) : callD G0 IP n_internal_stringslite_Clone [.str s] hp lo q = some (.ret (.str s) hp) := by
  rw [callD_eq]
  by_cases h0 : s = []
  · subst h0
    simp [IP_internal_stringslite_Clone, i_internal_stringslite_Clone]
  · have hl : s.length ≠ 0 := fun e => h0 (List.length_eq_zero_iff.1 e)
    have h1 : (0 : Int) < (s.length : Int) := by omega
    have h2 : (s.length : Int) ≤ 9223372036854775807 := by omega
    have h3 : s.length ≤ s.length := Nat.le_refl _
    have hb := bytesOf_map s
    have htk : List.take s.length (s.map fun b => AV.int .u8 b.toNat) = s.map fun b => AV.int .u8 b.toNat := List.take_of_length_le (by simp)
    simp [IP_internal_stringslite_Clone, i_internal_stringslite_Clone, h0, hl, h1, h2, hs, hb, htk, Nat.pos_of_ne_zero hl]
theorem rangeError_D (f s : List UInt8) (hs : s.length ≤ 140737488355328) : callD G0 IP n_strconv_rangeError [.str f, .str s] hp lo false = some (.ret (.ptr hp.length 0) (hp ++ [.cells 0 [.str f, .str s, .iface 222 .none]])) := by
  rw [callD_eq]
  have e := fun (hp : List HObj) (lo : Nat) (q : Bool) => clone_D (hp := hp) (lo := lo) q s hs
  simp [IP_strconv_rangeError, i_strconv_rangeError, e, G0_7, g_7]
theorem toError_D (f s : List UInt8) (hs : s.length ≤ 140737488355328) (b c : Int) : callD G0 IP n_strconv_toError [.str f, .str s, .int .i64 b, .int .i64 c, .iface 211 (.int .i64 1)] hp lo false = some (.ret (.iface 213 (.ptr hp.length 0)) (hp ++ [.cells 0 [.str f, .str s, .iface 222 .none]])) := by
  rw [callD_eq]
  have e := fun (hp : List HObj) (lo : Nat) => rangeError_D (hp := hp) (lo := lo) f s hs
  simp [IP_strconv_toError, i_strconv_toError, e]
theorem parseUint_D (s : List UInt8) (hs : s.length ≤ 140737488355328) (h0 : s ≠ []) (hd : s.all isDig = true) : ∃ hp', callD G0 IP n_strconv_ParseUint [.str s, .int .i64 10, .int .i64 64] hp lo false =
    some (.ret (if 18446744073709551616 ≤ digVal s then .tup [.int .u64 18446744073709551615, .iface 213 (.ptr hp.length 0)] else .tup [.int .u64 (digVal s), .nili]) hp') := by
  have e := fun (hp : List HObj) (lo : Nat) => parseUintI_D (hp := hp) (lo := lo) s hs h0 hd
  have e2 := fun (f : List UInt8) (hp : List HObj) (lo : Nat) (b c : Int) => toError_D (hp := hp) (lo := lo) f s hs b c
  by_cases hv : 18446744073709551616 ≤ digVal s
  · refine ⟨hp ++ [.cells 0 [.str [80, 97, 114, 115, 101, 85, 105, 110, 116], .str s, .iface 222 .none]], ?_⟩
    rw [callD_eq]
    simp only [pU, if_pos hv] at e ⊢
    simp [IP_strconv_ParseUint, i_strconv_ParseUint, e, e2]
  · refine ⟨hp, ?_⟩
    rw [callD_eq]
    simp only [pU, if_neg hv] at e ⊢
    simp [IP_strconv_ParseUint, i_strconv_ParseUint, e, e2]
theorem digitsParse_D (s : List UInt8) (hs : s.length ≤ 140737488355328) (hx : hasPre s [48, 120] = false) : callD G0 IP n_digits_Parse [.str s] hp lo q = some (.ret (.tup [.int .u64 (numE s).1, .int .i64 (numE s).2]) hp) := by
  rw [callD_eq]
  have e1 := fun (hp : List HObj) (lo : Nat) (q : Bool) => numeral_D (hp := hp) (lo := lo) q s (by omega)
  cases hn : numOk s with
  | false => simp [IP_digits_Parse, i_digits_Parse, cutPre_D, hx, e1, hn, numE]
  | true =>
    obtain ⟨h0, hd⟩ := numE_nonempty hn
    obtain ⟨hp', e2⟩ := parseUint_D (hp := hp) (lo := hp.length) s hs h0 hd
    by_cases hv : 18446744073709551616 ≤ digVal s
    · rw [if_pos hv] at e2
      simp [IP_digits_Parse, i_digits_Parse, cutPre_D, hx, e1, hn, numE, e2, hv]
    · rw [if_neg hv] at e2
      simp [IP_digits_Parse, i_digits_Parse, cutPre_D, hx, e1, hn, numE, e2, hv]
theorem numOk_0x {s : List UInt8} (h : hasPre s [48, 120] = true) : numOk s = false := by
  simp only [hasPre, Bool.and_eq_true, decide_eq_true_eq] at h
  match s, h with
  | a :: b :: r, ⟨_, h⟩ =>
    simp at h
    obtain ⟨rfl, rfl⟩ := h
    simp [numOk]
theorem ttNumeral_D (s : List UInt8) (hs : s.length ≤ 140737488355328) : callD G0 IP n_termtext_numeral [.str s] hp lo q = some (.ret (.tup [.int .u64 (numE s).1, .int .i64 (numE s).2]) hp) := by
  rw [callD_eq]
  cases hx : hasPre s [48, 120] with
  | true => simp [IP_termtext_numeral, i_termtext_numeral, hasPre_D, hx, numE, numOk_0x hx]
  | false =>
    have e := fun (hp : List HObj) (lo : Nat) (q : Bool) => digitsParse_D (hp := hp) (lo := lo) q s hs hx
    simp [IP_termtext_numeral, i_termtext_numeral, hasPre_D, hx, e]
end
end Go.Proofs.YtkofimhnehkdoaaGreatDoor.Rf
end
section
set_option linter.unusedSimpArgs false
set_option linter.unusedVariables false
namespace Go.Proofs.YtkofimhnehkdoaaGreatDoor.Rf
def bt (s : List UInt8) (i : Nat) : Int := ((s.getD i 0).toNat : Int)
theorem bt_some {s : List UInt8} {i : Nat} (h : i < s.length) : ∃ c : UInt8, s[i]? = some c ∧ bt s i = (c.toNat : Int) := ⟨s[i], by simp [h], by simp [bt, h]⟩
def lowC (n : Int) : Bool := decide (97 ≤ n) && decide (n ≤ 122)
def nameC (n : Int) : Bool := lowC n || (decide (48 ≤ n) && decide (n ≤ 57)) || decide (n = 95)
def nameOk (s : List UInt8) : Bool := decide (1 ≤ s.length) && (decide (s.length ≤ 16) && (lowC (bt s 0) && s.all fun c => nameC (c.toNat : Int)))
inductive TR where
  | ok (t : T) | err (e : Int)
def T.z : T := .mk 0 0 0 [] true []
def TR.t : TR → T | .ok t => t | .err _ => T.z
def TR.e : TR → Int | .ok _ => 0 | .err e => e
def TR.out (hp : List HObj) : TR → COut
  | .ok t => .ret t.av hp
  | .err e => .pan (.iface 78 (.agg [.int .i64 e])) hp
def TR.tup (hp : List HObj) (r : TR) : COut := .ret (.tup [r.t.av, .int .i64 r.e]) hp
def constR (left : List UInt8) (w e : Int) : TR :=
  if (numE left).2 = 6 then .err 6 else
  if ¬ (e = 0 ∧ (numE left).2 = 0 ∧ w ≤ 64) then .err 2 else
  if (widE 2 w (numE left).1 []).2 ≠ 0 then .err (widE 2 w (numE left).1 []).2 else
  .ok (.mk 2 w (numE left).1 [] true [])
def leafOp (l : List UInt8) : Int := if bt l 0 = 63 then 24 else if bt l 0 = 35 then 25 else 1
def leafNm (l : List UInt8) : List UInt8 := if bt l 0 = 63 ∨ bt l 0 = 35 then l.drop 1 else l
def leafR (s : List UInt8) : TR :=
  if (cutB s 58).2.2 = false ∨ (numE (cutB s 58).2.1).2 = 6 then .err 6 else
  if 48 ≤ bt s 0 ∧ bt s 0 ≤ 57 then constR (cutB s 58).1 (numE (cutB s 58).2.1).1 (numE (cutB s 58).2.1).2 else
  if nameOk (leafNm (cutB s 58).1) = false then .err 5 else
  if ¬ ((numE (cutB s 58).2.1).2 = 0 ∧ (numE (cutB s 58).2.1).1 ≤ 64) then .err 2 else
  .ok (.mk (leafOp (cutB s 58).1) (numE (cutB s 58).2.1).1 0 (leafNm (cutB s 58).1) true [])
end Go.Proofs.YtkofimhnehkdoaaGreatDoor.Rf
end
section
set_option linter.unusedSimpArgs false
set_option linter.unusedVariables false
namespace Go.Proofs.YtkofimhnehkdoaaGreatDoor.Rf
theorem any_names (s : List UInt8) : ((List.range s.length).any fun i => !nameC (bt s i)) = !(s.all fun c => nameC (c.toNat : Int)) := by
  induction s with
  | nil => rfl
  | cons c r ih =>
    rw [List.length_cons, List.range_succ_eq_map]
    simp [List.any_map, Function.comp_def, bt] at ih ⊢
    rw [ih]
section
variable {hp : List HObj} {lo : Nat} (q : Bool)
theorem must_D (ok : Bool) (e : Int) : callD G0 IP n_termtext_must [.bool ok, .int .i64 e] hp lo false = some (if ok then .ret (.tup []) hp else .pan (.iface 78 (.agg [.int .i64 e])) hp) := by
  rw [callD_eq]
  cases ok <;> simp [IP_termtext_must, i_termtext_must]
theorem failT_D (e : Int) : callD G0 IP n_termtext_fail [.int .i64 e] hp lo false = some (if e = 0 then .ret (.tup []) hp else .pan (.iface 78 (.agg [.int .i64 e])) hp) := by
  rw [callD_eq]
  by_cases h : e = 0 <;> simp [IP_termtext_fail, i_termtext_fail, h]
theorem name_D (s : List UInt8) (hs : s.length ≤ 9223372036854775807) : callD G0 IP n_term_Name [.str s] hp lo q = some (.ret (.bool (nameOk s)) hp) := by
  rw [callD_eq]
  by_cases h1 : s.length < 1
  · have h0 : ¬ 1 ≤ s.length := by omega
    have hi : (s.length : Int) < 1 := by omega
    simp [IP_term_Name, i_term_Name, nameOk, hi, h0]
  · have h1' : 1 ≤ s.length := by omega
    have hi : ¬ (s.length : Int) < 1 := by omega
    by_cases h2 : 16 < s.length
    · have h2' : (16 : Int) < (s.length : Int) := by omega
      have h0 : ¬ s.length ≤ 16 := by omega
      simp [IP_term_Name, i_term_Name, nameOk, hi, h2', h0]
    · have h2' : ¬ (16 : Int) < (s.length : Int) := by omega
      obtain ⟨c, h4, hb⟩ := bt_some (s := s) (i := 0) (by omega)
      have h3 : s.length ≤ 16 := by omega
      by_cases h5 : (c.toNat : Int) < 97
      · have g : lowC (c.toNat : Int) = false := by simp [lowC]; omega
        simp [IP_term_Name, i_term_Name, nameOk, hi, h2', h4, hb, h5, g]
      · by_cases h6 : 122 < (c.toNat : Int)
        · have g : lowC (c.toNat : Int) = false := by simp [lowC]; omega
          simp [IP_term_Name, i_term_Name, nameOk, hi, h2', h4, hb, h5, h6, g]
        · have g : lowC (c.toNat : Int) = true := by simp [lowC]; omega
          have hloop := loop_find (G := G0) (IP := IP) (lo := hp.length) (b := l_term_Name_0)
            (fun i => ⟨[(0, .str s), (24, .int .i64 s.length), (25, .int .i64 i)], hp⟩) s.length (fun i => !nameC (bt s i))
            (.ret, ⟨[(2, .bool false)], hp⟩) (.exit 0, ⟨[(0, .str s), (24, .int .i64 s.length), (25, .int .i64 s.length), (26, .bool false)], hp⟩)
            (fun i hi hp => by
              have hw := wrap_succ hi hs
              obtain ⟨c, h4, hb⟩ := bt_some (s := s) (i := i) hi
              have h4' : s[i] = c := by simpa [hi] using h4
              rw [hb] at hp
              rw [← hw]
              by_cases a1 : (c.toNat : Int) < 97
              · by_cases a2 : (c.toNat : Int) < 48
                · simp [nameC, lowC] at hp; omega
                · by_cases a3 : 57 < (c.toNat : Int)
                  · have a4 : (c.toNat : Int) = 95 := by simp [nameC, lowC] at hp; omega
                    simp [l_term_Name_0, h4, h4', hi, a1, a2, a3, a4]
                  · simp [l_term_Name_0, h4, h4', hi, a1, a2, a3]
              · by_cases a2 : 122 < (c.toNat : Int)
                · simp [nameC, lowC] at hp; omega
                · simp [l_term_Name_0, h4, h4', hi, a1, a2])
            (fun i hi hp => by
              obtain ⟨c, h4, hb⟩ := bt_some (s := s) (i := i) hi
              have h4' : s[i] = c := by simpa [hi] using h4
              rw [hb] at hp
              have a4 : ¬ (c.toNat : Int) = 95 := by simp [nameC, lowC] at hp; omega
              by_cases a1 : (c.toNat : Int) < 97
              · by_cases a2 : (c.toNat : Int) < 48
                · simp [l_term_Name_0, h4, h4', hi, a1, a2, a4]
                · have a3 : 57 < (c.toNat : Int) := by simp [nameC, lowC] at hp; omega
                  simp [l_term_Name_0, h4, h4', hi, a1, a2, a3, a4]
              · have a2 : 122 < (c.toNat : Int) := by simp [nameC, lowC] at hp; omega
                have a3 : 57 < (c.toNat : Int) := by omega
                have a5 : ¬ (c.toNat : Int) < 48 := by omega
                simp [l_term_Name_0, h4, h4', hi, a1, a2, a3, a4, a5])
            (by simp) (by simp [l_term_Name_0]) (by simp)
          rw [any_names] at hloop
          simp only [Int.natCast_zero] at hloop
          cases h : s.all fun c => nameC (c.toNat : Int) with
          | true => rw [h] at hloop; simp only [Bool.not_true, Bool.false_eq_true, if_false] at hloop; simp [IP_term_Name, i_term_Name, hi, h2', h4, h5, h6, hloop, nameOk, hb, g, h1', h3, h]
          | false => rw [h] at hloop; simp only [Bool.not_false, if_true] at hloop; simp [IP_term_Name, i_term_Name, hi, h2', h4, h5, h6, hloop, nameOk, hb, g, h1', h3, h]
theorem name7_D (s : List UInt8) (hs : s.length ≤ 9223372036854775807) : callD G0 IP n_saturateref07_Name [.str s] hp lo q = some (.ret (.bool (nameOk s)) hp) := by
  rw [callD_eq]
  by_cases h1 : s.length < 1
  · have h0 : ¬ 1 ≤ s.length := by omega
    have hi : (s.length : Int) < 1 := by omega
    simp [IP_saturateref07_Name, i_saturateref07_Name, nameOk, hi, h0]
  · have h1' : 1 ≤ s.length := by omega
    have hi : ¬ (s.length : Int) < 1 := by omega
    by_cases h2 : 16 < s.length
    · have h2' : (16 : Int) < (s.length : Int) := by omega
      have h0 : ¬ s.length ≤ 16 := by omega
      simp [IP_saturateref07_Name, i_saturateref07_Name, nameOk, hi, h2', h0]
    · have h2' : ¬ (16 : Int) < (s.length : Int) := by omega
      obtain ⟨c, h4, hb⟩ := bt_some (s := s) (i := 0) (by omega)
      have h3 : s.length ≤ 16 := by omega
      by_cases h5 : (c.toNat : Int) < 97
      · have g : lowC (c.toNat : Int) = false := by simp [lowC]; omega
        simp [IP_saturateref07_Name, i_saturateref07_Name, nameOk, hi, h2', h4, hb, h5, g]
      · by_cases h6 : 122 < (c.toNat : Int)
        · have g : lowC (c.toNat : Int) = false := by simp [lowC]; omega
          simp [IP_saturateref07_Name, i_saturateref07_Name, nameOk, hi, h2', h4, hb, h5, h6, g]
        · have g : lowC (c.toNat : Int) = true := by simp [lowC]; omega
          have hloop := loop_find (G := G0) (IP := IP) (lo := hp.length) (b := l_saturateref07_Name_0)
            (fun i => ⟨[(0, .str s), (3, .int .i64 i)], hp⟩) s.length (fun i => !nameC (bt s i))
            (.ret, ⟨[(2, .bool false)], hp⟩) (.exit 0, ⟨[(0, .str s), (3, .int .i64 s.length), (26, .bool false)], hp⟩)
            (fun i hi hp => by
              have hw := wrap_succ hi hs
              obtain ⟨c, h4, hb⟩ := bt_some (s := s) (i := i) hi
              have h4' : s[i] = c := by simpa [hi] using h4
              rw [hb] at hp
              rw [← hw]
              by_cases a1 : 97 ≤ (c.toNat : Int)
              · by_cases a2 : (c.toNat : Int) ≤ 122
                · simp [l_saturateref07_Name_0, h4, h4', hi, a1, a2]
                · simp [nameC, lowC] at hp; omega
              · by_cases a2 : 48 ≤ (c.toNat : Int)
                · by_cases a3 : (c.toNat : Int) ≤ 57
                  · simp [l_saturateref07_Name_0, h4, h4', hi, a1, a2, a3]
                  · have a4 : (c.toNat : Int) = 95 := by simp [nameC, lowC] at hp; omega
                    simp [l_saturateref07_Name_0, h4, h4', hi, a1, a2, a3, a4]
                · simp [nameC, lowC] at hp; omega)
            (fun i hi hp => by
              obtain ⟨c, h4, hb⟩ := bt_some (s := s) (i := i) hi
              have h4' : s[i] = c := by simpa [hi] using h4
              rw [hb] at hp
              have a4 : ¬ (c.toNat : Int) = 95 := by simp [nameC, lowC] at hp; omega
              by_cases a1 : 97 ≤ (c.toNat : Int)
              · have a2 : ¬ (c.toNat : Int) ≤ 122 := by simp [nameC, lowC] at hp; omega
                have a3 : ¬ (c.toNat : Int) ≤ 57 := by omega
                have a5 : 48 ≤ (c.toNat : Int) := by omega
                simp [l_saturateref07_Name_0, h4, h4', hi, a1, a2, a3, a4, a5]
              · by_cases a2 : 48 ≤ (c.toNat : Int)
                · have a3 : ¬ (c.toNat : Int) ≤ 57 := by simp [nameC, lowC] at hp; omega
                  simp [l_saturateref07_Name_0, h4, h4', hi, a1, a2, a3, a4]
                · simp [l_saturateref07_Name_0, h4, h4', hi, a1, a2, a4])
            (by simp) (by simp [l_saturateref07_Name_0]) (by simp)
          rw [any_names] at hloop
          simp only [Int.natCast_zero] at hloop
          cases h : s.all fun c => nameC (c.toNat : Int) with
          | true => rw [h] at hloop; simp only [Bool.not_true, Bool.false_eq_true, if_false] at hloop; simp [IP_saturateref07_Name, i_saturateref07_Name, hi, h2', h4, h5, h6, hloop, nameOk, hb, g, h1', h3, h]
          | false => rw [h] at hloop; simp only [Bool.not_false, if_true] at hloop; simp [IP_saturateref07_Name, i_saturateref07_Name, hi, h2', h4, h5, h6, hloop, nameOk, hb, g, h1', h3, h]
end
end Go.Proofs.YtkofimhnehkdoaaGreatDoor.Rf
end
