/- A part of the proof: see the last text. -/
import Derived.Test.YtkofimhnehkdoaaGreatDoorRfG9
import Derived.Test.YtkofimhnehkdoaaGreatDoorRfG8
section
set_option linter.unusedSimpArgs false
set_option linter.unusedVariables false
namespace Go.Proofs.YtkofimhnehkdoaaGreatDoor.Rf
theorem numE_bd (s : List UInt8) : 0 ≤ (numE s).1 ∧ (numE s).1 < 18446744073709551616 := by
  unfold numE
  split
  · omega
  · split <;> omega
theorem numE_code (s : List UInt8) : (numE s).2 = 0 ∨ (numE s).2 = 2 ∨ (numE s).2 = 6 := by
  unfold numE
  split
  · simp
  · split <;> simp
mutual
@[simp] theorem T.av_clo (n : Nat) : ∀ t : T, AV.closed n t.av = true
  | .mk _ _ _ _ o as => by simp [T.av, AV.closed, AV.closedL, T.avs_clo n as]
@[simp] theorem T.avs_clo (n : Nat) : ∀ as : List T, AV.closedL n (T.avs as) = true
  | [] => rfl
  | t :: r => by simp [T.avs, AV.closedL, T.av_clo n t, T.avs_clo n r]
end
theorem leaf_kind (l : List UInt8) : (∃ r, l = 63 :: r) ∨ (∃ r, l = 35 :: r) ∨ (hasPre l [63] = false ∧ hasPre l [35] = false ∧ leafOp l = 1 ∧ leafNm l = l) := by
  rcases l with _ | ⟨c, r⟩
  · exact .inr (.inr ⟨rfl, rfl, rfl, rfl⟩)
  · by_cases h : c = 63
    · exact .inl ⟨r, by rw [h]⟩
    · by_cases h2 : c = 35
      · exact .inr (.inl ⟨r, by rw [h2]⟩)
      · have a : ¬ (c.toNat : Int) = 63 := fun e => h (UInt8.toNat_inj.1 (by simp only [show UInt8.toNat 63 = 63 from rfl, show UInt8.toNat 35 = 35 from rfl]; omega))
        have b : ¬ (c.toNat : Int) = 35 := fun e => h2 (UInt8.toNat_inj.1 (by simp only [show UInt8.toNat 63 = 63 from rfl, show UInt8.toNat 35 = 35 from rfl]; omega))
        exact .inr (.inr ⟨by simp [hasPre, h], by simp [hasPre, h2], by simp [leafOp, bt, a, b], by simp [leafNm, bt, a, b]⟩)
section
variable {hp : List HObj} {lo : Nat} (q : Bool)
theorem constant_D (left : List UInt8) (hs : left.length ≤ 140737488355328) (w e : Int) (hw : 0 ≤ w) : callD G0 IP n_termtext_constant [.str left, .int .u64 w, .int .i64 e] hp lo false = some ((constR left w e).out hp) := by
  rw [callD_eq]
  have hn := fun (hp : List HObj) (lo : Nat) (q : Bool) => ttNumeral_D (hp := hp) (lo := lo) q left hs
  have hb := numE_bd left
  by_cases h1 : (numE left).2 = 6
  · simp [IP_termtext_constant, i_termtext_constant, hn, h1, must_D, constR, TR.out]
  · by_cases h2 : e = 0
    · by_cases h3 : (numE left).2 = 0
      · by_cases h4 : w ≤ 64
        · have e1 : IntKind.wrap .i64 w = w := wrap_small (by omega) (by omega)
          have hW := fun (hp : List HObj) (lo : Nat) (q : Bool) => width_D (hp := hp) (lo := lo) q 2 w (numE left).1 hb.1 [] .nil (by simp)
          simp only [List.map_nil] at hW
          by_cases h5 : (widE 2 w (numE left).1 []).2 = 0
          · simp [IP_termtext_constant, i_termtext_constant, hn, h2, h3, h4, h5, must_D, failT_D, constR, TR.out, e1, hW, T.av, T.avs, ownB]
          · simp [IP_termtext_constant, i_termtext_constant, hn, h2, h3, h4, h5, must_D, failT_D, constR, TR.out, e1, hW]
        · simp [IP_termtext_constant, i_termtext_constant, hn, h2, h3, h4, must_D, constR, TR.out]
      · simp [IP_termtext_constant, i_termtext_constant, hn, h1, h2, h3, must_D, constR, TR.out]
    · simp [IP_termtext_constant, i_termtext_constant, hn, h1, h2, must_D, constR, TR.out]
set_option maxHeartbeats 1000000 in
theorem leafT_D (s : List UInt8) (h0 : s ≠ []) (hs : s.length ≤ 140737488355328) : callD G0 IP n_termtext_leaf [.str s] hp lo false = some ((leafR s).out hp) := by
  rw [callD_eq]
  have hc := fun (hp : List HObj) (lo : Nat) (q : Bool) => cut1_D (hp := hp) (lo := lo) q s (by omega) 58
  have hl1 : (cutB s 58).1.length ≤ 140737488355328 := by
    unfold cutB; split
    · simp only [List.length_take]; omega
    · simp only; omega
  have hl2 : (cutB s 58).2.1.length ≤ 140737488355328 := by
    unfold cutB; split
    · simp only [List.length_drop]; omega
    · simp
  have hn := fun (hp : List HObj) (lo : Nat) (q : Bool) => ttNumeral_D (hp := hp) (lo := lo) q (cutB s 58).2.1 hl2
  have hb := numE_bd (cutB s 58).2.1
  have hk := fun (hp : List HObj) (lo : Nat) => constant_D (hp := hp) (lo := lo) (cutB s 58).1 hl1 (numE (cutB s 58).2.1).1 (numE (cutB s 58).2.1).2 hb.1
  have hL : leafR s = if (cutB s 58).2.2 = false ∨ (numE (cutB s 58).2.1).2 = 6 then .err 6 else
    if 48 ≤ bt s 0 ∧ bt s 0 ≤ 57 then constR (cutB s 58).1 (numE (cutB s 58).2.1).1 (numE (cutB s 58).2.1).2 else
    if nameOk (leafNm (cutB s 58).1) = false then .err 5 else
    if ¬ ((numE (cutB s 58).2.1).2 = 0 ∧ (numE (cutB s 58).2.1).1 ≤ 64) then .err 2 else
    .ok (.mk (leafOp (cutB s 58).1) (numE (cutB s 58).2.1).1 0 (leafNm (cutB s 58).1) true []) := rfl
  obtain ⟨c, h4, hbt⟩ := bt_some (s := s) (i := 0) (by cases s; exact absurd rfl h0; simp)
  have h4' : s.head? = some c := by rw [List.head?_eq_getElem?]; exact h4
  rw [hL, hbt]
  generalize hcl : (cutB s 58).1 = l at *
  generalize hcr : (cutB s 58).2.1 = r at *
  generalize hcf : (cutB s 58).2.2 = f at *
  cases f with
  | false => simp [IP_termtext_leaf, i_termtext_leaf, hc, hn, must_D, TR.out]
  | true =>
    by_cases h1 : (numE r).2 = 6
    · simp [IP_termtext_leaf, i_termtext_leaf, hc, hn, must_D, TR.out, h1]
    · by_cases hd : 48 ≤ (c.toNat : Int) ∧ (c.toNat : Int) ≤ 57
      · rw [if_neg (by simp [h1]), if_pos hd]
        cases hx : constR l (numE r).1 (numE r).2 with
        | ok t => rw [hx] at hk; simp [TR.out] at hk; simp [IP_termtext_leaf, i_termtext_leaf, hc, hn, must_D, TR.out, h1, hd.1, hd.2, h4, hk, T.av_eq]
        | err e => rw [hx] at hk; simp [TR.out] at hk; simp [IP_termtext_leaf, i_termtext_leaf, hc, hn, must_D, TR.out, h1, hd.1, hd.2, h4, hk]
      · rw [if_neg (by simp [h1]), if_neg hd]
        have hd' : (48 ≤ (c.toNat : Int) ∧ ¬ (c.toNat : Int) ≤ 57) ∨ ¬ 48 ≤ (c.toNat : Int) := by omega
        have hr := numE_code r
        rcases leaf_kind l with ⟨l', rfl⟩ | ⟨l', rfl⟩ | ⟨k1, k2, k3, k4⟩
        · have k1 : hasPre (63 :: l') [63] = true := by simp [hasPre]
          have k3 : leafOp (63 :: l') = 24 := rfl
          have k4 : leafNm (63 :: l') = l' := rfl
          have hm := fun (hp : List HObj) (lo : Nat) (q : Bool) => name_D (hp := hp) (lo := lo) q l' (by simp at hl1; omega)
          rw [k3, k4]
          cases hN : nameOk l' with
          | false =>
            rcases hd' with ⟨d1, d2⟩ | d1
            · simp [IP_termtext_leaf, i_termtext_leaf, hc, hn, must_D, hasPre_D, hm, TR.out, h1, h4, k1, d1, d2, hN]
            · simp [IP_termtext_leaf, i_termtext_leaf, hc, hn, must_D, hasPre_D, hm, TR.out, h1, h4, k1, d1, hN]
          | true =>
            by_cases h5 : (numE r).2 = 0
            · by_cases h6 : (numE r).1 ≤ 64
              · have e1 : IntKind.wrap .i64 (numE r).1 = (numE r).1 := wrap_small (by omega) (by omega)
                rcases hd' with ⟨d1, d2⟩ | d1
                · simp [IP_termtext_leaf, i_termtext_leaf, hc, hn, must_D, hasPre_D, hm, TR.out, h1, h4, k1, d1, d2, hN, h5, h6, e1, T.av, T.avs, ownB]
                · simp [IP_termtext_leaf, i_termtext_leaf, hc, hn, must_D, hasPre_D, hm, TR.out, h1, h4, k1, d1, hN, h5, h6, e1, T.av, T.avs, ownB]
              · rcases hd' with ⟨d1, d2⟩ | d1
                · simp [IP_termtext_leaf, i_termtext_leaf, hc, hn, must_D, hasPre_D, hm, TR.out, h1, h4, k1, d1, d2, hN, h5, h6]
                · simp [IP_termtext_leaf, i_termtext_leaf, hc, hn, must_D, hasPre_D, hm, TR.out, h1, h4, k1, d1, hN, h5, h6]
            · rcases hd' with ⟨d1, d2⟩ | d1
              · simp [IP_termtext_leaf, i_termtext_leaf, hc, hn, must_D, hasPre_D, hm, TR.out, h1, h4, k1, d1, d2, hN, h5]
              · simp [IP_termtext_leaf, i_termtext_leaf, hc, hn, must_D, hasPre_D, hm, TR.out, h1, h4, k1, d1, hN, h5]
        · have k1 : hasPre (35 :: l') [63] = false := by simp [hasPre]
          have k2 : hasPre (35 :: l') [35] = true := by simp [hasPre]
          have k3 : leafOp (35 :: l') = 25 := rfl
          have k4 : leafNm (35 :: l') = l' := rfl
          have hm := fun (hp : List HObj) (lo : Nat) (q : Bool) => name_D (hp := hp) (lo := lo) q l' (by simp at hl1; omega)
          rw [k3, k4]
          cases hN : nameOk l' with
          | false =>
            rcases hd' with ⟨d1, d2⟩ | d1
            · simp [IP_termtext_leaf, i_termtext_leaf, hc, hn, must_D, hasPre_D, hm, TR.out, h1, h4, k1, k2, d1, d2, hN]
            · simp [IP_termtext_leaf, i_termtext_leaf, hc, hn, must_D, hasPre_D, hm, TR.out, h1, h4, k1, k2, d1, hN]
          | true =>
            by_cases h5 : (numE r).2 = 0
            · by_cases h6 : (numE r).1 ≤ 64
              · have e1 : IntKind.wrap .i64 (numE r).1 = (numE r).1 := wrap_small (by omega) (by omega)
                rcases hd' with ⟨d1, d2⟩ | d1
                · simp [IP_termtext_leaf, i_termtext_leaf, hc, hn, must_D, hasPre_D, hm, TR.out, h1, h4, k1, k2, d1, d2, hN, h5, h6, e1, T.av, T.avs, ownB]
                · simp [IP_termtext_leaf, i_termtext_leaf, hc, hn, must_D, hasPre_D, hm, TR.out, h1, h4, k1, k2, d1, hN, h5, h6, e1, T.av, T.avs, ownB]
              · rcases hd' with ⟨d1, d2⟩ | d1
                · simp [IP_termtext_leaf, i_termtext_leaf, hc, hn, must_D, hasPre_D, hm, TR.out, h1, h4, k1, k2, d1, d2, hN, h5, h6]
                · simp [IP_termtext_leaf, i_termtext_leaf, hc, hn, must_D, hasPre_D, hm, TR.out, h1, h4, k1, k2, d1, hN, h5, h6]
            · rcases hd' with ⟨d1, d2⟩ | d1
              · simp [IP_termtext_leaf, i_termtext_leaf, hc, hn, must_D, hasPre_D, hm, TR.out, h1, h4, k1, k2, d1, d2, hN, h5]
              · simp [IP_termtext_leaf, i_termtext_leaf, hc, hn, must_D, hasPre_D, hm, TR.out, h1, h4, k1, k2, d1, hN, h5]
        · have hm := fun (hp : List HObj) (lo : Nat) (q : Bool) => name_D (hp := hp) (lo := lo) q l (by omega)
          rw [k3, k4]
          cases hN : nameOk l with
          | false =>
            rcases hd' with ⟨d1, d2⟩ | d1
            · simp [IP_termtext_leaf, i_termtext_leaf, hc, hn, must_D, hasPre_D, hm, TR.out, h1, h4, k1, k2, d1, d2, hN]
            · simp [IP_termtext_leaf, i_termtext_leaf, hc, hn, must_D, hasPre_D, hm, TR.out, h1, h4, k1, k2, d1, hN]
          | true =>
            by_cases h5 : (numE r).2 = 0
            · by_cases h6 : (numE r).1 ≤ 64
              · have e1 : IntKind.wrap .i64 (numE r).1 = (numE r).1 := wrap_small (by omega) (by omega)
                rcases hd' with ⟨d1, d2⟩ | d1
                · simp [IP_termtext_leaf, i_termtext_leaf, hc, hn, must_D, hasPre_D, hm, TR.out, h1, h4, k1, k2, d1, d2, hN, h5, h6, e1, T.av, T.avs, ownB]
                · simp [IP_termtext_leaf, i_termtext_leaf, hc, hn, must_D, hasPre_D, hm, TR.out, h1, h4, k1, k2, d1, hN, h5, h6, e1, T.av, T.avs, ownB]
              · rcases hd' with ⟨d1, d2⟩ | d1
                · simp [IP_termtext_leaf, i_termtext_leaf, hc, hn, must_D, hasPre_D, hm, TR.out, h1, h4, k1, k2, d1, d2, hN, h5, h6]
                · simp [IP_termtext_leaf, i_termtext_leaf, hc, hn, must_D, hasPre_D, hm, TR.out, h1, h4, k1, k2, d1, hN, h5, h6]
            · rcases hd' with ⟨d1, d2⟩ | d1
              · simp [IP_termtext_leaf, i_termtext_leaf, hc, hn, must_D, hasPre_D, hm, TR.out, h1, h4, k1, k2, d1, d2, hN, h5]
              · simp [IP_termtext_leaf, i_termtext_leaf, hc, hn, must_D, hasPre_D, hm, TR.out, h1, h4, k1, k2, d1, hN, h5]
end
end Go.Proofs.YtkofimhnehkdoaaGreatDoor.Rf
end
section
set_option linter.unusedSimpArgs false
set_option linter.unusedVariables false
namespace Go.Proofs.YtkofimhnehkdoaaGreatDoor.Rf
def w7 (s : List UInt8) : Int × Int := if (numE s).2 ≠ 0 then (0, (numE s).2) else if 64 < (numE s).1 then (0, 2) else ((numE s).1, 0)
section
variable {hp : List HObj} {lo : Nat} (q : Bool)
end
end Go.Proofs.YtkofimhnehkdoaaGreatDoor.Rf
end
section
set_option linter.unusedSimpArgs false
set_option linter.unusedVariables false
namespace Go.Proofs.YtkofimhnehkdoaaGreatDoor.Rf
section
variable {hp : List HObj} {lo : Nat} (q : Bool)
end
end Go.Proofs.YtkofimhnehkdoaaGreatDoor.Rf
end
section
set_option linter.unusedSimpArgs false
set_option linter.unusedVariables false
namespace Go.Proofs.YtkofimhnehkdoaaGreatDoor.Rf
section
variable {hp : List HObj} {lo : Nat} (q : Bool)
end
end Go.Proofs.YtkofimhnehkdoaaGreatDoor.Rf
end
section
set_option linter.unusedSimpArgs false
set_option linter.unusedVariables false
namespace Go.Proofs.YtkofimhnehkdoaaGreatDoor.Rf
def numsN (op : Int) : Nat := if op = 21 then 2 else if op = 22 ∨ op = 23 then 1 else 0
def numR (s : List UInt8) (most : Int) : Int × Int := if (numE s).2 = 6 then (0, 6) else if (numE s).2 ≠ 0 ∨ most < (numE s).1 then (0, 2) else ((numE s).1, 0)
def S.z : S := .mk [] true []
def numsR (op : Int) (l : List S) : Int × Int × Int :=
  if op = 21 then
    (if (numR (l.getD 1 S.z).atom 18446744073709551615).2 ≠ 0 then (0, 0, (numR (l.getD 1 S.z).atom 18446744073709551615).2) else
     if (numR (l.getD 2 S.z).atom 64).2 ≠ 0 then (0, 0, (numR (l.getD 2 S.z).atom 64).2) else
     ((numR (l.getD 1 S.z).atom 18446744073709551615).1, (numR (l.getD 2 S.z).atom 64).1, 0))
  else if op = 22 ∨ op = 23 then
    (if (numR (l.getD 1 S.z).atom 64).2 ≠ 0 then (0, 0, (numR (l.getD 1 S.z).atom 64).2) else (0, (numR (l.getD 1 S.z).atom 64).1, 0))
  else (0, 0, 0)
inductive TRs where
  | ok (t : List T) | err (e : Int)
def TRs.cons (r : TR) (s : TRs) : TRs := match r with
  | .err e => .err e
  | .ok t => match s with
    | .err e => .err e
    | .ok ts => .ok (t :: ts)
def nodeR (op v w : Int) (s : TRs) : TR := match s with
  | .err e => .err e
  | .ok ts => if (widE op w v (ts.map T.width)).2 ≠ 0 then .err (widE op w v (ts.map T.width)).2 else .ok (.mk op (widE op w v (ts.map T.width)).1 v [] ts.isEmpty ts)
def headR (l : List S) : Bool := decide (l ≠ []) && ((ofE (l.getD 0 S.z).atom).2 && (!decide (arE (ofE (l.getD 0 S.z).atom).1 = 0) && decide ((l.length : Int) = 1 + numsN (ofE (l.getD 0 S.z).atom).1 + arE (ofE (l.getD 0 S.z).atom).1)))
mutual
def readS : S → TR
  | .mk a o l => if a ≠ [] then leafR a else
    if headR l = false then .err 6 else
    if (numsR (ofE (l.getD 0 S.z).atom).1 l).2.2 ≠ 0 then .err (numsR (ofE (l.getD 0 S.z).atom).1 l).2.2 else
    nodeR (ofE (l.getD 0 S.z).atom).1 (numsR (ofE (l.getD 0 S.z).atom).1 l).1 (numsR (ofE (l.getD 0 S.z).atom).1 l).2.1 (readsS l (1 + numsN (ofE (l.getD 0 S.z).atom).1))
def readsS : List S → Nat → TRs
  | [], _ => .ok []
  | x :: r, k + 1 => readsS r k
  | x :: r, 0 => TRs.cons (readS x) (readsS r 0)
end
theorem numR_bd (s : List UInt8) (m : Int) (hm : 0 ≤ m) : 0 ≤ (numR s m).1 ∧ (numR s m).1 ≤ m := by
  have := numE_bd s
  unfold numR; split
  · simp; omega
  · split
    · simp; omega
    · rename_i h; simp only; omega
end Go.Proofs.YtkofimhnehkdoaaGreatDoor.Rf
end
section
set_option linter.unusedSimpArgs false
set_option linter.unusedVariables false
namespace Go.Proofs.YtkofimhnehkdoaaGreatDoor.Rf
def notE (t : T) : Bool := decide (0 ≤ t.width) && (decide (t.width ≤ 64) && (decide ((t.args.length : Int) = arE t.op) && (if t.op = 1 ∨ t.op = 24 ∨ t.op = 25 then nameOk t.name && decide (t.val = 0) else if t.op = 2 ∨ t.op = 21 then decide (t.name = []) else decide (t.name = []) && decide (t.val = 0))))
theorem notE_mk (op w v : Int) (n : List UInt8) (o : Bool) (as : List T) : notE (.mk op w v n o as) = (decide (0 ≤ w) && (decide (w ≤ 64) && (decide ((as.length : Int) = arE op) && (if op = 1 ∨ op = 24 ∨ op = 25 then nameOk n && decide (v = 0) else if op = 2 ∨ op = 21 then decide (n = []) else decide (n = []) && decide (v = 0))))) := rfl
def decI (n : Int) : List UInt8 := dec n.toNat
def aS (a : List UInt8) : S := .mk a true []
def headW (op w v : Int) : List S := aS (nameE op) :: ((if op = 21 then [aS (decI v)] else []) ++ (if op = 21 ∨ op = 22 ∨ op = 23 then [aS (decI w)] else []))
mutual
def writeT : T → S
  | .mk op w v n o as => if notE (.mk op w v n o as) = false then aS [63] else
    if op = 1 then aS (n ++ 58 :: decI w) else
    if op = 24 then aS (63 :: (n ++ 58 :: decI w)) else
    if op = 25 then aS (35 :: (n ++ 58 :: decI w)) else
    if op = 2 then aS (decI v ++ 58 :: decI w) else
    .mk [] false (headW op w v ++ writeTs as)
def writeTs : List T → List S
  | [] => []
  | t :: r => writeT t :: writeTs r
end
mutual
def T.valid : T → Bool
  | .mk op w v n o as => T.valids as && (notE (.mk op w v n o as) && (decide ((widE op w v (as.map T.width)).2 = 0) && decide ((widE op w v (as.map T.width)).1 = w)))
def T.valids : List T → Bool
  | [] => true
  | t :: r => t.valid && T.valids r
end
mutual
def T.norm : T → T
  | .mk op w v n o as => .mk op w v n as.isEmpty (T.norms as)
def T.norms : List T → List T
  | [] => []
  | t :: r => t.norm :: T.norms r
end
theorem writeTs_len : ∀ as : List T, (writeTs as).length = as.length
  | [] => rfl
  | t :: r => by simp [writeTs, writeTs_len r]
theorem T.norms_len : ∀ as : List T, (T.norms as).length = as.length
  | [] => rfl
  | t :: r => by simp [T.norms, T.norms_len r]
theorem T.norms_isEmpty (as : List T) : (T.norms as).isEmpty = as.isEmpty := by cases as <;> rfl
theorem T.norm_width (t : T) : t.norm.width = t.width := by cases t; rfl
theorem T.norms_width : ∀ as : List T, (T.norms as).map T.width = as.map T.width
  | [] => rfl
  | t :: r => by simp [T.norms, T.norms_width r, T.norm_width t]
mutual
theorem T.norm_same : ∀ t : T, t.norm.same t = true
  | .mk op w v n o as => by simp [T.norm, T.same, T.norms_same as]
theorem T.norms_same : ∀ as : List T, T.sames (T.norms as) as = true
  | [] => rfl
  | t :: r => by simp [T.norms, T.sames, T.norm_same t, T.norms_same r]
end
theorem idxB_app : ∀ (n r : List UInt8) (c : UInt8), c ∉ n → idxB (n ++ c :: r) c = n.length
  | [], r, c, _ => by simp [idxB]
  | b :: n, r, c, h => by
    have ih := idxB_app n r c (fun hm => h (by simp [hm]))
    have hb : ¬ b = c := fun e => h (by simp [e])
    have h1 : ¬ (n.length : Int) = -1 := by omega
    simp [idxB, hb, ih, h1]
theorem cutB_app (n r : List UInt8) (c : UInt8) (h : c ∉ n) : cutB (n ++ c :: r) c = (n, r, true) := by
  unfold cutB; rw [idxB_app n r c h, if_pos (by omega)]; simp
theorem nameOk_mem {n : List UInt8} (h : nameOk n = true) : n ≠ [] ∧ n.length ≤ 16 ∧ 97 ≤ bt n 0 ∧ bt n 0 ≤ 122 ∧ ∀ c, c ∈ n → nameC (c.toNat : Int) = true := by
  simp only [nameOk, lowC, Bool.and_eq_true, decide_eq_true_eq, List.all_eq_true] at h
  obtain ⟨h1, h2, ⟨h3, h4⟩, h5⟩ := h
  exact ⟨fun e => by subst e; simp at h1, h2, h3, h4, h5⟩
theorem nameOk_colon {n : List UInt8} (h : nameOk n = true) : (58 : UInt8) ∉ n := fun hm => by
  have := (nameOk_mem h).2.2.2.2 58 hm
  revert this; decide
theorem decI_digs (n : Int) : ∀ c, c ∈ decI n → isDig c = true := dec_digs _
theorem decI_colon (n : Int) : (58 : UInt8) ∉ decI n := fun hm => by
  have := decI_digs n 58 hm
  revert this; decide
theorem numE_decI {w : Int} (h0 : 0 ≤ w) (h1 : w < 18446744073709551616) : numE (decI w) = (w, 0) := by
  have h := numE_dec (n := w.toNat) (by omega)
  unfold decI; rw [h]
  have : ((w.toNat : Nat) : Int) = w := Int.toNat_of_nonneg h0
  rw [this]
theorem leaf_name {l n : List UInt8} {w : Int} (h0 : 0 ≤ w) (h1 : w ≤ 64) (hc : (58 : UInt8) ∉ l) (hn : leafNm l = n) (hk : nameOk n = true) (hd : ¬ (48 ≤ bt (l ++ 58 :: decI w) 0 ∧ bt (l ++ 58 :: decI w) 0 ≤ 57)) :
    leafR (l ++ 58 :: decI w) = .ok (.mk (leafOp l) w 0 n true []) := by
  unfold leafR
  rw [cutB_app _ _ _ hc]
  simp only [numE_decI h0 (show w < 18446744073709551616 by omega)]
  rw [if_neg (by simp), if_neg hd, hn, hk, if_neg (by simp), if_neg (by simp; omega)]
theorem leaf_const {v w : Int} (h0 : 0 ≤ w) (h1 : w ≤ 64) (g0 : 0 ≤ v) (g1 : v < 18446744073709551616) (hw : (widE 2 w v []).2 = 0) : leafR (decI v ++ 58 :: decI w) = .ok (.mk 2 w v [] true []) := by
  unfold leafR
  rw [cutB_app _ _ _ (decI_colon v)]
  simp only [numE_decI h0 (show w < 18446744073709551616 by omega)]
  have hd : 48 ≤ bt (decI v ++ 58 :: decI w) 0 ∧ bt (decI v ++ 58 :: decI w) 0 ≤ 57 := by
    cases hh : decI v with
    | nil => exact absurd hh (dec_ne _)
    | cons c r =>
      have := decI_digs v c (by rw [hh]; simp)
      simp only [isDig, Bool.and_eq_true, decide_eq_true_eq] at this
      have e : bt (c :: r ++ 58 :: decI w) 0 = (c.toNat : Int) := rfl
      rw [e]; omega
  rw [if_neg (by simp), if_pos hd]
  unfold constR
  simp only [numE_decI g0 g1]
  rw [if_neg (by simp), if_neg (by simp; omega), if_neg (by simp [hw])]
theorem ofE_name {op : Int} (h : opOk op = true) : ofE (nameE op) = (op, true) := by
  rcases opOk_cases h with rfl | rfl | rfl | rfl | rfl | rfl | rfl | rfl | rfl | rfl | rfl | rfl | rfl | rfl | rfl | rfl | rfl | rfl | rfl | rfl | rfl | rfl | rfl | rfl | rfl | rfl
  all_goals decide +kernel
theorem arE_ok {op : Int} (h : arE op ≠ -1) : opOk op = true := by
  cases h2 : opOk op with
  | true => rfl
  | false => exact absurd (by simp [arE, h2]) h
theorem arE_ne {op : Int} (h : opOk op = true) (h1 : op ≠ 1) (h2 : op ≠ 2) (h3 : op ≠ 24) (h4 : op ≠ 25) : arE op ≠ 0 := by
  unfold arE
  rw [if_neg (by simp [h]), if_neg (by omega)]
  split
  · omega
  · split <;> omega
theorem widE_any {op : Int} (w v w' v' : Int) (as : List Int) (h1 : op ≠ 1) (h2 : op ≠ 2) (h3 : op ≠ 24) (h4 : op ≠ 25) (h5 : op ≠ 21) (h6 : op ≠ 22) (h7 : op ≠ 23) : widE op w v as = widE op w' v' as := by
  unfold widE
  simp [h1, h2, h3, h4, h5, h6, h7]
theorem bt_cons (c : UInt8) (r : List UInt8) : bt (c :: r) 0 = (c.toNat : Int) := rfl
theorem bt_app {n r : List UInt8} (h : n ≠ []) : bt (n ++ r) 0 = bt n 0 := by
  cases n with
  | nil => exact absurd rfl h
  | cons c n => rfl
theorem numR_decI {v m : Int} (h0 : 0 ≤ v) (h1 : v ≤ m) (h2 : v < 18446744073709551616) : numR (decI v) m = (v, 0) := by
  unfold numR; rw [numE_decI h0 h2]; simp; omega
mutual
theorem read_write : ∀ t : T, t.wf → t.valid = true → readS (writeT t) = .ok t.norm
  | .mk op w v n o as, hw, hv => by
    simp only [T.wf] at hw
    obtain ⟨_, _, w3, _, _, _, w7⟩ := hw
    have wv : 0 ≤ v ∧ v < 18446744073709551616 := by simp [Lit.wf, IntKind.min, IntKind.max, IntKind.signed, IntKind.bits] at w3; omega
    simp only [T.valid, Bool.and_eq_true, decide_eq_true_eq] at hv
    obtain ⟨v1, v2, v3, v4⟩ := hv
    have ih := reads_writes as w7 v1
    have hN := v2
    rw [notE_mk] at hN
    simp only [Bool.and_eq_true, decide_eq_true_eq] at hN
    obtain ⟨n0, n1, n2, n3⟩ := hN
    have hop : opOk op = true := arE_ok (by omega)
    rw [writeT, if_neg (by rw [v2]; simp)]
    have leaf0 : arE op = 0 → as = [] := fun h => List.length_eq_zero_iff.1 (by omega)
    by_cases h1 : op = 1
    · subst h1
      obtain rfl := leaf0 rfl
      simp only [true_or, if_true, Bool.and_eq_true, decide_eq_true_eq] at n3
      obtain ⟨m1, m2⟩ := n3
      have hm := nameOk_mem m1
      have hb : bt (n ++ 58 :: decI w) 0 = bt n 0 := bt_app hm.1
      have e1 : leafNm n = n := by unfold leafNm; rw [if_neg (by omega)]
      have e2 : leafOp n = 1 := by unfold leafOp; rw [if_neg (by omega), if_neg (by omega)]
      rw [if_pos rfl, aS, readS, if_pos (by simp), leaf_name n0 n1 (nameOk_colon m1) e1 m1 (by rw [hb]; omega), e2, m2]
      rfl
    rw [if_neg h1]
    by_cases h2 : op = 24
    · subst h2
      obtain rfl := leaf0 rfl
      have n3' : (nameOk n && decide (v = 0)) = true := n3
      simp only [Bool.and_eq_true, decide_eq_true_eq] at n3'
      obtain ⟨m1, m2⟩ := n3'
      have hm := nameOk_mem m1
      rw [if_pos rfl, aS, readS, if_pos (by simp)]
      have hc : (58 : UInt8) ∉ (63 : UInt8) :: n := by
        intro h; rcases List.mem_cons.1 h with h | h
        · revert h; decide
        · exact nameOk_colon m1 h
      have := leaf_name (l := 63 :: n) n0 n1 hc (by rfl) m1 (by rw [List.cons_append, bt_cons]; decide)
      rw [List.cons_append] at this
      rw [this, m2]; rfl
    rw [if_neg h2]
    by_cases h3 : op = 25
    · subst h3
      obtain rfl := leaf0 rfl
      have n3' : (nameOk n && decide (v = 0)) = true := n3
      simp only [Bool.and_eq_true, decide_eq_true_eq] at n3'
      obtain ⟨m1, m2⟩ := n3'
      have hm := nameOk_mem m1
      rw [if_pos rfl, aS, readS, if_pos (by simp)]
      have hc : (58 : UInt8) ∉ (35 : UInt8) :: n := by
        intro h; rcases List.mem_cons.1 h with h | h
        · revert h; decide
        · exact nameOk_colon m1 h
      have := leaf_name (l := 35 :: n) n0 n1 hc (by rfl) m1 (by rw [List.cons_append, bt_cons]; decide)
      rw [List.cons_append] at this
      rw [this, m2]; rfl
    rw [if_neg h3]
    by_cases h4 : op = 2
    · subst h4
      obtain rfl := leaf0 rfl
      have n3' : decide (n = []) = true := n3
      simp only [decide_eq_true_eq] at n3'
      subst n3'
      rw [if_pos rfl, aS, readS, if_pos (by simp), leaf_const n0 n1 wv.1 wv.2 v3]
      rfl
    rw [if_neg h4]
    have hne := arE_ne hop h1 h4 h2 h3
    have hof := ofE_name hop
    rw [readS, if_neg (by simp)]
    by_cases h5 : op = 21
    · subst h5
      have n3' : decide (n = []) = true := n3
      simp only [decide_eq_true_eq] at n3'
      subst n3'
      have hL : headW 21 w v ++ writeTs as = aS (nameE 21) :: aS (decI v) :: aS (decI w) :: writeTs as := rfl
      rw [hL]
      have g0 : ((aS (nameE 21) :: aS (decI v) :: aS (decI w) :: writeTs as).getD 0 S.z).atom = nameE 21 := rfl
      have g1 : ((aS (nameE 21) :: aS (decI v) :: aS (decI w) :: writeTs as).getD 1 S.z).atom = decI v := rfl
      have g2 : ((aS (nameE 21) :: aS (decI v) :: aS (decI w) :: writeTs as).getD 2 S.z).atom = decI w := rfl
      have hR : headR (aS (nameE 21) :: aS (decI v) :: aS (decI w) :: writeTs as) = true := by
        unfold headR; rw [g0, hof]
        have e0 : (numsN 21 : Int) = 2 := rfl
        simp [hne, writeTs_len, e0]; omega
      have hn : numsR 21 (aS (nameE 21) :: aS (decI v) :: aS (decI w) :: writeTs as) = (v, w, 0) := by
        unfold numsR; rw [g1, g2, numR_decI wv.1 (by omega) wv.2, numR_decI n0 n1 (by omega)]; simp
      have hs : readsS (aS (nameE 21) :: aS (decI v) :: aS (decI w) :: writeTs as) (1 + numsN 21) = readsS (writeTs as) 0 := by
        show readsS _ 3 = _
        simp only [readsS]
      rw [if_neg (by rw [hR]; simp), g0, hof]
      simp only [hn, hs, ih]
      rw [if_neg (by simp)]
      simp only [nodeR, T.norms_width, v3, v4, T.norms_isEmpty]
      rw [if_neg (by simp)]; rfl
    · have n3' : (decide (n = []) && decide (v = 0)) = true := by
        rw [if_neg (by omega), if_neg (by omega)] at n3; exact n3
      simp only [Bool.and_eq_true, decide_eq_true_eq] at n3'
      obtain ⟨rfl, rfl⟩ := n3'
      by_cases h6 : op = 22 ∨ op = 23
      · have hL : headW op w 0 ++ writeTs as = aS (nameE op) :: aS (decI w) :: writeTs as := by simp [headW, h5, h6]
        rw [hL]
        have g0 : ((aS (nameE op) :: aS (decI w) :: writeTs as).getD 0 S.z).atom = nameE op := rfl
        have g1 : ((aS (nameE op) :: aS (decI w) :: writeTs as).getD 1 S.z).atom = decI w := rfl
        have hN : numsN op = 1 := by simp [numsN, h5, h6]
        have hR : headR (aS (nameE op) :: aS (decI w) :: writeTs as) = true := by
          unfold headR; rw [g0, hof]
          simp [hne, writeTs_len, hN]; omega
        have hn : numsR op (aS (nameE op) :: aS (decI w) :: writeTs as) = (0, w, 0) := by
          unfold numsR; rw [if_neg h5, if_pos h6, g1, numR_decI n0 n1 (by omega)]; simp
        have hs : readsS (aS (nameE op) :: aS (decI w) :: writeTs as) (1 + numsN op) = readsS (writeTs as) 0 := by
          rw [hN]; show readsS _ 2 = _
          simp only [readsS]
        rw [if_neg (by rw [hR]; simp), g0, hof]
        simp only [hn, hs, ih]
        rw [if_neg (by simp)]
        simp only [nodeR, T.norms_width, v3, v4, T.norms_isEmpty]
        rw [if_neg (by simp)]; rfl
      · have hL : headW op w 0 ++ writeTs as = aS (nameE op) :: writeTs as := by simp [headW, h5, h6]
        rw [hL]
        have g0 : ((aS (nameE op) :: writeTs as).getD 0 S.z).atom = nameE op := rfl
        have hN : numsN op = 0 := by simp [numsN, h5, h6]
        have hR : headR (aS (nameE op) :: writeTs as) = true := by
          unfold headR; rw [g0, hof]
          simp [hne, writeTs_len, hN]; omega
        have hn : numsR op (aS (nameE op) :: writeTs as) = (0, 0, 0) := by
          unfold numsR; rw [if_neg h5, if_neg h6]
        have hs : readsS (aS (nameE op) :: writeTs as) (1 + numsN op) = readsS (writeTs as) 0 := by
          rw [hN]; show readsS _ 1 = _
          simp only [readsS]
        rw [if_neg (by rw [hR]; simp), g0, hof]
        simp only [hn, hs, ih]
        rw [if_neg (by simp)]
        have hx := widE_any 0 0 w 0 (as.map T.width) h1 h4 h2 h3 h5 (fun e => h6 (.inl e)) (fun e => h6 (.inr e))
        simp only [nodeR, T.norms_width, hx, v3, v4, T.norms_isEmpty]
        rw [if_neg (by simp)]; rfl
theorem reads_writes : ∀ as : List T, T.wfs as → T.valids as = true → readsS (writeTs as) 0 = .ok (T.norms as)
  | [], _, _ => rfl
  | t :: r, hw, hv => by
    simp only [T.wfs] at hw
    simp only [T.valids, Bool.and_eq_true] at hv
    simp only [writeTs, readsS, read_write t hw.1 hv.1, reads_writes r hw.2 hv.2, TRs.cons, T.norms]
end
end Go.Proofs.YtkofimhnehkdoaaGreatDoor.Rf
end
section
set_option linter.unusedSimpArgs false
set_option linter.unusedVariables false
namespace Go.Proofs.YtkofimhnehkdoaaGreatDoor.Rf
section
variable {hp : List HObj} {lo : Nat}
theorem fb_tail (hlo : lo ≤ hp.length) (p r : List AV) (n u i : Nat) (hi : i ≤ 7) (hn : i ≤ n) (hu : u < 10 ^ i) (f : List AV) (hf : f.length = i) :
    ∃ fr, evalC G0 (callD G0 IP) (loopD G0 IP lo) lo fbTail ⟨frB hp p.length n u i ++ [(20, .bool false)], HB hp (p ++ (f ++ r))⟩ = some (.normal, ⟨fr, HB hp (p ++ (digA (digN i u) ++ r))⟩) := by
  match i, hi with
  | 0, _ => exact fb_tail0 hlo p r n u hn hu f hf
  | 1, _ => exact fb_tail1 hlo p r n u hn hu f hf
  | 2, _ => exact fb_tail2 hlo p r n u hn hu f hf
  | 3, _ => exact fb_tail3 hlo p r n u hn hu f hf
  | 4, _ => exact fb_tail4 hlo p r n u hn hu f hf
  | 5, _ => exact fb_tail5 hlo p r n u hn hu f hf
  | 6, _ => exact fb_tail6 hlo p r n u hn hu f hf
  | 7, _ => exact fb_tail7 hlo p r n u hn hu f hf
theorem fb_body : i_internal_strconv_formatBase10.body = .seq (.region [oO 17 (.mv (tU 0)), oO 18 (.len (tU 17) .list), oO 4 (.mv (tV 18))] [0, 1, 4]) (.seq (.block 0 (.loop l_internal_strconv_formatBase10_0)) fbTail) := rfl
theorem formatBase10_D (hlo : lo ≤ hp.length) (p f r : List AV) (n u : Nat) (hf : f.length = n) (hn : n ≤ 20) (hu : u < 10 ^ n) (hu2 : u < 18446744073709551616) :
    callD G0 IP n_internal_strconv_formatBase10 [.sref hp.length p.length n 1, .int .u64 u] (HB hp (p ++ (f ++ r))) lo false = some (.ret (.tup []) (HB hp (p ++ (digA (digN n u) ++ r)))) := by
  have h1 := fb_loop (hp := hp) (lo := lo) hlo p r n (by omega) n f [] u hf (by simp) hu2
  simp only [digA, List.map_nil, List.nil_append, List.append_nil] at h1
  have hsum : n % 8 + 8 * (n / 8) = n := by omega
  have hu3 : u / 10 ^ (8 * (n / 8)) < 10 ^ (n % 8) := by
    rw [Nat.div_lt_iff_lt_mul (Nat.pow_pos (by omega)), ← Nat.pow_add, hsum]; exact hu
  obtain ⟨fr, h2⟩ := fb_tail (hp := hp) (lo := lo) hlo p (digA (digN (8 * (n / 8)) u) ++ r) n (u / 10 ^ (8 * (n / 8))) (n % 8) (by omega) (by omega) hu3 (f.take (n % 8)) (by simp; omega)
  have h3 : digA (digN n u) = digA (digN (n % 8) (u / 10 ^ (8 * (n / 8)))) ++ digA (digN (8 * (n / 8)) u) := by
    rw [← digA_app, ← digN_app, hsum]
  rw [h3]
  simp only [digA] at h2 ⊢
  clear h3 hsum hu3
  generalize u / 10 ^ (8 * (n / 8)) = w at *
  generalize n % 8 = m at *
  rw [callD_eq]
  have g1 : i_internal_strconv_formatBase10.arity = 2 := rfl
  have g2 : i_internal_strconv_formatBase10.res = [] := rfl
  have g3 : i_internal_strconv_formatBase10.rcv = none := rfl
  have g4 : i_internal_strconv_formatBase10.dfr = none := rfl
  have g5 : i_internal_strconv_formatBase10.frz = [] := rfl
  have g6 : i_internal_strconv_formatBase10.still = false := rfl
  simp only [List.cons_append, List.nil_append] at h2
  simp [IP_internal_strconv_formatBase10, g1, g2, g3, g4, g5, g6, fb_body, hf, h1, h2]
theorem bytesOf_digA (l : List UInt8) : bytesOf (l.map fun c => AV.int .u8 (c.toNat : Int)) = some l := bytesOf_bytes l
abbrev Z24 : List AV := [.int .u8 0, .int .u8 0, .int .u8 0, .int .u8 0, .int .u8 0, .int .u8 0, .int .u8 0, .int .u8 0, .int .u8 0, .int .u8 0, .int .u8 0, .int .u8 0, .int .u8 0, .int .u8 0, .int .u8 0, .int .u8 0, .int .u8 0, .int .u8 0, .int .u8 0, .int .u8 0, .int .u8 0, .int .u8 0, .int .u8 0, .int .u8 0]
theorem formatUint_D (u : Nat) (hu : u < 18446744073709551616) (hp : List HObj) (lo : Nat) (q : Bool) : callD G0 IP n_internal_strconv_FormatUint [.int .u64 u, .int .i64 10] hp lo q = some (.ret (.str (dec u)) hp) := by
  rw [callD_eq]
  by_cases h : u < 100
  · have h' : (u : Int) < 100 := by omega
    have hw : IntKind.wrap .i64 (u : Int) = u := wrap_small (by omega) (by omega)
    have e := fun (hp : List HObj) (lo : Nat) (q : Bool) => small_D (hp := hp) (lo := lo) q u h
    simp [IP_internal_strconv_FormatUint, i_internal_strconv_FormatUint, h', hw, e]
  · have h' : ¬ (u : Int) < 100 := by omega
    obtain ⟨n, n1, n2, n3, n4⟩ := numDigits_D u (by omega) hu
    have hd : digN (n + 1) u = dec u := digN_dec n u n3 (.inr n2)
    have e1 := formatBase10_D (hp := hp) (lo := hp.length) (Nat.le_refl _) [] (Z24.take (n + 1)) (Z24.drop (n + 1)) (n + 1) u (by simp; omega) (by omega) n3 hu
    rw [List.take_append_drop, hd] at e1
    have k1 : (0 : Int) ≤ (n : Int) + 1 := by omega
    have k2 : n + 1 ≤ 24 := by omega
    have k3 : ((n : Int) + 1).toNat = n + 1 := by omega
    have hl : (dec u).length = n + 1 := by rw [← hd, digN_len]
    simp [digA] at e1
    have k4 : 24 ≤ (dec u).length + (23 - n) := by omega
    have k5 : ∀ X, List.take (n + 1) (((dec u).map fun c => AV.int .u8 (c.toNat : Int)) ++ X) = (dec u).map fun c => AV.int .u8 (c.toNat : Int) := fun X => List.take_left' (by simp; omega)
    have k6 : n + 1 ≤ (dec u).length + (23 - n) := by omega
    simp [IP_internal_strconv_FormatUint, i_internal_strconv_FormatUint, h', n4, k1, k2, k3, k4, k5, k6, bytesOf_digA, e1]
theorem formatUintS_D (u : Nat) (hu : u < 18446744073709551616) (hp : List HObj) (lo : Nat) (q : Bool) : callD G0 IP n_strconv_FormatUint [.int .u64 u, .int .i64 10] hp lo q = some (.ret (.str (dec u)) hp) := by
  rw [callD_eq]
  simp [IP_strconv_FormatUint, i_strconv_FormatUint, formatUint_D u hu]
theorem decT_D (v : Int) (h0 : 0 ≤ v) (hv : v < 18446744073709551616) (hp : List HObj) (lo : Nat) (q : Bool) : callD G0 IP n_digits_Dec [.int .u64 v] hp lo q = some (.ret (.str (decI v)) hp) := by
  have e := formatUintS_D v.toNat (by omega)
  rw [Int.toNat_of_nonneg h0] at e
  rw [callD_eq]
  simp [IP_digits_Dec, i_digits_Dec, e, decI]
theorem intT_D (w : Int) (h0 : 0 ≤ w) (hw : w ≤ 64) (hp : List HObj) (lo : Nat) (q : Bool) : callD G0 IP n_digits_Int [.int .i64 w] hp lo q = some (.ret (.str (decI w)) hp) := by
  have e1 := fun (hp : List HObj) (lo : Nat) (q : Bool) => small_D (hp := hp) (lo := lo) q w.toNat (by omega)
  rw [Int.toNat_of_nonneg h0] at e1
  have k : w < 100 := by omega
  have e2 : ∀ (hp : List HObj) (lo : Nat) (q : Bool), callD G0 IP n_internal_strconv_FormatInt [.int .i64 w, .int .i64 10] hp lo q = some (.ret (.str (decI w)) hp) := fun hp lo q => by
    rw [callD_eq]; simp [IP_internal_strconv_FormatInt, i_internal_strconv_FormatInt, h0, k, e1, decI]
  have e3 : ∀ (hp : List HObj) (lo : Nat) (q : Bool), callD G0 IP n_internal_strconv_Itoa [.int .i64 w] hp lo q = some (.ret (.str (decI w)) hp) := fun hp lo q => by
    rw [callD_eq]; simp [IP_internal_strconv_Itoa, i_internal_strconv_Itoa, e2]
  have e4 : ∀ (hp : List HObj) (lo : Nat) (q : Bool), callD G0 IP n_strconv_Itoa [.int .i64 w] hp lo q = some (.ret (.str (decI w)) hp) := fun hp lo q => by
    rw [callD_eq]; simp [IP_strconv_Itoa, i_strconv_Itoa, e3]
  rw [callD_eq]
  simp [IP_digits_Int, i_digits_Int, e4]
def d16 : List UInt8 := [48, 49, 50, 51, 52, 53, 54, 55, 56, 57, 97, 98, 99, 100, 101, 102]
theorem d16_at (d : Nat) (h : d < 10) : (d16.take (d + 1)).drop d = [dig d] := by
  have : ∀ d : Fin 10, (d16.take (d.val + 1)).drop d.val = [dig d.val] := by decide +kernel
  exact this ⟨d, h⟩
theorem write2_L (hp : List HObj) (lo : Nat) : ∀ (u : Nat) (s : List UInt8), u < 18446744073709551616 → s.length + (dec u).length ≤ 1000 →
    ∃ u' : Nat, loopD G0 IP lo l_saturateref02_write_0 ⟨[(0, .int .u64 u), (1, .int .u64 10), (5, .str (dig (u % 10) :: s))], hp⟩ = some (.exit 0, ⟨[(0, .int .u64 u'), (1, .int .u64 10), (5, .str (dec u ++ s)), (16, .bool false)], hp⟩) := by
  intro u
  induction u using Nat.strongRecOn with
  | _ u ih =>
    intro s hu hs
    rw [loopD_eq, loopBody]
    by_cases h : u < 10
    · have h' : ¬ (10 : Int) ≤ (u : Int) := by omega
      have e : u % 10 = u := by omega
      refine ⟨u, ?_⟩
      rw [dec_small h, e]
      simp [l_saturateref02_write_0, h']
    · have h' : (10 : Int) ≤ (u : Int) := by omega
      have hb := dec_big (n := u) (by omega)
      have hl := congrArg List.length hb
      simp at hl
      obtain ⟨u', e⟩ := ih (u / 10) (by omega) (dig (u % 10) :: s) (by omega) (by simp; omega)
      have q1 : (u : Int).tdiv 10 = ((u / 10 : Nat) : Int) := rfl
      have w1 : IntKind.wrap .u64 ((u / 10 : Nat) : Int) = ((u / 10 : Nat) : Int) := by simp [IntKind.wrap, IntKind.signed, IntKind.bits]; omega
      have hm : u / 10 % 10 < 10 := Nat.mod_lt _ (by omega)
      have q2 : ((u / 10 : Nat) : Int).tmod 10 = ((u / 10 % 10 : Nat) : Int) := rfl
      have hat := d16_at (u / 10 % 10) hm
      rw [hb, List.append_assoc]
      refine ⟨u', ?_⟩
      rw [show [dig (u % 10)] ++ s = dig (u % 10) :: s from rfl]
      generalize dig (u % 10) = c at *
      generalize u / 10 = v at *
      generalize v % 10 = m at *
      have w2 : IntKind.wrap .u64 ((m : Int) + 1) = (m : Int) + 1 := by simp [IntKind.wrap, IntKind.signed, IntKind.bits]; omega
      have k1 : (0 : Int) ≤ (m : Int) + 1 := by omega
      have k2 : m + 1 ≤ 16 := by omega
      have k3 : ((m : Int) + 1).toNat = m + 1 := toNat_add m 1
      simp [d16] at hat
      have k4 : 1 + (s.length + 1) ≤ 9223372036854775807 := by omega
      simp [l_saturateref02_write_0, h', q1, w1, q2, w2, k1, k2, k3, k4, hat]
      exact e
theorem dec2_D (v : Int) (h0 : 0 ≤ v) (hv : v < 18446744073709551616) (hp : List HObj) (lo : Nat) (q : Bool) : callD G0 IP n_saturateref02_Dec [.int .u64 v] hp lo q = some (.ret (.str (decI v)) hp) := by
  have ew : ∀ (hp : List HObj) (lo : Nat) (q : Bool), callD G0 IP n_saturateref02_write [.int .u64 v, .int .u64 10] hp lo q = some (.ret (.str (decI v)) hp) := fun hp lo q => by
    obtain ⟨u, rfl⟩ : ∃ u : Nat, v = u := ⟨v.toNat, by omega⟩
    have hu : u < 18446744073709551616 := by omega
    obtain ⟨u', e⟩ := write2_L hp hp.length u [] hu (by have := dec_len20 hu; simp; omega)
    have hm : u % 10 < 10 := Nat.mod_lt _ (by omega)
    have q2 : (u : Int).tmod 10 = ((u % 10 : Nat) : Int) := rfl
    have hat := d16_at (u % 10) hm
    have hI : decI (u : Int) = dec u := rfl
    rw [callD_eq, hI]
    rw [List.append_nil] at e
    generalize u % 10 = m at *
    have w2 : IntKind.wrap .u64 ((m : Int) + 1) = (m : Int) + 1 := by simp [IntKind.wrap, IntKind.signed, IntKind.bits]; omega
    have k1 : (0 : Int) ≤ (m : Int) + 1 := by omega
    have k2 : m + 1 ≤ 16 := by omega
    have k3 : ((m : Int) + 1).toNat = m + 1 := toNat_add m 1
    simp [d16] at hat
    simp [IP_saturateref02_write, i_saturateref02_write, q2, w2, k1, k2, k3, hat, e]
  rw [callD_eq]
  simp [IP_saturateref02_Dec, i_saturateref02_Dec, ew]
theorem int2_D (w : Int) (h0 : 0 ≤ w) (hw : w ≤ 64) (hp : List HObj) (lo : Nat) (q : Bool) : callD G0 IP n_saturateref02_Int [.int .i64 w] hp lo q = some (.ret (.str (decI w)) hp) := by
  have e := dec2_D w h0 (by omega)
  have hw' : IntKind.wrap .u64 w = w := by simp [IntKind.wrap, IntKind.signed, IntKind.bits]; omega
  rw [callD_eq]
  simp [IP_saturateref02_Int, i_saturateref02_Int, h0, hw', e]
end
end Go.Proofs.YtkofimhnehkdoaaGreatDoor.Rf
end
section
set_option linter.unusedSimpArgs false
set_option linter.unusedVariables false
namespace Go.Proofs.YtkofimhnehkdoaaGreatDoor.Rf
theorem arE_ne0 {op : Int} (h1 : op ≠ 1) (h2 : op ≠ 2) (h3 : op ≠ 24) (h4 : op ≠ 25) : arE op ≠ 0 := by
  unfold arE
  split
  · omega
  · rw [if_neg (by omega)]; split
    · omega
    · split <;> omega
section
variable {hp : List HObj} {lo : Nat}
set_option maxHeartbeats 4000000 in
theorem notable_D (t : T) (hw : t.wf) (hp : List HObj) (lo : Nat) (q : Bool) : callD G0 IP n_termtext_notable [t.av] hp lo q = some (.ret (.bool (notE t)) hp) := by
  rw [callD_eq]
  have hwf := (T.wf_eq t).1 hw
  cases t with | mk op w v n o as =>
  rw [notE_mk, T.av_eq]
  simp only [T.op, T.width, T.val, T.name, T.o, T.args] at hwf ⊢
  have en := fun (hp : List HObj) (lo : Nat) (q : Bool) => name_D (hp := hp) (lo := lo) q n hwf.2.2.2.1
  by_cases h1 : w < 0
  · have h1' : ¬ 0 ≤ w := by omega
    simp [IP_termtext_notable, i_termtext_notable, h1, h1']
  have h1' : 0 ≤ w := by omega
  by_cases h2 : 64 < w
  · have h2' : ¬ w ≤ 64 := by omega
    simp [IP_termtext_notable, i_termtext_notable, h1, h1', h2, h2']
  have h2' : w ≤ 64 := by omega
  by_cases h3 : (as.length : Int) = arE op
  · by_cases k1 : op = 1
    · subst k1
      simp [IP_termtext_notable, i_termtext_notable, arity_D, h1, h1', h2, h2', h3, en]
      cases nameOk n <;> simp
    by_cases k2 : op = 24
    · subst k2
      simp [IP_termtext_notable, i_termtext_notable, arity_D, h1, h1', h2, h2', h3, en]
      cases nameOk n <;> simp
    by_cases k3 : op = 25
    · subst k3
      simp [IP_termtext_notable, i_termtext_notable, arity_D, h1, h1', h2, h2', h3, en]
      cases nameOk n <;> simp
    by_cases k4 : op = 2
    · subst k4
      simp [IP_termtext_notable, i_termtext_notable, arity_D, h1, h1', h2, h2', h3]
      cases n <;> simp
    by_cases k5 : op = 21
    · subst k5
      simp [IP_termtext_notable, i_termtext_notable, arity_D, h1, h1', h2, h2', h3]
      cases n <;> simp
    rcases n with _ | ⟨c, n'⟩
    · simp [IP_termtext_notable, i_termtext_notable, arity_D, h1, h1', h2, h2', h3, k1, k2, k3, k4, k5]
    · simp [IP_termtext_notable, i_termtext_notable, arity_D, h1, h1', h2, h2', h3, k1, k2, k3, k4, k5]
  · simp [IP_termtext_notable, i_termtext_notable, arity_D, h1, h1', h2, h2', h3]
set_option maxHeartbeats 4000000 in
theorem notable7_D (t : T) (hw : t.wf) (hp : List HObj) (lo : Nat) (q : Bool) : callD G0 IP n_saturateref07_Notable [t.av] hp lo q = some (.ret (.bool (notE t)) hp) := by
  rw [callD_eq]
  have hwf := (T.wf_eq t).1 hw
  cases t with | mk op w v n o as =>
  rw [notE_mk, T.av_eq]
  simp only [T.op, T.width, T.val, T.name, T.o, T.args] at hwf ⊢
  have en := fun (hp : List HObj) (lo : Nat) (q : Bool) => name7_D (hp := hp) (lo := lo) q n hwf.2.2.2.1
  by_cases h1 : w < 0
  · have h1' : ¬ 0 ≤ w := by omega
    simp [IP_saturateref07_Notable, i_saturateref07_Notable, h1, h1']
  have h1' : 0 ≤ w := by omega
  by_cases h2 : 64 < w
  · have h2' : ¬ w ≤ 64 := by omega
    simp [IP_saturateref07_Notable, i_saturateref07_Notable, h1, h1', h2, h2']
  have h2' : w ≤ 64 := by omega
  by_cases k1 : op = 1
  · subst k1
    have e : arE 1 = 0 := rfl
    by_cases k : v = 0
    · simp [IP_saturateref07_Notable, i_saturateref07_Notable, h1, h1', h2, h2', en, e, k]
      cases nameOk n <;> simp
    · simp [IP_saturateref07_Notable, i_saturateref07_Notable, h1, h1', h2, h2', en, e, k]
      cases nameOk n <;> simp
  by_cases k2 : op = 24
  · subst k2
    have e : arE 24 = 0 := rfl
    by_cases k : v = 0
    · simp [IP_saturateref07_Notable, i_saturateref07_Notable, h1, h1', h2, h2', en, e, k]
      cases nameOk n <;> simp
    · simp [IP_saturateref07_Notable, i_saturateref07_Notable, h1, h1', h2, h2', en, e, k]
      cases nameOk n <;> simp
  by_cases k3 : op = 25
  · subst k3
    have e : arE 25 = 0 := rfl
    by_cases k : v = 0
    · simp [IP_saturateref07_Notable, i_saturateref07_Notable, h1, h1', h2, h2', en, e, k]
      cases nameOk n <;> simp
    · simp [IP_saturateref07_Notable, i_saturateref07_Notable, h1, h1', h2, h2', en, e, k]
      cases nameOk n <;> simp
  by_cases k4 : op = 2
  · subst k4
    have e : arE 2 = 0 := rfl
    rcases n with _ | ⟨c, n'⟩
    · simp [IP_saturateref07_Notable, i_saturateref07_Notable, h1, h1', h2, h2', e]
    · simp [IP_saturateref07_Notable, i_saturateref07_Notable, h1, h1', h2, h2', e]
  have hne := arE_ne0 k1 k4 k2 k3
  have hor : ¬ (op = 1 ∨ op = 24 ∨ op = 25) := by omega
  rw [if_neg hor]
  rcases n with _ | ⟨c, n'⟩
  · by_cases k5 : op = 21
    · rw [if_pos (.inr k5)]
      subst k5
      by_cases k8 : as = []
      · subst k8
        have e : ¬ (0 : Int) = arE 21 := fun e => hne e.symm
        by_cases k7 : v = 0
        · simp [IP_saturateref07_Notable, i_saturateref07_Notable, arity4_D, h1, h1', h2, h2', k7, e]
        · simp [IP_saturateref07_Notable, i_saturateref07_Notable, arity4_D, h1, h1', h2, h2', k7, e]
      · have kl : 0 < as.length := List.length_pos_iff.2 k8
        by_cases k7 : v = 0
        · simp [IP_saturateref07_Notable, i_saturateref07_Notable, arity4_D, h1, h1', h2, h2', k7, kl]
        · simp [IP_saturateref07_Notable, i_saturateref07_Notable, arity4_D, h1, h1', h2, h2', k7, kl]
    · rw [if_neg (by omega)]
      by_cases k7 : v = 0
      · by_cases k8 : as = []
        · subst k8
          have e : ¬ (0 : Int) = arE op := fun e => hne e.symm
          simp [IP_saturateref07_Notable, i_saturateref07_Notable, arity4_D, h1, h1', h2, h2', k1, k2, k3, k4, k5, k7, e]
        · have kl : 0 < as.length := List.length_pos_iff.2 k8
          simp [IP_saturateref07_Notable, i_saturateref07_Notable, arity4_D, h1, h1', h2, h2', k1, k2, k3, k4, k5, k7, kl]
      · simp [IP_saturateref07_Notable, i_saturateref07_Notable, arity4_D, h1, h1', h2, h2', k1, k2, k3, k4, k5, k7]
  · simp [IP_saturateref07_Notable, i_saturateref07_Notable, arity4_D, h1, h1', h2, h2', k1, k2, k3, k4]
theorem atom_D (s : List UInt8) (hp : List HObj) (lo : Nat) (q : Bool) : callD G0 IP n_termtext_atom [.str s] hp lo q = some (.ret (.agg [.str s, .list [] .nil]) hp) := by
  rw [callD_eq]
  simp [IP_termtext_atom, i_termtext_atom]
end
end Go.Proofs.YtkofimhnehkdoaaGreatDoor.Rf
end
section
set_option linter.unusedSimpArgs false
set_option linter.unusedVariables false
namespace Go.Proofs.YtkofimhnehkdoaaGreatDoor.Rf
section
variable {hp : List HObj} {lo : Nat} (q : Bool)
def TR1 (hp : List HObj) (k : IntKind) (r : Int × Int) : COut := if r.2 = 0 then .ret (.int k r.1) hp else .pan (.iface 78 (.agg [.int .i64 r.2])) hp
theorem ttNumerals_D (op : Int) : callD G0 IP n_termtext_numerals [.int .i64 op] hp lo q = some (.ret (.int .i64 (numsN op)) hp) := by
  rw [callD_eq]
  by_cases h1 : op = 21
  · subst h1; simp [IP_termtext_numerals, i_termtext_numerals, numsN]
  · by_cases h2 : op = 22
    · subst h2; simp [IP_termtext_numerals, i_termtext_numerals, numsN]
    · by_cases h3 : op = 23
      · subst h3; simp [IP_termtext_numerals, i_termtext_numerals, numsN]
      · simp [IP_termtext_numerals, i_termtext_numerals, numsN, h1, h2, h3]
theorem plain7_D (op : Int) : callD G0 IP n_saturateref07_plain [.int .i64 op] hp lo q = some (.ret (.int .i64 (numsN op)) hp) := by
  rw [callD_eq]
  by_cases h1 : op = 21
  · subst h1; simp [IP_saturateref07_plain, i_saturateref07_plain, numsN]
  · by_cases h2 : op = 22
    · subst h2; simp [IP_saturateref07_plain, i_saturateref07_plain, numsN]
    · by_cases h3 : op = 23
      · subst h3; simp [IP_saturateref07_plain, i_saturateref07_plain, numsN]
      · simp [IP_saturateref07_plain, i_saturateref07_plain, numsN, h1, h2, h3]
theorem number_D (a : List UInt8) (o : Own) (l : List AV) (hs : a.length ≤ 140737488355328) (m : Int) : callD G0 IP n_termtext_number [.agg [.str a, .list l o], .int .u64 m] hp lo false = some (TR1 hp .u64 (numR a m)) := by
  rw [callD_eq]
  have hn := fun (hp : List HObj) (lo : Nat) (q : Bool) => ttNumeral_D (hp := hp) (lo := lo) q a hs
  by_cases h0 : a = []
  · subst h0
    have e : numR [] m = (0, 6) := by rfl
    simp [IP_termtext_number, i_termtext_number, must_D, e, TR1]
  · by_cases h1 : (numE a).2 = 6
    · have e : numR a m = (0, 6) := by simp [numR, h1]
      simp [IP_termtext_number, i_termtext_number, must_D, hn, h0, h1, e, TR1]
    · by_cases h2 : (numE a).2 = 0
      · by_cases h3 : (numE a).1 ≤ m
        · have e : numR a m = ((numE a).1, 0) := by simp [numR, h2]; omega
          simp [IP_termtext_number, i_termtext_number, must_D, hn, h0, h2, h3, e, TR1]
        · have e : numR a m = (0, 2) := by simp [numR, h2]; omega
          simp [IP_termtext_number, i_termtext_number, must_D, hn, h0, h2, h3, e, TR1]
      · have e : numR a m = (0, 2) := by simp [numR, h1, h2]
        simp [IP_termtext_number, i_termtext_number, must_D, hn, h0, h1, h2, e, TR1]
end
end Go.Proofs.YtkofimhnehkdoaaGreatDoor.Rf
end
section
set_option linter.unusedSimpArgs false
set_option linter.unusedVariables false
namespace Go.Proofs.YtkofimhnehkdoaaGreatDoor.Rf
section
variable {hp : List HObj} {lo : Nat} (q : Bool)
end
end Go.Proofs.YtkofimhnehkdoaaGreatDoor.Rf
end
section
set_option linter.unusedSimpArgs false
set_option linter.unusedVariables false
namespace Go.Proofs.YtkofimhnehkdoaaGreatDoor.Rf
section
variable {hp : List HObj} {lo : Nat} (q : Bool)
end
theorem ofE_ok {s : List UInt8} (h : (ofE s).2 = true) : opOk (ofE s).1 = true := by
  unfold ofE at h ⊢
  split at h
  · rename_i i hi
    have := List.mem_of_find?_eq_some hi
    simp at this
    simp [opOk]; omega
  · simp at h
theorem arE_bd (op : Int) : -1 ≤ arE op ∧ arE op ≤ 3 := by
  unfold arE; split
  · omega
  · split
    · omega
    · split
      · omega
      · split <;> omega
theorem numsN_bd (op : Int) : numsN op ≤ 2 := by
  unfold numsN; split
  · omega
  · split <;> omega
mutual
def S.sm : S → Prop
  | .mk a _ l => a.length ≤ 140737488355328 ∧ S.sms l
def S.sms : List S → Prop
  | [] => True
  | t :: r => t.sm ∧ S.sms r
end
theorem S.sms_iff : ∀ l : List S, S.sms l ↔ ∀ t, t ∈ l → t.sm
  | [] => by simp [S.sms]
  | t :: r => by simp [S.sms, S.sms_iff r]
theorem S.sm_eq (t : S) : t.sm ↔ t.atom.length ≤ 140737488355328 ∧ ∀ u, u ∈ t.list → u.sm := by
  cases t; simp only [S.sm, S.atom, S.list, S.sms_iff]
def ownT (acc : List T) : Own := if acc.isEmpty then .nil else .own 5 0
@[simp] theorem ownT_cp (acc : List T) : (ownT acc).cp = ownB acc.isEmpty := by cases acc <;> rfl
@[simp] theorem ownT_app (acc : List T) (x : T) : ownT (acc ++ [x]) = .own 5 0 := by cases acc <;> rfl
theorem ownT_ok (acc : List T) : ownT acc = .nil ∨ ownT acc = .own 5 0 := by cases acc <;> simp [ownT]
theorem T.avs_app (a b : List T) : T.avs (a ++ b) = T.avs a ++ T.avs b := by simp [T.avs_eq]
def wds (acc : List T) : List AV := (acc.map T.width).map (AV.int .i64)
@[simp] theorem wds_len (acc : List T) : (wds acc).length = acc.length := by simp [wds]
@[simp] theorem wds_nil : wds [] = [] := rfl
theorem wds_app (acc : List T) (t : T) : wds (acc ++ [t]) = wds acc ++ [.int .i64 t.width] := by simp [wds]
abbrev boxZ : AV := .box [.int .i64 0, .int .i64 0, .int .u64 0, .str [], .list [] .nil]
@[simp] theorem T.okSize_avs (l : List T) : okSize 5 (T.avs l) = true := by
  cases l with
  | nil => rfl
  | cons t r => simp [T.avs, T.av_eq]
@[simp] theorem okSize_wds (l : List T) : okSize 1 (wds l) = true := by
  cases l with
  | nil => rfl
  | cons t r => simp [wds]
section
variable {hp : List HObj} {lo : Nat} (q : Bool)
end
end Go.Proofs.YtkofimhnehkdoaaGreatDoor.Rf
end
section
set_option linter.unusedSimpArgs false
set_option linter.unusedVariables false
namespace Go.Proofs.YtkofimhnehkdoaaGreatDoor.Rf
theorem insE_all {as : List Int} (h : ¬ as.all insE = false) (i : Nat) : 0 ≤ as.getD i 0 ∧ as.getD i 0 ≤ 64 := by
  have h : as.all insE = true := by cases hh : as.all insE <;> simp_all
  by_cases hi : i < as.length
  · have e : as.getD i 0 = as[i] := by simp [List.getD, hi]
    have := List.all_eq_true.1 h as[i] (List.getElem_mem hi)
    simp only [insE, Bool.and_eq_true, decide_eq_true_eq] at this
    rw [e]; exact this
  · have e : as.getD i 0 = 0 := by simp [List.getD, hi]
    rw [e]; omega
theorem widE_idem {op w v : Int} {as : List Int} (h : (widE op w v as).2 = 0) : opOk op = true ∧ (as.length : Int) = arE op ∧ 0 ≤ (widE op w v as).1 ∧ (widE op w v as).1 ≤ 64 ∧ widE op (widE op w v as).1 v as = ((widE op w v as).1, 0) := by
  by_cases c1 : opOk op = false ∨ (as.length : Int) ≠ arE op
  · unfold widE at h; rw [if_pos c1] at h; simp at h
  by_cases c2 : as.all insE = false
  · unfold widE at h; rw [if_neg c1, if_pos c2] at h; simp at h
  have hop : opOk op = true := by cases hh : opOk op <;> simp_all
  have hlen : (as.length : Int) = arE op := by
    by_cases e : (as.length : Int) = arE op
    · exact e
    · exact absurd (.inr e) c1
  refine ⟨hop, hlen, ?_⟩
  have g := insE_all c2
  have g0 := g 0
  have g1 := g 1
  unfold widE at h ⊢
  simp only [if_neg c1, if_neg c2] at h ⊢
  by_cases k1 : op = 1 ∨ op = 2 ∨ op = 24 ∨ op = 25
  · simp only [if_pos k1] at h ⊢
    unfold leafE at h ⊢
    by_cases k : insE w = false ∨ (op = 2 ∧ 0 < w ∧ 2 ^ w.toNat ≤ v)
    · rw [if_pos k] at h; simp at h
    · simp only [if_neg k]
      have : insE w = true := by cases hh : insE w <;> simp_all
      simp only [insE, Bool.and_eq_true, decide_eq_true_eq] at this
      exact ⟨this.1, this.2, trivial⟩
  simp only [if_neg k1] at h ⊢
  by_cases k2 : op = 3 ∨ op = 4 ∨ op = 26
  · simp only [if_pos k2]; exact ⟨g0.1, g0.2, trivial⟩
  simp only [if_neg k2] at h ⊢
  by_cases k3 : op = 21 ∨ op = 22 ∨ op = 23
  · simp only [if_pos k3] at h ⊢
    unfold resE at h ⊢
    by_cases k : w < 1 ∨ 64 < w ∨ as.getD 0 0 < 1
    · rw [if_pos k] at h; simp at h
    · simp only [if_neg k] at h ⊢
      by_cases k' : (op ≠ 21 ∧ w < as.getD 0 0) ∨ (op = 21 ∧ (as.getD 0 0 < w ∨ as.getD 0 0 - w < v))
      · rw [if_pos k'] at h; simp at h
      · simp only [if_neg k']
        rw [if_neg k]
        exact ⟨by omega, by omega, rfl⟩
  simp only [if_neg k3] at h ⊢
  by_cases k4 : op = 19
  · simp only [if_pos k4] at h ⊢
    by_cases k : as.getD 0 0 = 1 ∧ as.getD 1 0 = as.getD 2 0
    · simp only [if_pos k]; exact ⟨g1.1, g1.2, trivial⟩
    · rw [if_neg k] at h; simp at h
  simp only [if_neg k4] at h ⊢
  by_cases k5 : op = 20
  · simp only [if_pos k5] at h ⊢
    by_cases k : 1 ≤ as.getD 0 0 ∧ 1 ≤ as.getD 1 0 ∧ as.getD 0 0 + as.getD 1 0 ≤ 64
    · simp only [if_pos k]; exact ⟨by omega, by omega, trivial⟩
    · rw [if_neg k] at h; simp at h
  simp only [if_neg k5] at h ⊢
  by_cases k6 : op = 16 ∨ op = 17 ∨ op = 18
  · simp only [if_pos k6] at h ⊢
    by_cases k : as.getD 0 0 = as.getD 1 0
    · simp only [if_pos k]; exact ⟨by omega, by omega, trivial⟩
    · rw [if_neg k] at h; simp at h
  simp only [if_neg k6] at h ⊢
  by_cases k : as.getD 0 0 = as.getD 1 0
  · simp only [if_pos k]; exact ⟨g0.1, g0.2, trivial⟩
  · rw [if_neg k] at h; simp at h
theorem i64_wf {n : Int} (h0 : 0 ≤ n) (h1 : n ≤ 1000) : (Lit.int .i64 n).wf = true := by simp [Lit.wf, IntKind.min, IntKind.max, IntKind.signed, IntKind.bits]; omega
theorem u64_wf {n : Int} (h0 : 0 ≤ n) (h1 : n < 18446744073709551616) : (Lit.int .u64 n).wf = true := by simp [Lit.wf, IntKind.min, IntKind.max, IntKind.signed, IntKind.bits]; omega
theorem constR_valid {l : List UInt8} {w e : Int} {t : T} (hw : 0 ≤ w) (h : constR l w e = .ok t) : t.valid = true ∧ t.wf := by
  have hb := numE_bd l
  unfold constR at h
  split at h
  · cases h
  · split at h
    · cases h
    · rename_i k
      have k : e = 0 ∧ (numE l).2 = 0 ∧ w ≤ 64 := Decidable.not_not.1 k
      split at h
      · cases h
      · rename_i k2
        have k2 : (widE 2 w (numE l).1 []).2 = 0 := Decidable.not_not.1 k2
        cases h
        obtain ⟨i1, i2, i3, i4, i5⟩ := widE_idem k2
        have i6 : (widE 2 w (numE l).1 []).1 = w := by
          unfold widE at k2 ⊢
          rw [if_neg (by decide), if_neg (by decide), if_pos (by decide)] at k2 ⊢
          unfold leafE at k2 ⊢
          split at k2
          · simp at k2
          · rename_i k3; rw [if_neg k3]
        refine ⟨?_, ?_⟩
        · simp only [T.valid, T.valids, List.map_nil, k2, i6]
          simp [notE_mk, hw, k.2.2]; rfl
        · simp only [T.wf, T.wfs]
          exact ⟨by decide, i64_wf hw (by omega), u64_wf hb.1 hb.2, by simp, by simp, by simp, trivial⟩
theorem leafOp_cases (l : List UInt8) : leafOp l = 1 ∨ leafOp l = 24 ∨ leafOp l = 25 := by
  unfold leafOp; split
  · simp
  · split <;> simp
theorem name_valid {op w : Int} {n : List UInt8} (h : op = 1 ∨ op = 24 ∨ op = 25) (h0 : 0 ≤ w) (h1 : w ≤ 64) (hn : nameOk n = true) : (T.mk op w 0 n true []).valid = true ∧ (T.mk op w 0 n true []).wf := by
  have ins : insE w = true := by simp [insE, h0, h1]
  have hm := nameOk_mem hn
  refine ⟨?_, ?_⟩
  · have hw : widE op w 0 [] = (w, 0) := by
      have h2 : op ≠ 2 := by omega
      have h3 : op = 1 ∨ op = 2 ∨ op = 24 ∨ op = 25 := by omega
      have h4 : opOk op = true := by simp [opOk]; omega
      have h5 : arE op = 0 := by rcases h with rfl | rfl | rfl <;> rfl
      unfold widE
      rw [if_neg (by simp [h4, h5]), if_neg (by simp), if_pos h3]
      unfold leafE
      rw [if_neg (by simp [ins, h2])]
    have h5 : arE op = 0 := by rcases h with rfl | rfl | rfl <;> rfl
    simp only [T.valid, T.valids, List.map_nil, hw, notE_mk]
    rw [if_pos h]
    simp [h0, h1, hn, h5]
  · simp only [T.wf, T.wfs]
    exact ⟨i64_wf (by omega) (by omega), i64_wf h0 (by omega), by decide, by omega, by simp, by simp, trivial⟩
theorem leafR_valid {s : List UInt8} {t : T} (h : leafR s = .ok t) : t.valid = true ∧ t.wf := by
  unfold leafR at h
  have hb := numE_bd (cutB s 58).2.1
  split at h
  · cases h
  · split at h
    · exact constR_valid hb.1 h
    · split at h
      · cases h
      · rename_i k
        split at h
        · cases h
        · rename_i k2
          have k2 := Decidable.not_not.1 k2
          cases h
          exact name_valid (leafOp_cases _) hb.1 k2.2 (by simpa using k)
theorem nodeR_valid {op v w : Int} {ts : List T} {t : T} (h1 : op ≠ 1) (h2 : op ≠ 2) (h3 : op ≠ 24) (h4 : op ≠ 25) (hv0 : op ≠ 21 → v = 0) (hvr : 0 ≤ v ∧ v < 18446744073709551616) (hts : T.valids ts = true) (hwf : T.wfs ts) (h : nodeR op v w (.ok ts) = .ok t) : t.valid = true ∧ t.wf := by
  simp only [nodeR] at h
  split at h
  · cases h
  · rename_i k
    have k := Decidable.not_not.1 k
    cases h
    obtain ⟨i1, i2, i3, i4, i5⟩ := widE_idem k
    have i1' : 1 ≤ op ∧ op ≤ 26 := by simpa [opOk] using i1
    have i2' : (ts.length : Int) = arE op := by simpa using i2
    have i6 : arE op ≤ 3 := by
      unfold arE; split
      · omega
      · split
        · omega
        · split
          · omega
          · split <;> omega
    refine ⟨?_, ?_⟩
    · simp only [T.valid, hts, i5, Bool.true_and]
      have : notE (.mk op (widE op w v (ts.map T.width)).1 v [] ts.isEmpty ts) = true := by
        rw [notE_mk]
        rw [if_neg (by omega)]
        by_cases h21 : op = 21
        · rw [if_pos (.inr h21)]; simp [i3, i4, i2']
        · rw [if_neg (by omega), hv0 h21]; rw [hv0 h21] at i3 i4; simp [i3, i4, i2']
      simp [this]
    · simp only [T.wf]
      exact ⟨i64_wf (by omega) (by omega), i64_wf i3 (by omega), u64_wf hvr.1 hvr.2, by simp, by omega, by simp, hwf⟩
theorem numsR_val (op : Int) (l : List S) : (op ≠ 21 → (numsR op l).1 = 0) ∧ 0 ≤ (numsR op l).1 ∧ (numsR op l).1 < 18446744073709551616 := by
  have hb := numR_bd (l.getD 1 S.z).atom 18446744073709551615 (by omega)
  unfold numsR
  by_cases h : op = 21
  · rw [if_pos h]
    refine ⟨fun e => absurd h e, ?_⟩
    split
    · simp
    · split
      · simp
      · simp only; omega
  · rw [if_neg h]
    split
    · split <;> simp
    · simp
mutual
theorem readS_valid : ∀ (e : S) (t : T), readS e = .ok t → t.valid = true ∧ t.wf
  | .mk a o l, t, h => by
    rw [readS] at h
    split at h
    · exact leafR_valid h
    · split at h
      · cases h
      · rename_i hh
        split at h
        · cases h
        · cases hs : readsS l (1 + numsN (ofE (l.getD 0 S.z).atom).1) with
          | err e => rw [hs] at h; simp [nodeR] at h
          | ok ts =>
            rw [hs] at h
            have hv := readsS_valid l _ ts hs
            have hn := numsR_val (ofE (l.getD 0 S.z).atom).1 l
            have hR : headR l = true := by cases hx : headR l <;> simp_all
            simp only [headR, Bool.and_eq_true, Bool.not_eq_true', decide_eq_false_iff_not] at hR
            have ha := hR.2.2.1
            exact nodeR_valid (fun e => ha (by rw [e]; rfl)) (fun e => ha (by rw [e]; rfl)) (fun e => ha (by rw [e]; rfl)) (fun e => ha (by rw [e]; rfl)) hn.1 hn.2 hv.1 hv.2 h
theorem readsS_valid : ∀ (l : List S) (k : Nat) (ts : List T), readsS l k = .ok ts → T.valids ts = true ∧ T.wfs ts
  | [], k, ts, h => by simp [readsS] at h; subst h; exact ⟨rfl, trivial⟩
  | x :: r, k + 1, ts, h => by rw [readsS] at h; exact readsS_valid r k ts h
  | x :: r, 0, ts, h => by
    rw [readsS] at h
    cases hx : readS x with
    | err e => rw [hx] at h; simp [TRs.cons] at h
    | ok t =>
      cases hr : readsS r 0 with
      | err e => rw [hx, hr] at h; simp [TRs.cons] at h
      | ok us =>
        rw [hx, hr] at h; simp [TRs.cons] at h; subst h
        have a := readS_valid x t hx
        have b := readsS_valid r 0 us hr
        exact ⟨by simp [T.valids, a.1, b.1], a.2, b.2⟩
end
theorem same_atoms : ∀ (l l' : List S), S.sames l l' = true → l.length = l'.length ∧ ∀ i, (l.getD i S.z).atom = (l'.getD i S.z).atom
  | [], [], _ => ⟨rfl, fun _ => rfl⟩
  | x :: r, y :: s, h => by
    simp only [S.sames, Bool.and_eq_true] at h
    obtain ⟨h1, h2⟩ := same_atoms r s h.2
    refine ⟨by simp [h1], fun i => ?_⟩
    cases i with
    | zero =>
      have := h.1
      rw [S.same_eq] at this
      simp only [Bool.and_eq_true, beq_iff_eq] at this
      simpa using this.1
    | succ i => simpa using h2 i
  | [], _ :: _, h => by simp [S.sames] at h
  | _ :: _, [], h => by simp [S.sames] at h
theorem headR_same {l l' : List S} (h : S.sames l l' = true) : headR l = headR l' := by
  obtain ⟨h1, h2⟩ := same_atoms l l' h
  unfold headR
  rw [h2 0, h1]
  have : decide (l ≠ []) = decide (l' ≠ []) := by
    cases l <;> cases l' <;> simp_all
  rw [this]
theorem numsR_same {l l' : List S} (h : S.sames l l' = true) (op : Int) : numsR op l = numsR op l' := by
  obtain ⟨h1, h2⟩ := same_atoms l l' h
  unfold numsR
  rw [h2 1, h2 2]
mutual
theorem readS_same : ∀ (x y : S), x.same y = true → readS x = readS y
  | .mk a o l, .mk a' o' l', h => by
    simp only [S.same, Bool.and_eq_true, beq_iff_eq] at h
    obtain ⟨rfl, h⟩ := h
    have e0 := (same_atoms l l' h).2 0
    rw [readS, readS, headR_same h, e0, numsR_same h, readsS_same l l' _ h]
theorem readsS_same : ∀ (l l' : List S) (k : Nat), S.sames l l' = true → readsS l k = readsS l' k
  | [], [], _, _ => rfl
  | x :: r, y :: s, k + 1, h => by
    simp only [S.sames, Bool.and_eq_true] at h
    rw [readsS, readsS]; exact readsS_same r s k h.2
  | x :: r, y :: s, 0, h => by
    simp only [S.sames, Bool.and_eq_true] at h
    rw [readsS, readsS, readS_same x y h.1, readsS_same r s 0 h.2]
  | [], _ :: _, _, h => by simp [S.sames] at h
  | _ :: _, [], _, h => by simp [S.sames] at h
end
end Go.Proofs.YtkofimhnehkdoaaGreatDoor.Rf
end
section
set_option linter.unusedSimpArgs false
set_option linter.unusedVariables false
namespace Go.Proofs.YtkofimhnehkdoaaGreatDoor.Rf
theorem tup_err (hp : List HObj) (c : Int) : (TR.err c).tup hp = .ret (.tup [.agg [.int .i64 0, .int .i64 0, .int .u64 0, .str [], .list [] .nil], .int .i64 c]) hp := rfl
theorem tup_ok (hp : List HObj) (t : T) : (TR.ok t).tup hp = .ret (.tup [t.av, .int .i64 0]) hp := rfl
theorem arE_ge {op : Int} (h : opOk op = true) : 0 ≤ arE op := by
  unfold arE; rw [if_neg (by simp [h])]; split
  · omega
  · split
    · omega
    · split <;> omega
theorem readsS_len : ∀ (l : List S) (k : Nat) (ts : List T), readsS l k = .ok ts → ts.length ≤ l.length
  | [], k, ts, h => by simp [readsS] at h; subst h; simp
  | x :: r, k + 1, ts, h => by rw [readsS] at h; have := readsS_len r k ts h; simp; omega
  | x :: r, 0, ts, h => by
    rw [readsS] at h
    cases hx : readS x with
    | err e => rw [hx] at h; simp [TRs.cons] at h
    | ok t =>
      cases hr : readsS r 0 with
      | err e => rw [hx, hr] at h; simp [TRs.cons] at h
      | ok us =>
        rw [hx, hr] at h; simp [TRs.cons] at h; subst h
        have := readsS_len r 0 us hr
        simp; omega
section
variable {hp : List HObj} {lo : Nat} (q : Bool)
end
end Go.Proofs.YtkofimhnehkdoaaGreatDoor.Rf
end
section
set_option linter.unusedSimpArgs false
set_option linter.unusedVariables false
namespace Go.Proofs.YtkofimhnehkdoaaGreatDoor.Rf
section
variable {hp : List HObj} {lo : Nat}
theorem B0_fold (hp : List HObj) : hp ++ [.cells 110 [.nilp, .list [] .nil]] = BH hp [] := rfl
theorem print2_D {t : S} (hw : t.wf) (hb : t.text.length ≤ 140737488355328) (q : Bool) : callD G0 IP n_sexpr_Print [t.av] hp lo q = some (.ret (.str t.text) hp) := by
  rw [callD_eq]
  have e1 := write_D t hw (hp := hp) (lo := hp.length) (Nat.le_refl _) [] (by simpa using hb)
  have e2 := bstr_D (hp := hp) (lo := hp.length) (Nat.le_refl _) t.text hb
  rw [S.av_eq] at e1
  simp at e1
  rw [S.av_eq]
  simp [IP_sexpr_Print, i_sexpr_Print, B0_fold, e1, e2]
theorem print1_D (t : S) : t.wf → t.text.length ≤ 140737488355328 → ∀ (hp : List HObj) (lo : Nat) (q : Bool), callD G0 IP n_saturateref05_Print [t.av] hp lo q = some (.ret (.str t.text) hp) := by
  induction t using S.ind with | h t ih =>
  intro hw hb hp lo q
  rw [S.wf_eq] at hw
  obtain ⟨_, hl, _, hws⟩ := hw
  rw [callD_eq]
  have ht := S.text_eq t
  by_cases ha : t.atom = []
  · rw [if_pos ha] at ht
    rw [ht] at hb ⊢
    simp only [List.length_cons, List.length_append, List.length_nil] at hb
    have hloop := loop_iter (G := G0) (IP := IP) (lo := hp.length) (b := l_saturateref05_Print_0)
      (fun i => ⟨[(1, .box [.str t.atom, .list (S.avs t.list) (ownB t.o)]), (3, .str (40 :: S.texts true (t.list.take i))), (4, .int .i64 i)], hp⟩) t.list.length
      (r := (.exit 0, ⟨[(1, .box [.str t.atom, .list (S.avs t.list) (ownB t.o)]), (3, .str (40 :: S.texts true t.list)), (4, .int .i64 t.list.length), (14, .bool false)], hp⟩)) (fun i hi => by
        have hle := texts_le (b := true) t.list (i + 1)
        rw [texts_take_len hi] at hle
        simp only [List.length_append] at hle
        have hw := wrap_succ hi hl
        have hiI : (i : Int) < (t.list.length : Int) := by omega
        have e3 := ih t.list[i] (List.getElem_mem hi) (hws _ (List.getElem_mem hi)) (by omega) hp hp.length false
        rw [S.av_eq] at e3
        by_cases h0 : i = 0
        · subst h0
          rw [texts_take_len hi]
          have hb1 : t.list[0].text.length + 1 ≤ 9223372036854775807 := by omega
          have hb2 : 1 + t.list[0].text.length ≤ 9223372036854775807 := by omega
          simp [l_saturateref05_Print_0, hi, S.av_eq t.list[0], S.texts, e3, hb1, hb2, show IntKind.wrap .i64 1 = 1 from rfl]
        · have h0' : 0 < i := by omega
          have hle2 : ((if true && decide (i = 0) then ([] : List UInt8) else [32])).length = 1 := by simp [h0]
          rw [hle2] at hle
          rw [texts_take_len hi, ← hw]
          have hb1 : (S.texts true (List.take i t.list)).length + 1 + 1 ≤ 9223372036854775807 := by omega
          have hb2 : (S.texts true (List.take i t.list)).length + 1 + 1 + t.list[i].text.length ≤ 9223372036854775807 := by omega
          simp [l_saturateref05_Print_0, hi, hiI, h0, h0', S.av_eq t.list[i], e3, hb1, hb2])
      (by simp [l_saturateref05_Print_0]) (by simp)
    simp [S.texts, ha] at hloop
    have hb3 : (S.texts true t.list).length + 1 + 1 ≤ 9223372036854775807 := by omega
    rw [S.av_eq t]
    simp [IP_saturateref05_Print, i_saturateref05_Print, ha, hloop, hb3]
  · rw [if_neg ha] at ht
    rw [ht]
    rw [S.av_eq t]
    simp [IP_saturateref05_Print, i_saturateref05_Print, ha]
end
section
variable {lo : Nat}
end
end Go.Proofs.YtkofimhnehkdoaaGreatDoor.Rf
end
section
set_option linter.unusedSimpArgs false
set_option linter.unusedVariables false
namespace Go.Proofs.YtkofimhnehkdoaaGreatDoor.Rf
theorem skipK_fuel (s : List UInt8) : ∀ (n m i : Nat), s.length - i ≤ n → s.length - i ≤ m → skipK s n i = skipK s m i
  | 0, 0, i, _, _ => rfl
  | 0, m + 1, i, h, _ => by simp only [skipK]; rw [if_neg (by omega)]
  | n + 1, 0, i, _, h => by simp only [skipK]; rw [if_neg (by omega)]
  | n + 1, m + 1, i, h1, h2 => by
    simp only [skipK]
    split
    · rename_i hi
      split
      · exact skipK_fuel s n m _ (by omega) (by omega)
      · split
        · rename_i h59
          have hgt : i < comK s (s.length - i) i := by
            obtain ⟨k, hk⟩ : ∃ k, s.length - i = k + 1 := ⟨s.length - i - 1, by omega⟩
            rw [hk]; simp only [comK, h59]
            have := comK_le s k (i + 1)
            simp; omega
          exact skipK_fuel s n m _ (by omega) (by omega)
        · rfl
    · rfl
theorem skipN_end {s : List UInt8} {i : Nat} (h : s.length ≤ i) : skipN s i = i := by
  unfold skipN
  cases hs : s.length with
  | zero => rfl
  | succ n => simp only [skipK]; rw [if_neg (by omega)]
theorem skipN_step {s : List UInt8} {i : Nat} (h : i < s.length) : skipN s i = if blankC (byt s i) then skipN s (i + 1) else if byt s i = 59 then skipN s (comK s (s.length - i) i) else i := by
  have h1 : skipN s i = skipK s (s.length + 1) i := skipK_fuel s _ _ i (by omega) (by omega)
  rw [h1]
  simp only [skipK, if_pos h]
  rfl
theorem byt_app {pre post : List UInt8} {c : UInt8} : byt (pre ++ c :: post) pre.length = (c.toNat : Int) := by
  simp [byt]
def tokC (c : UInt8) : Bool := !blankC (c.toNat : Int) && !decide ((c.toNat : Int) = 59)
theorem skipN_tok {pre post : List UInt8} {c : UInt8} (h : tokC c = true) : skipN (pre ++ c :: post) pre.length = pre.length := by
  simp only [tokC, Bool.and_eq_true, Bool.not_eq_true', decide_eq_false_iff_not] at h
  rw [skipN_step (by simp), byt_app, h.1]
  simp [h.2]
def Gp (g : List UInt8) : Prop := ∀ pre post, skipN (pre ++ (g ++ post)) pre.length = skipN (pre ++ (g ++ post)) (pre.length + g.length)
theorem Gp.nil : Gp [] := fun pre post => by simp
theorem Gp.blank {c : UInt8} (h : blankC (c.toNat : Int) = true) : Gp [c] := fun pre post => by
  have : pre ++ ([c] ++ post) = pre ++ c :: post := by simp
  rw [this, skipN_step (by simp), byt_app, h]; simp
theorem Gp.app {a b : List UInt8} (ha : Gp a) (hb : Gp b) : Gp (a ++ b) := fun pre post => by
  have h1 := ha pre (b ++ post)
  have h2 := hb (pre ++ a) post
  simp only [List.append_assoc, List.length_append] at h1 h2 ⊢
  rw [h1, h2]; congr 1; omega
theorem atomK_all (s : List UInt8) : ∀ (a pre post : List UInt8) (k : Nat), s = pre ++ (a ++ post) → (∀ c, c ∈ a → plainC (c.toNat : Int) = true) → (∀ c r, post = c :: r → plainC (c.toNat : Int) = false) → a.length + post.length = k → atomK s k pre.length = pre.length + a.length
  | [], pre, post, k, hs, ha, hp, hk => by
    cases post with
    | nil => simp at hk; subst hk; rfl
    | cons c r =>
      obtain ⟨k', rfl⟩ : ∃ k', k = k' + 1 := ⟨k - 1, by simp at hk; omega⟩
      have hb : byt s pre.length = (c.toNat : Int) := by rw [hs]; exact byt_app
      simp only [atomK, hb, hp c r rfl]; simp
  | c :: a, pre, post, k, hs, ha, hp, hk => by
    obtain ⟨k', rfl⟩ : ∃ k', k = k' + 1 := ⟨k - 1, by simp at hk; omega⟩
    have hb : byt s pre.length = (c.toNat : Int) := by rw [hs]; exact byt_app
    have ih := atomK_all s a (pre ++ [c]) post k' (by rw [hs]; simp) (fun x hx => ha x (by simp [hx])) hp (by simp at hk; omega)
    simp only [atomK, hb, ha c (by simp), if_true]
    simp at ih
    rw [ih]; simp; omega
theorem plain_tok {c : UInt8} (h : plainC (c.toNat : Int) = true) : tokC c = true ∧ ¬ (c.toNat : Int) = 40 ∧ ¬ (c.toNat : Int) = 41 := by
  simp only [plainC, Bool.and_eq_true, decide_eq_true_eq, Bool.not_eq_true', decide_eq_false_iff_not] at h
  obtain ⟨h1, h2, h3, h4, h5⟩ := h
  refine ⟨?_, h3, h4⟩
  simp only [tokC, blankC, Bool.and_eq_true, Bool.not_eq_true', decide_eq_false_iff_not, Bool.or_eq_false_iff]
  exact ⟨⟨by omega, by omega, by omega, by omega⟩, h5⟩
mutual
inductive Enc : S → List UInt8 → Prop
  | atom {a : List UInt8} {o : Bool} : a ≠ [] → (∀ c, c ∈ a → plainC (c.toNat : Int) = true) → Enc (.mk a o []) a
  | list {o : Bool} {l : List S} {b : List UInt8} : EncL l b → Enc (.mk [] o l) (40 :: (b ++ [41]))
inductive EncL : List S → List UInt8 → Prop
  | nil {g : List UInt8} : Gp g → EncL [] g
  | cons {g e b : List UInt8} {t : S} {r : List S} : Gp g → Enc t e → EncL r b → (t.atom ≠ [] → ∀ c r, b = c :: r → plainC (c.toNat : Int) = false) → EncL (t :: r) (g ++ (e ++ b))
end
mutual
def S.depth : S → Nat
  | .mk a _ l => if a = [] then S.depths l + 1 else 1
def S.depths : List S → Nat
  | [] => 0
  | t :: r => max t.depth (S.depths r)
end
theorem S.depth_eq (t : S) : t.depth = if t.atom = [] then S.depths t.list + 1 else 1 := by cases t; rfl
theorem S.sames_app : ∀ (a b : List S) (x y : S), S.sames a b = true → x.same y = true → S.sames (a ++ [x]) (b ++ [y]) = true
  | [], [], x, y, _, h => by simp [S.sames, h]
  | t :: r, u :: s, x, y, h, k => by
    simp only [S.sames, Bool.and_eq_true] at h
    simp only [List.cons_append, S.sames, Bool.and_eq_true]
    exact ⟨h.1, S.sames_app r s x y h.2 k⟩
  | [], _ :: _, _, _, h, _ => by simp [S.sames] at h
  | _ :: _, [], _, _, h, _ => by simp [S.sames] at h
theorem Enc.head {t : S} {e : List UInt8} (h : Enc t e) : ∃ c r, e = c :: r ∧ tokC c = true ∧ ¬ (c.toNat : Int) = 41 := by
  cases h with
  | atom h1 h2 =>
    cases e with
    | nil => exact absurd rfl h1
    | cons c r => exact ⟨c, r, rfl, (plain_tok (h2 c (by simp))).1, (plain_tok (h2 c (by simp))).2.2⟩
  | list h1 => exact ⟨40, _, rfl, by decide, by decide⟩
theorem enc_both (n : Nat) : (∀ (t : S) (e pre post : List UInt8) (d : Nat), Enc t e → t.depth + d ≤ 64 → (t.atom ≠ [] → ∀ c r, post = c :: r → plainC (c.toNat : Int) = false) → 2 * (e.length + post.length) ≤ n →
      ∃ x, pOne (pre ++ (e ++ post)) n pre.length d = .ok x (pre.length + e.length) ∧ x.same t = true) ∧
    (∀ (l : List S) (b pre post : List UInt8) (d : Nat) (acc base : List S), EncL l b → S.depths l + d + 1 ≤ 64 → S.sames acc base = true → 2 * (b.length + (post.length + 1)) + 1 ≤ n →
      ∃ acc', pLoop (pre ++ (b ++ (41 :: post))) n (skipN (pre ++ (b ++ (41 :: post))) pre.length) d acc = .stop (pre.length + b.length) acc' ∧ S.sames acc' (base ++ l) = true) := by
  induction n with
  | zero =>
    refine ⟨fun t e pre post d he _ _ hn => ?_, fun l b pre post d acc base _ _ _ hn => absurd hn (by omega)⟩
    obtain ⟨c, r, rfl, _⟩ := he.head
    simp at hn
    omega
  | succ n ih =>
    obtain ⟨ih1, ih2⟩ := ih
    refine ⟨fun t e pre post d he hd hp hn => ?_, fun l b pre post d acc base hl hd hs hn => ?_⟩
    · cases he with
      | atom h1 h2 =>
        rename_i o
        cases hee : e with
        | nil => exact absurd hee h1
        | cons c r =>
          have hb : byt (pre ++ (e ++ post)) pre.length = (c.toNat : Int) := by rw [hee]; exact byt_app
          obtain ⟨k1, k2, k3⟩ := plain_tok (h2 c (by rw [hee]; simp))
          have hpl := h2 c (by rw [hee]; simp)
          have ha := atomK_all (pre ++ (e ++ post)) e pre post (e.length + post.length) rfl h2 (hp h1) rfl
          have hd' : ¬ d ≥ 64 := by
            have : (S.mk e o []).depth = 1 := by simp [S.depth, h1]
            rw [this] at hd; omega
          have hN : atomN (pre ++ (e ++ post)) pre.length = pre.length + e.length := by
            unfold atomN
            rw [show (pre ++ (e ++ post)).length - pre.length = e.length + post.length by simp]
            exact ha
          rw [← hee]
          refine ⟨.mk (((pre ++ (e ++ post)).take (pre.length + e.length)).drop pre.length) true [], ?_, ?_⟩
          · simp only [pOne, hb, if_neg k2, hpl, if_true, if_neg hd', hN]
          · simp [S.same, S.sames, List.take_append]
      | list h1 =>
        rename_i o l b
        have hb : byt (pre ++ ((40 :: (b ++ [41])) ++ post)) pre.length = ((40 : UInt8).toNat : Int) := byt_app
        have hd0 : S.depths l + 1 + d ≤ 64 := by rw [S.depth_eq] at hd; simpa [S.atom, S.list] using hd
        have hd' : ¬ d ≥ 64 := by omega
        have e0 : pre ++ ((40 :: (b ++ [41])) ++ post) = (pre ++ [40]) ++ (b ++ (41 :: post)) := by simp
        obtain ⟨acc', e1, e2⟩ := ih2 l b (pre ++ [40]) post d [] [] h1 (by omega) rfl (by simp at hn ⊢; omega)
        have hlen : (pre ++ [40]).length = pre.length + 1 := by simp
        rw [← e0, hlen] at e1
        have hne : ¬ pre.length + 1 + b.length = (pre ++ ((40 :: (b ++ [41])) ++ post)).length := by simp; omega
        refine ⟨.mk [] acc'.isEmpty acc', ?_, ?_⟩
        · simp only [pOne, hb, show (((40 : UInt8).toNat : Int) = 40) from rfl, if_true, if_neg hd', e1, if_neg hne]
          simp; omega
        · simp only [List.nil_append] at e2
          simp [S.same, e2]
    · cases hl with
      | nil hg =>
        have h1 := hg pre (41 :: post)
        have h2 := skipN_tok (pre := pre ++ b) (post := post) (c := 41) (by decide)
        rw [List.append_assoc, List.length_append] at h2
        rw [h1, h2]
        have hb : byt (pre ++ (b ++ 41 :: post)) (pre.length + b.length) = ((41 : UInt8).toNat : Int) := by
          have := byt_app (pre := pre ++ b) (post := post) (c := 41)
          rwa [List.append_assoc, List.length_append] at this
        refine ⟨acc, ?_, by simpa using hs⟩
        simp only [pLoop, hb]
        rw [if_pos (by simp), if_pos (show ((41 : UInt8).toNat : Int) = 41 from rfl)]
      | cons hg he hr hsep =>
        rename_i g e b t r
        obtain ⟨c, er, hce, k1, k2⟩ := he.head
        have e0 : pre ++ ((g ++ (e ++ b)) ++ (41 :: post)) = (pre ++ g) ++ (e ++ (b ++ (41 :: post))) := by simp
        have h1 := hg pre (e ++ (b ++ (41 :: post)))
        have e0' : pre ++ (g ++ (e ++ (b ++ (41 :: post)))) = (pre ++ g) ++ (e ++ (b ++ (41 :: post))) := by simp
        rw [e0'] at h1
        have h2 : skipN ((pre ++ g) ++ (e ++ (b ++ (41 :: post)))) (pre ++ g).length = (pre ++ g).length := by
          rw [hce]; exact skipN_tok k1
        rw [List.length_append] at h2
        rw [e0, h1, h2]
        have hb : byt ((pre ++ g) ++ (e ++ (b ++ (41 :: post)))) (pre.length + g.length) = (c.toNat : Int) := by
          rw [hce]
          have := byt_app (pre := pre ++ g) (post := er ++ (b ++ (41 :: post))) (c := c)
          rwa [List.length_append] at this
        simp only [S.depths] at hd
        obtain ⟨x, e1, e2⟩ := ih1 t e (pre ++ g) (b ++ (41 :: post)) (d + 1) he (by omega) (fun ha c r hc => by
          cases b with
          | nil => simp at hc; rw [← hc.1]; rfl
          | cons c' b' => simp at hc; rw [← hc.1]; exact hsep ha c' b' rfl) (by simp at hn ⊢; omega)
        rw [List.length_append] at e1
        have hce' : 1 ≤ e.length := by rw [hce]; simp
        obtain ⟨acc', e3, e4⟩ := ih2 r b ((pre ++ g) ++ e) post d (acc ++ [x]) (base ++ [t]) hr (by omega) (S.sames_app _ _ _ _ hs e2) (by simp at hn ⊢; omega)
        have e5 : ((pre ++ g) ++ e) ++ (b ++ (41 :: post)) = (pre ++ g) ++ (e ++ (b ++ (41 :: post))) := by simp
        rw [e5, List.length_append, List.length_append] at e3
        refine ⟨acc', ?_, by simpa using e4⟩
        simp only [pLoop, hb]
        rw [if_pos (by simp; omega), if_neg k2, e1]
        simp only
        rw [e3]; simp; omega
end Go.Proofs.YtkofimhnehkdoaaGreatDoor.Rf
end
section
set_option linter.unusedSimpArgs false
set_option linter.unusedVariables false
namespace Go.Proofs.YtkofimhnehkdoaaGreatDoor.Rf
def allPlain (a : List UInt8) : Bool := a.all fun c => plainC (c.toNat : Int)
mutual
def S.right : S → Bool
  | .mk a _ l => if a = [] then S.rights l else l.isEmpty && allPlain a
def S.rights : List S → Bool
  | [] => true
  | t :: r => t.right && S.rights r
end
mutual
def S.valid : S → Nat → Bool
  | .mk a _ l, d => decide (d < 64) && (if a = [] then S.valids l (d + 1) else allPlain a && l.isEmpty)
def S.valids : List S → Nat → Bool
  | [], _ => true
  | t :: r, d => t.valid d && S.valids r d
end
theorem S.right_eq (t : S) : t.right = if t.atom = [] then S.rights t.list else t.list.isEmpty && allPlain t.atom := by cases t; rfl
theorem S.valid_eq (t : S) (d : Nat) : t.valid d = (decide (d < 64) && (if t.atom = [] then S.valids t.list (d + 1) else allPlain t.atom && t.list.isEmpty)) := by cases t; rfl
theorem S.rights_iff : ∀ l : List S, S.rights l = true ↔ ∀ t, t ∈ l → t.right = true
  | [] => by simp [S.rights]
  | t :: r => by simp [S.rights, S.rights_iff r]
section
variable {hp : List HObj} {lo : Nat}
end
end Go.Proofs.YtkofimhnehkdoaaGreatDoor.Rf
end
section
set_option linter.unusedSimpArgs false
set_option linter.unusedVariables false
namespace Go.Proofs.YtkofimhnehkdoaaGreatDoor.Rf
section
variable {hp : List HObj} {lo : Nat}
end
end Go.Proofs.YtkofimhnehkdoaaGreatDoor.Rf
end
section
set_option linter.unusedSimpArgs false
set_option linter.unusedVariables false
namespace Go.Proofs.YtkofimhnehkdoaaGreatDoor.Rf
theorem top_enc (s : List UInt8) : ∀ (l : List S) (b pre : List UInt8) (acc base : List S) (st : List Nat) (n : Nat), EncL l b → (∀ t, t ∈ l → t.depth ≤ 64) → S.sames acc base = true → s = pre ++ b → b.length < n →
    ∃ acc' st', pTop s n (skipN s pre.length) acc st = .ok acc' st' ∧ S.sames acc' (base ++ l) = true
  | l, b, pre, acc, base, st, 0, _, _, _, _, hn => absurd hn (by omega)
  | l, b, pre, acc, base, st, n + 1, he, hd, hs, hsb, hn => by
    cases he with
    | nil hg =>
      have h1 := hg pre []
      simp only [List.append_nil] at h1
      rw [← hsb] at h1
      have h2 : skipN s (pre.length + b.length) = pre.length + b.length := skipN_end (by rw [hsb]; simp)
      refine ⟨acc, st, ?_, by simpa using hs⟩
      simp only [pTop]
      rw [h1, h2, if_neg (by rw [hsb]; simp)]
    | cons hg he hr hsep =>
      rename_i g e b t r
      obtain ⟨c, er, hce, k1, k2⟩ := he.head
      have e0 : s = (pre ++ g) ++ (e ++ b) := by rw [hsb]; simp
      have h1 := hg pre (e ++ b)
      rw [← hsb] at h1
      have h2 : skipN s (pre.length + g.length) = pre.length + g.length := by
        have := skipN_tok (pre := pre ++ g) (post := er ++ b) (c := c) k1
        rw [List.length_append] at this
        rwa [show (pre ++ g) ++ c :: (er ++ b) = s by rw [e0, hce]; simp] at this
      obtain ⟨x, e1, e2⟩ := (enc_both (2 * s.length)).1 t e (pre ++ g) b 0 he (by have := hd t (by simp); omega) hsep (by rw [e0]; simp; omega)
      rw [← e0, List.length_append] at e1
      obtain ⟨acc', st', e3, e4⟩ := top_enc s r b ((pre ++ g) ++ e) (acc ++ [x]) (base ++ [t]) (st ++ [pre.length + g.length]) n hr (fun u hu => hd u (by simp [hu])) (S.sames_app _ _ _ _ hs e2) (by rw [e0]; simp) (by rw [hce] at hn; simp at hn; omega)
      rw [List.length_append, List.length_append] at e3
      refine ⟨acc', st', ?_, by simpa using e4⟩
      simp only [pTop]
      rw [h1, h2, if_pos (by rw [e0, hce]; simp), e1]
      exact e3
theorem pAll_enc {l : List S} {b : List UInt8} (he : EncL l b) (hd : ∀ t, t ∈ l → t.depth ≤ 64) (hb : b.length ≤ 65536) : ∃ l' st, pAll b = .ok l' st ∧ S.sames l' l = true := by
  obtain ⟨l', st, h1, h2⟩ := top_enc b l b [] [] [] [] (b.length + 1) he hd rfl rfl (by omega)
  refine ⟨l', st, ?_, by simpa using h2⟩
  unfold pAll
  rw [if_neg (by omega)]
  exact h1
theorem sames_one {l : List S} {t : S} (h : S.sames l [t] = true) : ∃ x, l = [x] ∧ x.same t = true := by
  match l, h with
  | [x], h => exact ⟨x, rfl, by simpa [S.sames] using h⟩
  | [], h => simp [S.sames] at h
  | x :: y :: r, h => simp [S.sames] at h
theorem enc_text (t : S) : t.right = true → Enc t t.text := by
  induction t using S.ind with | h t ih =>
  intro hr
  have hl : ∀ (l : List S) (b : Bool), (∀ u, u ∈ l → Enc u u.text) → EncL l (S.texts b l) := by
    intro l
    induction l with
    | nil => intro b _; exact .nil Gp.nil
    | cons x r ihr =>
      intro b h
      refine .cons ?_ (h x (by simp)) (ihr false fun u hu => h u (by simp [hu])) ?_
      · cases b
        · exact Gp.blank (by decide)
        · exact Gp.nil
      · intro _ c r' hc
        cases r with
        | nil => simp [S.texts] at hc
        | cons y s => simp [S.texts] at hc; rw [← hc.1]; rfl
  cases t with
  | mk a o l =>
    simp only [S.list] at ih
    simp only [S.right] at hr
    by_cases ha : a = []
    · subst ha
      simp only [if_true] at hr
      have := hl l true fun u hu => ih u hu ((S.rights_iff l).1 hr u hu)
      simp only [S.text, if_true]
      exact .list this
    · rw [if_neg ha] at hr
      simp only [Bool.and_eq_true, List.isEmpty_iff] at hr
      obtain ⟨rfl, hp⟩ := hr
      simp only [S.text, if_neg ha]
      exact .atom ha fun c hc => by simp only [allPlain, List.all_eq_true] at hp; exact hp c hc
end Go.Proofs.YtkofimhnehkdoaaGreatDoor.Rf
end
section
set_option linter.unusedSimpArgs false
set_option linter.unusedVariables false
namespace Go.Proofs.YtkofimhnehkdoaaGreatDoor.Rf
def ownW (acc : List T) : Own := if acc.isEmpty then .nil else .own 1 0
@[simp] theorem ownW_cp (acc : List T) : (ownW acc).cp = ownB acc.isEmpty := by cases acc <;> rfl
@[simp] theorem ownW_app (acc : List T) (x : T) : ownW (acc ++ [x]) = .own 1 0 := by cases acc <;> rfl
theorem ownW_ok (acc : List T) : ownW acc = .nil ∨ ownW acc = .own 1 0 := by cases acc <;> simp [ownW]
abbrev frT (op v w : Int) (acc : List T) (l : List S) (o : Own) (i : Int) : Fr := [(2, boxZ), (3, .int .i64 op), (7, .box [.int .i64 op, .int .i64 w, .int .u64 v, .str [], .list (T.avs acc) (ownT acc)]), (8, .list (wds acc) (ownW acc)), (75, .list (S.avs l) o), (76, .int .i64 l.length), (77, .int .i64 i)]
def outT (op v w : Int) (hp : List HObj) (acc : List T) (l : List S) (o : Own) : TRs → Ex × St → Prop
  | .err c, r => ∃ fr, r = (.pan (.iface 78 (.agg [.int .i64 c])), ⟨fr, hp⟩)
  | .ok ts, r => r = (.exit 0, ⟨frT op v w (acc ++ ts) l o l.length ++ [(78, .bool false)], hp⟩)
theorem outT_cons (op v w : Int) (hp : List HObj) (acc : List T) (l : List S) (o : Own) (t : T) (s : TRs) (r : Ex × St) : outT op v w hp acc l o (TRs.cons (.ok t) s) r ↔ outT op v w hp (acc ++ [t]) l o s r := by
  cases s <;> simp [outT, TRs.cons]
section
variable {hp : List HObj} {lo : Nat} (q : Bool)
set_option maxHeartbeats 1000000 in
theorem readT_L (op v w : Int) (l : List S) (o : Own) (hl10 : l.length ≤ 10) : ∀ (r p : List S) (acc : List T), l = p ++ r → acc.length ≤ p.length →
    (∀ x, x ∈ r → ∀ (hp : List HObj) (lo : Nat), callD G0 IP n_termtext_read [x.av] hp lo false = some ((readS x).out hp)) →
    ∃ res, loopD G0 IP lo l_termtext_read_0 ⟨frT op v w acc l o p.length, hp⟩ = some res ∧ outT op v w hp acc l o (readsS r 0) res
  | [], p, acc, h, ha, _ => by
    rw [loopD_eq, loopBody]
    simp at h
    subst h
    simp [l_termtext_read_0, readsS, outT]
  | x :: r, p, acc, h, ha, ih => by
    rw [loopD_eq, loopBody]
    have hlen : l.length = p.length + (r.length + 1) := by rw [h]; simp
    have h1 : (p.length : Int) < (l.length : Int) := by omega
    have hl : p.length < l.length := by omega
    have h2 : l[p.length] = x := by simp [h]
    have hw : IntKind.wrap .i64 ((p.length : Int) + 1) = (p.length : Int) + 1 := wrap_small (by omega) (by omega)
    have e1 := ih x (by simp) hp lo
    rw [readsS]
    cases hx : readS x with
    | err c =>
      rw [hx] at e1
      simp only [TR.out] at e1
      rw [S.av_eq] at e1
      simp [l_termtext_read_0, hl, h1, h2, S.av_eq x, e1, TRs.cons, outT]
    | ok t =>
      rw [hx] at e1
      simp only [TR.out] at e1
      rw [S.av_eq, T.av_eq] at e1
      obtain ⟨res, e2, e3⟩ := readT_L op v w l o hl10 r (p ++ [x]) (acc ++ [t]) (by rw [h]; simp) (by simp; omega) (fun y hy => ih y (by simp [hy]))
      simp only [List.length_append, List.length_cons, List.length_nil, Nat.zero_add, Int.natCast_add, Int.natCast_one] at e2
      have hb1 : (acc.length + 1) * 64 ≤ 140737488355328 := by omega
      have hb2 : acc.length + 1 ≤ 9223372036854775807 := by omega
      have hb3 : (acc.length + 1) * 8 ≤ 140737488355328 := by omega
      rw [frT, wds_app, T.avs_app, ownT_app, ownW_app, show T.avs [t] = [.agg [.int .i64 t.op, .int .i64 t.width, .int .u64 t.val, .str t.name, .list (T.avs t.args) (ownB t.o)]] by simp [T.avs, T.av_eq]] at e2
      refine ⟨res, ?_, (outT_cons ..).2 e3⟩
      simp [l_termtext_read_0, hl, h1, h2, S.av_eq x, e1, hb1, hb2, hb3, ownT_ok, ownW_ok, hw]
      exact e2
theorem out_err (hp : List HObj) (c : Int) : (TR.err c).out hp = .pan (.iface 78 (.agg [.int .i64 c])) hp := rfl
theorem out_ok (hp : List HObj) (t : T) : (TR.ok t).out hp = .ret t.av hp := rfl
set_option maxHeartbeats 4000000 in
theorem readT_D (e : S) : e.sm → ∀ (hp : List HObj) (lo : Nat), callD G0 IP n_termtext_read [e.av] hp lo false = some ((readS e).out hp) := by
  induction e using S.ind with | h e ih =>
  intro hsm hp lo
  rw [S.sm_eq] at hsm
  obtain ⟨ha, hs⟩ := hsm
  rw [callD_eq, S.av_eq]
  cases e with | mk a o l =>
  simp only [S.atom, S.list, S.o] at *
  rw [readS]
  by_cases h0 : a = []
  · subst h0
    rw [if_neg (by simp)]
    cases l with
    | nil =>
      simp [IP_termtext_read, i_termtext_read, must_D, headR, out_err]
    | cons x r =>
      have hx : (x :: r).getD 0 S.z = x := rfl
      rw [hx]
      have e1 := fun (hp : List HObj) (lo : Nat) (q : Bool) => opOf_D (hp := hp) (lo := lo) q x.atom
      have hgt : (0 : Int) < (r.length : Int) + 1 := by omega
      cases hok : (ofE x.atom).2 with
      | false =>
        have hR : headR (x :: r) = false := by unfold headR; rw [hx, hok]; simp
        rw [if_pos hR]
        simp [IP_termtext_read, i_termtext_read, must_D, S.avs, S.av_eq x, e1, hok, hgt, out_err]
      | true =>
        have hop := ofE_ok hok
        have hbd := arE_bd (ofE x.atom).1
        have hnb := numsN_bd (ofE x.atom).1
        have hR : headR (x :: r) = (!decide (arE (ofE x.atom).1 = 0) && decide (((x :: r).length : Int) = 1 + numsN (ofE x.atom).1 + arE (ofE x.atom).1)) := by unfold headR; rw [hx, hok]; simp
        rw [hR]
        generalize (ofE x.atom).1 = op at *
        have hge := arE_ge hop
        by_cases k1 : arE op = 0
        · rw [if_pos (by simp [k1])]
          simp [IP_termtext_read, i_termtext_read, must_D, S.avs, S.av_eq x, e1, hok, hgt, out_err, opLeaf_D, k1]
        · have hw2 : IntKind.wrap .i64 ((numsN op : Int) + arE op) = (numsN op : Int) + arE op := wrap_small (by omega) (by omega)
          by_cases k3 : (r.length : Int) = (numsN op : Int) + arE op
          · rw [if_neg (by simp [k1]; omega)]
            have k3' : (numsN op : Int) + arE op = (r.length : Int) := k3.symm
            have hw3 : IntKind.wrap .i64 (r.length : Int) = (r.length : Int) := by rw [k3]; exact hw2
            have ihl : ∀ y, y ∈ x :: r → ∀ (hp : List HObj) (lo : Nat), callD G0 IP n_termtext_read [y.av] hp lo false = some ((readS y).out hp) := fun y hy => ih y hy (hs y hy)
            have tail : ∀ (w v : Int), 0 ≤ v → ∀ (ts : List T), ts.length ≤ 10 → ∀ (hp : List HObj) (lo : Nat) (q : Bool) (oo : Own), callD G0 IP n_opinfo_Width [.int .i64 op, .int .i64 w, .int .u64 v, .list (wds ts) oo] hp lo q = some (.ret (.tup [.int .i64 (widE op w v (ts.map T.width)).1, .int .i64 (widE op w v (ts.map T.width)).2]) hp) :=
              fun w v hv ts ht hp lo q oo => width_D q op w v hv (ts.map T.width) oo (by rw [List.length_map]; omega)
            have num : ∀ (y : S), y ∈ x :: r → ∀ (hp : List HObj) (lo : Nat) (m : Int) (o : Own), callD G0 IP n_termtext_number [.agg [.str y.atom, .list (S.avs y.list) o], .int .u64 m] hp lo false = some (TR1 hp .u64 (numR y.atom m)) :=
              fun y hy hp lo m o => number_D y.atom o (S.avs y.list) ((S.sm_eq y).1 (hs y hy)).1 m
            have hN : ∀ (hp : List HObj) (lo : Nat) (q : Bool), callD G0 IP n_termtext_numerals [.int .i64 op] hp lo q = some (.ret (.int .i64 (numsN op)) hp) := fun hp lo q => ttNumerals_D q op
            by_cases h21 : op = 21
            · have n2 : numsN op = 2 := by subst h21; rfl
              have a1 : arE op = 1 := by subst h21; rfl
              rw [n2, a1] at k3 k3'
              match r, k3 with
              | [y, z, u], _ =>
                simp only [n2] at hN
                have hA : ∀ (hp : List HObj) (lo : Nat) (q : Bool), callD G0 IP n_opinfo_Arity [.int .i64 op] hp lo q = some (.ret (.int .i64 1) hp) := fun hp lo q => by rw [arity_D, a1]
                have hw : IntKind.wrap .i64 3 = 3 := rfl
                have hw1 : IntKind.wrap .i64 1 = 1 := rfl
                have by1 := numR_bd y.atom 18446744073709551615 (by omega)
                have bz := numR_bd z.atom 64 (by omega)
                have wz : IntKind.wrap .i64 (numR z.atom 64).1 = (numR z.atom 64).1 := wrap_small (by omega) (by omega)
                have ey := num y (by simp)
                have ez := num z (by simp)
                have g1 : [x, y, z, u].getD 1 S.z = y := rfl
                have g2 : [x, y, z, u].getD 2 S.z = z := rfl
                have hnr : numsR op [x, y, z, u] = (if (numR y.atom 18446744073709551615).2 ≠ 0 then (0, 0, (numR y.atom 18446744073709551615).2) else if (numR z.atom 64).2 ≠ 0 then (0, 0, (numR z.atom 64).2) else ((numR y.atom 18446744073709551615).1, (numR z.atom 64).1, 0)) := by
                  unfold numsR; rw [if_pos h21, g1, g2]
                rw [hnr]
                by_cases m1 : (numR y.atom 18446744073709551615).2 = 0
                · by_cases m2 : (numR z.atom 64).2 = 0
                  · rw [if_neg (by simp [m1, m2])]
                    simp only [m1, m2]
                    obtain ⟨res, l1, l2⟩ := readT_L (hp := hp) (lo := hp.length) op (numR y.atom 18446744073709551615).1 (numR z.atom 64).1 [u] .no (by simp) [u] [] [] rfl (by simp) (fun x hx => ihl x (by simp at hx; simp [hx]))
                    have e9 : readsS [x, y, z, u] (1 + numsN op) = readsS [u] 0 := by rw [n2]; rfl
                    rw [e9]
                    simp [frT, S.avs, S.av_eq u, ownT, ownW, T.avs] at l1
                    cases hrs : readsS [u] 0 with
                    | err c =>
                      rw [hrs] at l2
                      obtain ⟨fr, rfl⟩ := l2
                      simp [IP_termtext_read, i_termtext_read, must_D, S.avs, S.av_eq x, S.av_eq y, S.av_eq z, S.av_eq u, e1, hok, hgt, opLeaf_D, hA, k1, hw, hN, ey, ez, TR1, hw1, wz, m1, m2, l1, out_err, nodeR]
                    | ok ts =>
                      rw [hrs] at l2
                      simp only [outT, List.nil_append] at l2
                      subst l2
                      have htl := tail (numR z.atom 64).1 (numR y.atom 18446744073709551615).1 by1.1 ts (by have := readsS_len [u] 0 ts hrs; simp at this; omega)
                      simp only [nodeR]
                      by_cases k6 : (widE op (numR z.atom 64).1 (numR y.atom 18446744073709551615).1 (ts.map T.width)).2 = 0
                      · rw [if_neg (by simp [k6])]
                        simp [IP_termtext_read, i_termtext_read, must_D, S.avs, S.av_eq x, S.av_eq y, S.av_eq z, S.av_eq u, e1, hok, hgt, opLeaf_D, hA, k1, hw, hN, ey, ez, TR1, hw1, wz, m1, m2, l1, htl, k6, failT_D, out_ok, T.av]
                      · rw [if_pos (by simp [k6])]
                        simp [IP_termtext_read, i_termtext_read, must_D, S.avs, S.av_eq x, S.av_eq y, S.av_eq z, S.av_eq u, e1, hok, hgt, opLeaf_D, hA, k1, hw, hN, ey, ez, TR1, hw1, wz, m1, m2, l1, htl, k6, failT_D, out_err]
                  · rw [if_pos (by simp [m1, m2])]
                    simp [IP_termtext_read, i_termtext_read, must_D, S.avs, S.av_eq x, S.av_eq y, S.av_eq z, S.av_eq u, e1, hok, hgt, opLeaf_D, hA, k1, hw, hN, ey, ez, TR1, hw1, m1, m2, out_err]
                · rw [if_pos (by simp [m1])]
                  simp [IP_termtext_read, i_termtext_read, must_D, S.avs, S.av_eq x, S.av_eq y, S.av_eq z, S.av_eq u, e1, hok, hgt, opLeaf_D, hA, k1, hw, hN, ey, ez, TR1, hw1, m1, out_err]
            · by_cases h22 : op = 22 ∨ op = 23
              · have n1 : numsN op = 1 := by simp [numsN, h21, h22]
                have a1 : arE op = 1 := by rcases h22 with rfl | rfl <;> rfl
                rw [n1, a1] at k3 k3'
                match r, k3 with
                | [y, u], _ =>
                  simp only [n1] at hN
                  have hA : ∀ (hp : List HObj) (lo : Nat) (q : Bool), callD G0 IP n_opinfo_Arity [.int .i64 op] hp lo q = some (.ret (.int .i64 1) hp) := fun hp lo q => by rw [arity_D, a1]
                  have hw : IntKind.wrap .i64 2 = 2 := rfl
                  have hw1 : IntKind.wrap .i64 0 = 0 := rfl
                  have bz := numR_bd y.atom 64 (by omega)
                  have wz : IntKind.wrap .i64 (numR y.atom 64).1 = (numR y.atom 64).1 := wrap_small (by omega) (by omega)
                  have ey := num y (by simp)
                  have g1 : [x, y, u].getD 1 S.z = y := rfl
                  have hnr : numsR op [x, y, u] = (if (numR y.atom 64).2 ≠ 0 then (0, 0, (numR y.atom 64).2) else (0, (numR y.atom 64).1, 0)) := by
                    unfold numsR; rw [if_neg h21, if_pos h22, g1]
                  rw [hnr]
                  by_cases m2 : (numR y.atom 64).2 = 0
                  · rw [if_neg (by simp [m2])]
                    simp only [m2]
                    obtain ⟨res, l1, l2⟩ := readT_L (hp := hp) (lo := hp.length) op 0 (numR y.atom 64).1 [u] .no (by simp) [u] [] [] rfl (by simp) (fun x hx => ihl x (by simp at hx; simp [hx]))
                    have e9 : readsS [x, y, u] (1 + numsN op) = readsS [u] 0 := by rw [n1]; rfl
                    rw [e9]
                    simp [frT, S.avs, S.av_eq u, ownT, ownW, T.avs] at l1
                    cases hrs : readsS [u] 0 with
                    | err c =>
                      rw [hrs] at l2
                      obtain ⟨fr, rfl⟩ := l2
                      simp [IP_termtext_read, i_termtext_read, must_D, S.avs, S.av_eq x, S.av_eq y, e1, hok, hgt, opLeaf_D, hA, k1, hN, ey, TR1, hw, hw1, wz, m2, S.av_eq u, l1, out_err, nodeR]
                    | ok ts =>
                      rw [hrs] at l2
                      simp only [outT, List.nil_append] at l2
                      subst l2
                      have htl := tail (numR y.atom 64).1 0 (by omega) ts (by have := readsS_len [u] 0 ts hrs; simp at this; omega)
                      simp only [nodeR]
                      by_cases k6 : (widE op (numR y.atom 64).1 0 (ts.map T.width)).2 = 0
                      · rw [if_neg (by simp [k6])]
                        simp [IP_termtext_read, i_termtext_read, must_D, S.avs, S.av_eq x, S.av_eq y, e1, hok, hgt, opLeaf_D, hA, k1, hN, ey, TR1, hw, hw1, wz, m2, S.av_eq u, l1, htl, k6, failT_D, out_ok, T.av]
                      · rw [if_pos (by simp [k6])]
                        simp [IP_termtext_read, i_termtext_read, must_D, S.avs, S.av_eq x, S.av_eq y, e1, hok, hgt, opLeaf_D, hA, k1, hN, ey, TR1, hw, hw1, wz, m2, S.av_eq u, l1, htl, k6, failT_D, out_err]
                  · rw [if_pos (by simp [m2])]
                    simp [IP_termtext_read, i_termtext_read, must_D, S.avs, S.av_eq x, S.av_eq y, e1, hok, hgt, opLeaf_D, hA, k1, hN, ey, TR1, hw, hw1, m2, S.av_eq u, out_err]
              · have n0 : numsN op = 0 := by simp [numsN, h21, h22]
                simp only [n0] at hN
                rw [n0] at k3 k3' hw2
                have ha : arE op = (r.length : Int) := by omega
                have hA : ∀ (hp : List HObj) (lo : Nat) (q : Bool), callD G0 IP n_opinfo_Arity [.int .i64 op] hp lo q = some (.ret (.int .i64 r.length) hp) := fun hp lo q => by rw [arity_D, ha]
                have htk : List.take r.length (S.avs r) = S.avs r := List.take_of_length_le (by simp)
                have hnr : numsR op (x :: r) = (0, 0, 0) := by
                  unfold numsR; rw [if_neg h21, if_neg h22]
                rw [hnr]
                rw [if_neg (by simp)]
                obtain ⟨res, l1, l2⟩ := readT_L (hp := hp) (lo := hp.length) op 0 0 r .no (by omega) r [] [] rfl (by simp) (fun x hx => ihl x (by simp [hx]))
                have e9 : readsS (x :: r) (1 + numsN op) = readsS r 0 := by rw [n0]; rfl
                rw [e9]
                simp [frT, ownT, ownW, T.avs] at l1
                cases hrs : readsS r 0 with
                | err c =>
                  rw [hrs] at l2
                  obtain ⟨fr, rfl⟩ := l2
                  simp [IP_termtext_read, i_termtext_read, must_D, S.avs, S.av_eq x, e1, hok, hgt, opLeaf_D, hA, k1, hN, hw3, htk, l1, out_err, nodeR]
                | ok ts =>
                  rw [hrs] at l2
                  simp only [outT, List.nil_append] at l2
                  subst l2
                  have htl := tail 0 0 (by omega) ts (by have := readsS_len r 0 ts hrs; omega)
                  simp only [nodeR]
                  by_cases k6 : (widE op 0 0 (ts.map T.width)).2 = 0
                  · rw [if_neg (by simp [k6])]
                    simp [IP_termtext_read, i_termtext_read, must_D, S.avs, S.av_eq x, e1, hok, hgt, opLeaf_D, hA, k1, hN, hw3, htk, l1, htl, k6, failT_D, out_ok, T.av]
                  · rw [if_pos (by simp [k6])]
                    simp [IP_termtext_read, i_termtext_read, must_D, S.avs, S.av_eq x, e1, hok, hgt, opLeaf_D, hA, k1, hN, hw3, htk, l1, htl, k6, failT_D, out_err]
          · rw [if_pos (by simp [k1]; omega)]
            simp [IP_termtext_read, i_termtext_read, must_D, S.avs, S.av_eq x, e1, hok, hgt, out_err, opLeaf_D, ttNumerals_D, arity_D, k1, hw2, k3]
  · rw [if_pos h0]
    have e1 := fun (hp : List HObj) (lo : Nat) => leafT_D (hp := hp) (lo := lo) a h0 ha
    cases hx : leafR a with
    | err c => simp [IP_termtext_read, i_termtext_read, h0, e1, hx, out_err]
    | ok t => simp [IP_termtext_read, i_termtext_read, h0, e1, hx, out_ok, T.av_eq t]
end
end Go.Proofs.YtkofimhnehkdoaaGreatDoor.Rf
end
section
set_option linter.unusedSimpArgs false
set_option linter.unusedVariables false
namespace Go.Proofs.YtkofimhnehkdoaaGreatDoor.Rf
abbrev zCells : List AV := [.int .i64 0, .int .i64 0, .int .u64 0, .str [], .list [] .nil]
theorem recvT_D (hp : List HObj) (a b c d f v : AV) (e : Int) (lo : Nat) (hlo : lo ≤ hp.length) : evalRecv G0 IP (callD G0 IP) (loopD G0 IP lo) lo n_termtext_Read_1 [.ptr hp.length 0, .ptr (hp.length + 1) 0]
    (hp ++ [.cells 0 [a, b, c, d, f], .cells 0 [v]]) (.iface 78 (.agg [.int .i64 e])) = some (hp ++ [.cells 0 zCells, .cells 0 [.int .i64 e]]) := by
  have h1 : lo ≤ hp.length + 1 := by omega
  simp [IP_termtext_Read_1, i_termtext_Read_1, hlo, h1, List.getElem?_append_right, List.set_append_right]
theorem recvT0_D (hp : List HObj) (a b c d f v : AV) (lo : Nat) : evalRecv G0 IP (callD G0 IP) (loopD G0 IP lo) lo n_termtext_Read_1 [.ptr hp.length 0, .ptr (hp.length + 1) 0]
    (hp ++ [.cells 0 [a, b, c, d, f], .cells 0 [v]]) .nili = some (hp ++ [.cells 0 [a, b, c, d, f], .cells 0 [v]]) := by
  simp [IP_termtext_Read_1, i_termtext_Read_1]
mutual
theorem T.av_closed (n : Nat) : ∀ t : T, AV.closed n t.av = true
  | .mk a b c d o l => by simp [T.av, AV.closed, AV.closedL, T.avs_closed n l]
theorem T.avs_closed (n : Nat) : ∀ l : List T, AV.closedL n (T.avs l) = true
  | [] => rfl
  | t :: r => by simp [T.avs, AV.closedL, T.av_closed n t, T.avs_closed n r]
end
section
variable {hp : List HObj} {lo : Nat} (q : Bool)
theorem read_D (e : S) (hsm : e.sm) (hp : List HObj) (lo : Nat) (q : Bool) : callD G0 IP n_termtext_Read [e.av] hp lo q = some ((readS e).tup hp) := by
  have e1 := readT_D e hsm
  rw [callD_eq]
  rw [S.av_eq] at e1 ⊢
  cases hx : readS e with
  | err c =>
    rw [hx] at e1
    simp only [out_err] at e1
    simp [-evalRecv, IP_termtext_Read, i_termtext_Read, e1, tup_err, recvT_D]
  | ok t =>
    rw [hx] at e1
    simp only [out_ok] at e1
    rw [T.av_eq] at e1
    simp [-evalRecv, IP_termtext_Read, i_termtext_Read, e1, tup_ok, T.av_eq t, recvT0_D, T.avs_closed]
end
end Go.Proofs.YtkofimhnehkdoaaGreatDoor.Rf
end
section
set_option linter.unusedSimpArgs false
set_option linter.unusedVariables false
namespace Go.Proofs.YtkofimhnehkdoaaGreatDoor.Rf
def sepB (r : List UInt8) : Prop := ∀ c q, r = c :: q → plainC (c.toNat : Int) = false
theorem sepB_cons {c : UInt8} {q : List UInt8} (h : plainC (c.toNat : Int) = false) : sepB (c :: q) := fun d p e => by cases e; exact h
theorem plain_split : ∀ (a a' r r' : List UInt8), (∀ c, c ∈ a → plainC (c.toNat : Int) = true) → (∀ c, c ∈ a' → plainC (c.toNat : Int) = true) → sepB r → sepB r' → a ++ r = a' ++ r' → a = a' ∧ r = r'
  | [], [], r, r', _, _, _, _, h => ⟨rfl, h⟩
  | [], c :: a', r, r', _, h2, h3, _, h => by
    have k1 := h3 c (a' ++ r') (by simpa using h)
    have k2 := h2 c (by simp)
    rw [k1] at k2; cases k2
  | c :: a, [], r, r', h1, _, _, h4, h => by
    have k1 := h4 c (a ++ r) (by simpa using h.symm)
    have k2 := h1 c (by simp)
    rw [k1] at k2; cases k2
  | c :: a, c' :: a', r, r', h1, h2, h3, h4, h => by
    simp only [List.cons_append, List.cons.injEq] at h
    obtain ⟨rfl, h⟩ := h
    obtain ⟨h5, h6⟩ := plain_split a a' r r' (fun c hc => h1 c (by simp [hc])) (fun c hc => h2 c (by simp [hc])) h3 h4 h
    exact ⟨by rw [h5], h6⟩
theorem right_atom {t : S} (h : t.right = true) (ha : t.atom ≠ []) : t.list = [] ∧ ∀ c, c ∈ t.atom → plainC (c.toNat : Int) = true := by
  rw [S.right_eq, if_neg ha] at h
  simp only [Bool.and_eq_true, List.isEmpty_iff, allPlain, List.all_eq_true] at h
  exact h
theorem text_head {t : S} (h : t.right = true) : ∃ c q, t.text = c :: q ∧ ¬ c = 41 ∧ (t.atom ≠ [] → plainC (c.toNat : Int) = true) ∧ (t.atom = [] → c = 40) := by
  rw [S.text_eq]
  by_cases ha : t.atom = []
  · rw [if_pos ha]; exact ⟨40, _, rfl, by decide, fun e => absurd ha e, fun _ => rfl⟩
  · rw [if_neg ha]
    have hp := (right_atom h ha).2
    cases hh : t.atom with
    | nil => exact absurd hh ha
    | cons c q =>
      have := hp c (by rw [hh]; simp)
      exact ⟨c, q, rfl, fun e => by subst e; revert this; decide, fun _ => this, fun e => by cases e⟩
theorem text_inj (x : S) : ∀ (y : S) (r r' : List UInt8), x.right = true → y.right = true → (x.atom ≠ [] → sepB r) → (y.atom ≠ [] → sepB r') → x.text ++ r = y.text ++ r' → x.same y = true ∧ r = r' := by
  induction x using S.ind with | h x ih =>
  intro y r r' hx hy hs hs' h
  have hl : ∀ (l l' : List S) (b : Bool) (r r' : List UInt8), (∀ u, u ∈ l → ∀ (y : S) (r r' : List UInt8), u.right = true → y.right = true → (u.atom ≠ [] → sepB r) → (y.atom ≠ [] → sepB r') → u.text ++ r = y.text ++ r' → u.same y = true ∧ r = r') →
      S.rights l = true → S.rights l' = true → S.texts b l ++ 41 :: r = S.texts b l' ++ 41 :: r' → S.sames l l' = true ∧ r = r' := by
    intro l
    induction l with
    | nil =>
      intro l' b r r' _ _ hr' h
      cases l' with
      | nil => simp [S.texts] at h; exact ⟨rfl, h⟩
      | cons y s =>
        exfalso
        simp only [S.rights, Bool.and_eq_true] at hr'
        obtain ⟨c, q, e1, e2, _⟩ := text_head hr'.1
        cases b
        · simp [S.texts] at h
        · simp [S.texts, e1] at h; exact e2 h.1.symm
    | cons x s ihs =>
      intro l' b r r' ih hr hr' h
      cases l' with
      | nil =>
        exfalso
        simp only [S.rights, Bool.and_eq_true] at hr
        obtain ⟨c, q, e1, e2, _⟩ := text_head hr.1
        cases b
        · simp [S.texts] at h
        · simp [S.texts, e1] at h; exact e2 h.1
      | cons y s' =>
        simp only [S.rights, Bool.and_eq_true] at hr hr'
        have h' : x.text ++ (S.texts false s ++ 41 :: r) = y.text ++ (S.texts false s' ++ 41 :: r') := by
          simp only [S.texts, List.append_assoc] at h
          exact List.append_cancel_left h
        have sp : ∀ (s : List S) (r : List UInt8), sepB (S.texts false s ++ 41 :: r) := fun s r => by
          cases s with
          | nil => exact sepB_cons (by decide)
          | cons z s => simp only [S.texts]; exact sepB_cons (by decide)
        obtain ⟨k1, k2⟩ := ih x (by simp) y _ _ hr.1 hr'.1 (fun _ => sp s r) (fun _ => sp s' r') h'
        obtain ⟨k3, k4⟩ := ihs s' false r r' (fun u hu => ih u (by simp [hu])) hr.2 hr'.2 k2
        exact ⟨by simp [S.sames, k1, k3], k4⟩
  by_cases ha : x.atom = []
  · by_cases hb : y.atom = []
    · rw [S.text_eq, S.text_eq, if_pos ha, if_pos hb] at h
      rw [S.right_eq, if_pos ha] at hx
      rw [S.right_eq, if_pos hb] at hy
      have h' : S.texts true x.list ++ 41 :: r = S.texts true y.list ++ 41 :: r' := by simpa using h
      obtain ⟨k1, k2⟩ := hl x.list y.list true r r' ih hx hy h'
      exact ⟨by rw [S.same_eq, k1, ha, hb]; rfl, k2⟩
    · exfalso
      obtain ⟨c, q, e1, _, e3, _⟩ := text_head hy
      obtain ⟨c', q', e1', _, _, e4⟩ := text_head hx
      rw [e1, e1'] at h
      have hc : c' = c := by simpa using (List.cons.inj (by simpa using h)).1
      have := e3 hb
      rw [← hc, e4 ha] at this
      revert this; decide
  · by_cases hb : y.atom = []
    · exfalso
      obtain ⟨c, q, e1, _, e3, _⟩ := text_head hx
      obtain ⟨c', q', e1', _, _, e4⟩ := text_head hy
      rw [e1, e1'] at h
      have hc : c = c' := by simpa using (List.cons.inj (by simpa using h)).1
      have := e3 ha
      rw [hc, e4 hb] at this
      revert this; decide
    · obtain ⟨l1, p1⟩ := right_atom hx ha
      obtain ⟨l2, p2⟩ := right_atom hy hb
      rw [S.text_eq, S.text_eq, if_neg ha, if_neg hb] at h
      obtain ⟨k1, k2⟩ := plain_split _ _ _ _ p1 p2 (hs ha) (hs' hb) h
      exact ⟨by rw [S.same_eq, k1, l1, l2]; simp [S.sames], k2⟩
theorem text_inj0 {x y : S} (hx : x.right = true) (hy : y.right = true) (h : x.text = y.text) : x.same y = true :=
  (text_inj x y [] [] hx hy (fun _ c q e => by cases e) (fun _ c q e => by cases e) (by rw [h])).1
theorem plain_name {n : Int} (h : nameC n = true) : plainC n = true := by
  simp only [nameC, lowC, Bool.or_eq_true, Bool.and_eq_true, decide_eq_true_eq] at h
  simp only [plainC, Bool.and_eq_true, decide_eq_true_eq, Bool.not_eq_true', decide_eq_false_iff_not]
  omega
theorem plain_dig {c : UInt8} (h : isDig c = true) : plainC (c.toNat : Int) = true := by
  simp only [isDig, Bool.and_eq_true, decide_eq_true_eq] at h
  simp only [plainC, Bool.and_eq_true, decide_eq_true_eq, Bool.not_eq_true', decide_eq_false_iff_not]
  omega
theorem decI_plain (n : Int) : ∀ c, c ∈ decI n → plainC (c.toNat : Int) = true := fun c hc => plain_dig (decI_digs n c hc)
theorem name_plain {n : List UInt8} (h : nameOk n = true) : ∀ c, c ∈ n → plainC (c.toNat : Int) = true := fun c hc => plain_name ((nameOk_mem h).2.2.2.2 c hc)
theorem aS_right {a : List UInt8} (h : a ≠ []) (hp : ∀ c, c ∈ a → plainC (c.toNat : Int) = true) : (aS a).right = true := by
  rw [aS, S.right, if_neg h]
  simp only [List.isEmpty_nil, Bool.true_and, allPlain, List.all_eq_true]
  exact hp
theorem nameE_plain {op : Int} (h : opOk op = true) : nameE op ≠ [] ∧ (nameE op).length ≤ 7 ∧ ∀ c, c ∈ nameE op → plainC (c.toNat : Int) = true := by
  rcases opOk_cases h with rfl | rfl | rfl | rfl | rfl | rfl | rfl | rfl | rfl | rfl | rfl | rfl | rfl | rfl | rfl | rfl | rfl | rfl | rfl | rfl | rfl | rfl | rfl | rfl | rfl | rfl
  all_goals decide +kernel
theorem S.rights_app : ∀ (a b : List S), S.rights (a ++ b) = (S.rights a && S.rights b)
  | [], b => rfl
  | t :: r, b => by simp [S.rights, S.rights_app r b, Bool.and_assoc]
theorem headW_right {op : Int} (h : opOk op = true) (w v : Int) : S.rights (headW op w v) = true := by
  have hn := nameE_plain h
  unfold headW
  simp only [S.rights, aS_right hn.1 hn.2.2, Bool.true_and, S.rights_app]
  have hd : ∀ n, (aS (decI n)).right = true := fun n => aS_right (dec_ne _) (decI_plain n)
  split <;> split <;> simp [S.rights, hd]
mutual
theorem write_right : ∀ t : T, (writeT t).right = true
  | .mk op w v n o as => by
    rw [writeT]
    by_cases h : notE (.mk op w v n o as) = false
    · rw [if_pos h]; rfl
    rw [if_neg h]
    have hN : notE (.mk op w v n o as) = true := by cases hh : notE (.mk op w v n o as) <;> simp_all
    rw [notE_mk] at hN
    simp only [Bool.and_eq_true, decide_eq_true_eq] at hN
    obtain ⟨n0, n1, n2, n3⟩ := hN
    have hop : opOk op = true := arE_ok (by omega)
    have h58 : plainC ((58 : UInt8).toNat : Int) = true := by decide
    have nm1 : (op = 1 ∨ op = 24 ∨ op = 25) → ∀ c, c ∈ n ++ 58 :: decI w → plainC (c.toNat : Int) = true := fun e c hc => by
      rw [if_pos e] at n3
      simp only [Bool.and_eq_true, decide_eq_true_eq] at n3
      simp only [List.mem_append, List.mem_cons] at hc
      rcases hc with hc | rfl | hc
      · exact name_plain n3.1 c hc
      · exact h58
      · exact decI_plain w c hc
    by_cases h1 : op = 1
    · rw [if_pos h1]; exact aS_right (by simp) (nm1 (.inl h1))
    rw [if_neg h1]
    by_cases h2 : op = 24
    · rw [if_pos h2]; refine aS_right (by simp) fun c hc => ?_
      rcases List.mem_cons.1 hc with rfl | hc
      · decide
      · exact nm1 (.inr (.inl h2)) c hc
    rw [if_neg h2]
    by_cases h3 : op = 25
    · rw [if_pos h3]; refine aS_right (by simp) fun c hc => ?_
      rcases List.mem_cons.1 hc with rfl | hc
      · decide
      · exact nm1 (.inr (.inr h3)) c hc
    rw [if_neg h3]
    by_cases h4 : op = 2
    · rw [if_pos h4]; refine aS_right (by simp) fun c hc => ?_
      simp only [List.mem_append, List.mem_cons] at hc
      rcases hc with hc | rfl | hc
      · exact decI_plain v c hc
      · exact h58
      · exact decI_plain w c hc
    rw [if_neg h4, S.right, if_pos rfl, S.rights_app, headW_right hop, writes_right as]; rfl
theorem writes_right : ∀ as : List T, S.rights (writeTs as) = true
  | [] => rfl
  | t :: r => by simp [writeTs, S.rights, write_right t, writes_right r]
end
mutual
def T.dep : T → Nat
  | .mk _ _ _ _ _ as => 1 + T.deps as
def T.deps : List T → Nat
  | [] => 0
  | t :: r => max t.dep (T.deps r)
end
theorem T.dep_pos (t : T) : 1 ≤ t.dep := by cases t; simp [T.dep]
theorem aS_depth {a : List UInt8} (h : a ≠ []) : (aS a).depth = 1 := by simp [aS, S.depth, h]
theorem S.depths_app2 : ∀ (a b : List S), S.depths (a ++ b) = max (S.depths a) (S.depths b)
  | [], b => by simp [S.depths]
  | t :: r, b => by simp [S.depths, S.depths_app2 r b]
theorem headW_depth {op : Int} (h : opOk op = true) (w v : Int) : S.depths (headW op w v) = 1 := by
  have hn := nameE_plain h
  have hd : ∀ n, (aS (decI n)).depth = 1 := fun n => aS_depth (dec_ne _)
  unfold headW
  simp only [S.depths, aS_depth hn.1, S.depths_app2]
  split <;> split <;> simp [S.depths, hd]
mutual
theorem write_depth : ∀ t : T, (writeT t).depth ≤ t.dep
  | .mk op w v n o as => by
    have hp := T.dep_pos (.mk op w v n o as)
    rw [writeT]
    by_cases h : notE (.mk op w v n o as) = false
    · rw [if_pos h, aS_depth (by simp)]; exact hp
    rw [if_neg h]
    have hN : notE (.mk op w v n o as) = true := by cases hh : notE (.mk op w v n o as) <;> simp_all
    rw [notE_mk] at hN
    simp only [Bool.and_eq_true, decide_eq_true_eq] at hN
    obtain ⟨n0, n1, n2, n3⟩ := hN
    have hop : opOk op = true := arE_ok (by omega)
    by_cases h1 : op = 1
    · rw [if_pos h1, aS_depth (by simp)]; exact hp
    rw [if_neg h1]
    by_cases h2 : op = 24
    · rw [if_pos h2, aS_depth (by simp)]; exact hp
    rw [if_neg h2]
    by_cases h3 : op = 25
    · rw [if_pos h3, aS_depth (by simp)]; exact hp
    rw [if_neg h3]
    by_cases h4 : op = 2
    · rw [if_pos h4, aS_depth (by simp)]; exact hp
    rw [if_neg h4, S.depth, if_pos rfl, S.depths_app2, headW_depth hop]
    have hne := arE_ne hop h1 h4 h2 h3
    have ih := writes_depth as
    have : 1 ≤ T.deps as := by
      cases as with
      | nil => simp at n2; exact absurd n2.symm hne
      | cons t r => have := T.dep_pos t; simp only [T.deps]; omega
    simp only [T.dep]; omega
theorem writes_depth : ∀ as : List T, S.depths (writeTs as) ≤ T.deps as
  | [] => by simp [writeTs, S.depths, T.deps]
  | t :: r => by
    have a := write_depth t
    have b := writes_depth r
    simp only [writeTs, S.depths, T.deps]; omega
end
theorem decI_len {n : Int} (h : n < 18446744073709551616) : (decI n).length ≤ 20 := dec_len20 (by omega)
theorem aS_text (a : List UInt8) (h : a ≠ []) : (aS a).text = a := by simp [aS, S.text, h]
theorem texts_app2 : ∀ (a b : List S), a ≠ [] → S.texts true (a ++ b) = S.texts true a ++ S.texts false b := by
  have h0 : ∀ (a b : List S), S.texts false (a ++ b) = S.texts false a ++ S.texts false b := by
    intro a
    induction a with
    | nil => intro b; rfl
    | cons x r ih => intro b; simp [S.texts, ih b]
  intro a b h
  cases a with
  | nil => exact absurd rfl h
  | cons x r => simp [S.texts, h0 r b]
theorem headW_len {op w v : Int} (h : opOk op = true) (hw : w < 18446744073709551616) (hv : v < 18446744073709551616) : (S.texts true (headW op w v)).length ≤ 50 := by
  have hn := nameE_plain h
  have l1 := decI_len hw
  have l2 := decI_len hv
  have t1 := aS_text (decI w) (dec_ne _)
  have t2 := aS_text (decI v) (dec_ne _)
  unfold headW
  simp only [S.texts, aS_text _ hn.1]
  by_cases h1 : op = 21
  · simp [h1, S.texts, t1, t2]; rw [h1] at hn; omega
  · by_cases h2 : op = 22 ∨ op = 23
    · simp [h1, h2, S.texts, t1]; omega
    · simp [h1, h2, S.texts]; omega
mutual
theorem write_len : ∀ t : T, t.wf → (writeT t).text.length + 1 ≤ 64 * t.size
  | .mk op w v n o as, hw => by
    simp only [T.wf] at hw
    obtain ⟨_, w2, w3, _, _, _, w7⟩ := hw
    have wv : 0 ≤ v ∧ v < 18446744073709551616 := by simp [Lit.wf, IntKind.min, IntKind.max, IntKind.signed, IntKind.bits] at w3; omega
    have ih := writes_len as w7
    rw [writeT, T.size]
    by_cases h : notE (.mk op w v n o as) = false
    · rw [if_pos h, aS_text _ (by simp)]; simp; omega
    rw [if_neg h]
    have hN : notE (.mk op w v n o as) = true := by cases hh : notE (.mk op w v n o as) <;> simp_all
    rw [notE_mk] at hN
    simp only [Bool.and_eq_true, decide_eq_true_eq] at hN
    obtain ⟨n0, n1, n2, n3⟩ := hN
    have hop : opOk op = true := arE_ok (by omega)
    have l1 := decI_len (n := w) (by omega)
    have l2 := decI_len wv.2
    have nl : (op = 1 ∨ op = 24 ∨ op = 25) → n.length ≤ 16 := fun e => by
      rw [if_pos e] at n3
      simp only [Bool.and_eq_true, decide_eq_true_eq] at n3
      exact (nameOk_mem n3.1).2.1
    by_cases h1 : op = 1
    · have := nl (.inl h1)
      rw [if_pos h1, aS_text _ (by simp)]; simp; omega
    rw [if_neg h1]
    by_cases h2 : op = 24
    · have := nl (.inr (.inl h2))
      rw [if_pos h2, aS_text _ (by simp)]; simp; omega
    rw [if_neg h2]
    by_cases h3 : op = 25
    · have := nl (.inr (.inr h3))
      rw [if_pos h3, aS_text _ (by simp)]; simp; omega
    rw [if_neg h3]
    by_cases h4 : op = 2
    · rw [if_pos h4, aS_text _ (by simp)]; simp; omega
    rw [if_neg h4, S.text, if_pos rfl, texts_app2 _ _ (by simp [headW])]
    have l3 := headW_len (w := w) hop (by omega) wv.2
    simp; omega
theorem writes_len : ∀ as : List T, T.wfs as → (S.texts false (writeTs as)).length ≤ 64 * T.sizes as
  | [], _ => by simp [writeTs, S.texts, T.sizes]
  | t :: r, hw => by
    simp only [T.wfs] at hw
    have a := write_len t hw.1
    have b := writes_len r hw.2
    simp only [writeTs, S.texts, T.sizes, List.length_append]
    simp; omega
end
mutual
theorem write_wf : ∀ t : T, t.wf → (writeT t).wf
  | .mk op w v n o as, hw => by
    simp only [T.wf] at hw
    obtain ⟨_, w2, w3, _, wl, _, w7⟩ := hw
    have wv : 0 ≤ v ∧ v < 18446744073709551616 := by simp [Lit.wf, IntKind.min, IntKind.max, IntKind.signed, IntKind.bits] at w3; omega
    have ih := writes_wf as w7
    have hA : ∀ {a : List UInt8}, a.length ≤ 1000 → (aS a).wf := fun h => by simp only [aS, S.wf, S.wfs]; exact ⟨by omega, by simp, by simp, trivial⟩
    rw [writeT]
    by_cases h : notE (.mk op w v n o as) = false
    · rw [if_pos h]; exact hA (by simp)
    rw [if_neg h]
    have hN : notE (.mk op w v n o as) = true := by cases hh : notE (.mk op w v n o as) <;> simp_all
    rw [notE_mk] at hN
    simp only [Bool.and_eq_true, decide_eq_true_eq] at hN
    obtain ⟨n0, n1, n2, n3⟩ := hN
    have hop : opOk op = true := arE_ok (by omega)
    have l1 := decI_len (n := w) (by omega)
    have l2 := decI_len wv.2
    have nl : (op = 1 ∨ op = 24 ∨ op = 25) → n.length ≤ 16 := fun e => by
      rw [if_pos e] at n3
      simp only [Bool.and_eq_true, decide_eq_true_eq] at n3
      exact (nameOk_mem n3.1).2.1
    by_cases h1 : op = 1
    · have := nl (.inl h1)
      rw [if_pos h1]; exact hA (by simp; omega)
    rw [if_neg h1]
    by_cases h2 : op = 24
    · have := nl (.inr (.inl h2))
      rw [if_pos h2]; exact hA (by simp; omega)
    rw [if_neg h2]
    by_cases h3 : op = 25
    · have := nl (.inr (.inr h3))
      rw [if_pos h3]; exact hA (by simp; omega)
    rw [if_neg h3]
    by_cases h4 : op = 2
    · rw [if_pos h4]; exact hA (by simp; omega)
    rw [if_neg h4]
    have hn := nameE_plain hop
    have k1 := hA (a := nameE op) (by omega)
    have k2 := hA (a := decI v) (by omega)
    have k3 := hA (a := decI w) (by omega)
    have hl : (headW op w v).length ≤ 3 := by unfold headW; split <;> split <;> simp
    have i6 : arE op ≤ 3 := by
      unfold arE; split
      · omega
      · split
        · omega
        · split
          · omega
          · split <;> omega
    simp only [S.wf]
    refine ⟨by simp, by rw [List.length_append, writeTs_len]; omega, by simp, ?_⟩
    rw [S.wfs_iff]
    intro t ht
    rcases List.mem_append.1 ht with ht | ht
    · have : t = aS (nameE op) ∨ t = aS (decI v) ∨ t = aS (decI w) := by
        unfold headW at ht
        rcases List.mem_cons.1 ht with e | ht
        · exact .inl e
        · rcases List.mem_append.1 ht with ht | ht
          · split at ht
            · simp at ht; exact .inr (.inl ht)
            · simp at ht
          · split at ht
            · simp at ht; exact .inr (.inr ht)
            · simp at ht
      rcases this with rfl | rfl | rfl
      · exact k1
      · exact k2
      · exact k3
    · exact (S.wfs_iff _).1 ih t ht
theorem writes_wf : ∀ as : List T, T.wfs as → S.wfs (writeTs as)
  | [], _ => trivial
  | t :: r, hw => by
    simp only [T.wfs] at hw
    exact ⟨write_wf t hw.1, writes_wf r hw.2⟩
end
mutual
theorem T.norm_write : ∀ t : T, writeT t.norm = writeT t
  | .mk op w v n o as => by
    have e : notE (.mk op w v n as.isEmpty (T.norms as)) = notE (.mk op w v n o as) := by simp [notE_mk, T.norms_len]
    rw [T.norm, writeT, writeT, e, T.norms_write as]
theorem T.norms_write : ∀ as : List T, writeTs (T.norms as) = writeTs as
  | [] => rfl
  | t :: r => by simp only [T.norms, writeTs, T.norm_write t, T.norms_write r]
end
mutual
theorem T.same_norm : ∀ (t u : T), t.same u = true → t.norm = u.norm
  | .mk op w v n o as, .mk op' w' v' n' o' as', h => by
    simp only [T.same, Bool.and_eq_true, beq_iff_eq] at h
    obtain ⟨rfl, rfl, rfl, rfl, h⟩ := h
    have := T.sames_norms as as' h
    have e : as.isEmpty = as'.isEmpty := by rw [← T.norms_isEmpty as, ← T.norms_isEmpty as', this]
    rw [T.norm, T.norm, this, e]
theorem T.sames_norms : ∀ (as bs : List T), T.sames as bs = true → T.norms as = T.norms bs
  | [], [], _ => rfl
  | t :: r, u :: s, h => by
    simp only [T.sames, Bool.and_eq_true] at h
    simp only [T.norms, T.same_norm t u h.1, T.sames_norms r s h.2]
  | [], _ :: _, h => by simp [T.sames] at h
  | _ :: _, [], h => by simp [T.sames] at h
end
mutual
theorem T.norm_eq_same : ∀ (t u : T), t.norm = u.norm → t.same u = true
  | .mk op w v n o as, .mk op' w' v' n' o' as', h => by
    simp only [T.norm, T.mk.injEq] at h
    obtain ⟨rfl, rfl, rfl, rfl, _, h⟩ := h
    simp [T.same, T.norms_eq_sames as as' h]
theorem T.norms_eq_sames : ∀ (as bs : List T), T.norms as = T.norms bs → T.sames as bs = true
  | [], [], _ => rfl
  | t :: r, u :: s, h => by
    simp only [T.norms, List.cons.injEq] at h
    simp [T.sames, T.norm_eq_same t u h.1, T.norms_eq_sames r s h.2]
  | [], _ :: _, h => by simp [T.norms] at h
  | _ :: _, [], h => by simp [T.norms] at h
end
theorem text_same {t u : T} (ht : t.wf) (hu : u.wf) (vt : t.valid = true) (vu : u.valid = true) : decide ((writeT t).text = (writeT u).text) = t.same u := by
  cases h : t.same u with
  | true =>
    have := T.same_norm t u h
    rw [← T.norm_write t, this, T.norm_write u]; simp
  | false =>
    simp only [decide_eq_false_iff_not]
    intro e
    have hs := text_inj0 (write_right t) (write_right u) e
    have hr := readS_same _ _ hs
    rw [read_write t ht vt, read_write u hu vu] at hr
    have := T.norm_eq_same t u (by injection hr)
    rw [h] at this; cases this
theorem parse_text2 {t : S} (hr : t.right = true) (hd : t.depth ≤ 64) (hl : t.text.length ≤ 65536) : ∃ x st, pAll t.text = .ok [x] st ∧ x.same t = true := by
  have he : EncL [t] ([] ++ (t.text ++ [])) := .cons Gp.nil (enc_text t hr) (.nil Gp.nil) fun _ c r h => by simp at h
  simp only [List.nil_append, List.append_nil] at he
  obtain ⟨l', st, h1, h2⟩ := pAll_enc he (fun u hu => by simp at hu; subst hu; exact hd) hl
  obtain ⟨x, rfl, h3⟩ := sames_one h2
  exact ⟨x, st, h1, h3⟩
end Go.Proofs.YtkofimhnehkdoaaGreatDoor.Rf
end
section
set_option linter.unusedSimpArgs false
set_option linter.unusedVariables false
namespace Go.Proofs.YtkofimhnehkdoaaGreatDoor.Rf
theorem ownB_false : ownB false = .no := rfl
theorem S.avs_cons (x : S) (l : List S) : S.avs (x :: l) = x.av :: S.avs l := rfl
theorem aS_av (a : List UInt8) : (aS a).av = .agg [.str a, .list [] .nil] := rfl
abbrev boxS : AV := .box [.str [], .list [] .nil]
section
variable {hp : List HObj} {lo : Nat}
set_option maxHeartbeats 1000000 in
theorem writeT_L (as : List T) (o : Own) (hl10 : as.length ≤ 10) : ∀ (r p : List T) (acc : List S), as = p ++ r → acc.length ≤ p.length + 10 →
    (∀ x, x ∈ r → ∀ (hp : List HObj) (lo : Nat) (q : Bool), callD G0 IP n_termtext_Write [x.av] hp lo q = some (.ret (writeT x).av hp)) →
    loopD G0 IP lo l_termtext_Write_0 ⟨[(2, boxS), (4, .list (S.avs acc) (.own 2 0)), (76, .list (T.avs as) o), (77, .int .i64 as.length), (78, .int .i64 p.length)], hp⟩ =
      some (.exit 1, ⟨[(2, boxS), (4, .list (S.avs (acc ++ writeTs r)) (.own 2 0)), (76, .list (T.avs as) o), (77, .int .i64 as.length), (78, .int .i64 as.length), (79, .bool false)], hp⟩)
  | [], p, acc, h, ha, _ => by
    rw [loopD_eq, loopBody]
    simp at h
    subst h
    simp [l_termtext_Write_0, writeTs]
  | x :: r, p, acc, h, ha, ih => by
    rw [loopD_eq, loopBody]
    have hlen : as.length = p.length + (r.length + 1) := by rw [h]; simp
    have h1 : (p.length : Int) < (as.length : Int) := by omega
    have hl : p.length < as.length := by omega
    have h2 : as[p.length] = x := by simp [h]
    have hw : IntKind.wrap .i64 ((p.length : Int) + 1) = (p.length : Int) + 1 := wrap_small (by omega) (by omega)
    have e1 := ih x (by simp) hp lo false
    rw [T.av_eq, S.av_eq] at e1
    have e2 := writeT_L as o hl10 r (p ++ [x]) (acc ++ [writeT x]) (by rw [h]; simp) (by simp; omega) (fun y hy => ih y (by simp [hy]))
    simp only [List.length_append, List.length_cons, List.length_nil, Nat.zero_add, Int.natCast_add, Int.natCast_one] at e2
    have hb1 : (acc.length + 1) * 40 ≤ 140737488355328 := by omega
    have hb2 : acc.length + 1 ≤ 9223372036854775807 := by omega
    rw [S.avs_app, show S.avs [writeT x] = [.agg [.str (writeT x).atom, .list (S.avs (writeT x).list) (ownB (writeT x).o)]] by simp [S.avs, S.av_eq]] at e2
    simp [l_termtext_Write_0, hl, h1, h2, T.av_eq x, e1, hb1, hb2, hw]
    refine Eq.trans e2 ?_
    simp [writeTs]
set_option maxHeartbeats 4000000 in
theorem writeT_D (t : T) : t.wf → ∀ (hp : List HObj) (lo : Nat) (q : Bool), callD G0 IP n_termtext_Write [t.av] hp lo q = some (.ret (writeT t).av hp) := by
  induction t using T.ind with | h t ih =>
  intro hw hp lo q
  have hwf := (T.wf_eq t).1 hw
  have en := notable_D t hw
  rw [callD_eq]
  cases t with | mk op w v n o as =>
  simp only [T.op, T.width, T.val, T.name, T.o, T.args] at hwf ih
  rw [T.av_eq] at en ⊢
  simp only [T.op, T.width, T.val, T.name, T.o, T.args] at en ⊢
  rw [writeT]
  cases hN : notE (.mk op w v n o as) with
  | false =>
    rw [hN] at en
    rw [if_pos rfl]
    simp [IP_termtext_Write, i_termtext_Write, en, atom_D, aS_av]
  | true =>
    rw [hN] at en
    rw [if_neg (by simp)]
    have hN2 := hN
    rw [notE_mk] at hN2
    simp only [Bool.and_eq_true, decide_eq_true_eq] at hN2
    obtain ⟨n0, n1, n2, n3⟩ := hN2
    have hop : opOk op = true := arE_ok (by omega)
    have eI := intT_D w n0 n1
    have hv : 0 ≤ v ∧ v < 18446744073709551616 := by
      have := hwf.2.2.1
      simp [Lit.wf, IntKind.min, IntKind.max, IntKind.signed, IntKind.bits] at this; omega
    have eD := decT_D v hv.1 hv.2
    have lI := decI_len (n := w) (by omega)
    have lD := decI_len hv.2
    have nl : (op = 1 ∨ op = 24 ∨ op = 25) → n.length ≤ 16 := fun e => by
      rw [if_pos e] at n3
      simp only [Bool.and_eq_true, decide_eq_true_eq] at n3
      exact (nameOk_mem n3.1).2.1
    generalize hdi : decI w = dw at *
    generalize hdv : decI v = dv at *
    by_cases k1 : op = 1
    · subst k1
      have := nl (by simp)
      have b1 : n.length + 1 ≤ 9223372036854775807 := by omega
      have b2 : n.length + 1 + dw.length ≤ 9223372036854775807 := by omega
      rw [if_pos rfl]
      simp [IP_termtext_Write, i_termtext_Write, en, atom_D, aS_av, eI, b1, b2]
    by_cases k2 : op = 24
    · subst k2
      have := nl (by simp)
      have b1 : 1 + n.length ≤ 9223372036854775807 := by omega
      have b2 : n.length + 1 + 1 ≤ 9223372036854775807 := by omega
      have b3 : n.length + 1 + 1 + dw.length ≤ 9223372036854775807 := by omega
      rw [if_neg (by simp), if_pos rfl]
      simp [IP_termtext_Write, i_termtext_Write, en, atom_D, aS_av, eI, b1, b2, b3]
    by_cases k3 : op = 25
    · subst k3
      have := nl (by simp)
      have b1 : 1 + n.length ≤ 9223372036854775807 := by omega
      have b2 : n.length + 1 + 1 ≤ 9223372036854775807 := by omega
      have b3 : n.length + 1 + 1 + dw.length ≤ 9223372036854775807 := by omega
      rw [if_neg (by simp), if_neg (by simp), if_pos rfl]
      simp [IP_termtext_Write, i_termtext_Write, en, atom_D, aS_av, eI, b1, b2, b3]
    by_cases k4 : op = 2
    · subst k4
      have b1 : dv.length + 1 ≤ 9223372036854775807 := by omega
      have b2 : dv.length + 1 + dw.length ≤ 9223372036854775807 := by omega
      rw [if_neg (by simp), if_neg (by simp), if_neg (by simp), if_pos rfl]
      simp [IP_termtext_Write, i_termtext_Write, en, atom_D, aS_av, eI, eD, b1, b2]
    rw [if_neg k1, if_neg k2, if_neg k3, if_neg k4]
    have hal : as.length ≤ 10 := by have := arE_bd op; omega
    have eN := fun (hp : List HObj) (lo : Nat) (q : Bool) => opName_D (hp := hp) (lo := lo) q op
    have eP := fun (hp : List HObj) (lo : Nat) (q : Bool) => ttNumerals_D (hp := hp) (lo := lo) q op
    have el := fun (acc : List S) (ha : acc.length ≤ 10) (o : Own) => writeT_L (hp := hp) (lo := hp.length) as o hal as [] acc rfl (by simpa using ha) (fun x hx => ih x hx (hwf.2.2.2.2.2.2 x hx))
    by_cases k5 : op = 21
    · subst k5
      have e1 := el [aS (nameE 21), aS dv, aS dw] (by simp)
      simp [S.avs_cons, aS_av] at e1
      have h2 : (numsN 21 : Int) = 2 := rfl
      simp [IP_termtext_Write, i_termtext_Write, en, atom_D, eI, eD, eN, eP, h2, e1, headW, hdi, hdv, S.av, S.avs_app, S.avs_cons, aS_av, ownB_false, S.avs_closed]
    by_cases k6 : op = 22 ∨ op = 23
    · have hn : numsN op = 1 := by simp [numsN, k5, k6]
      have e1 := el [aS (nameE op), aS dw] (by simp)
      simp [S.avs_cons, aS_av] at e1
      simp [IP_termtext_Write, i_termtext_Write, en, atom_D, eI, eD, eN, eP, hn, k1, k2, k3, k4, k5, k6, e1, headW, hdi, hdv, S.av, S.avs_app, S.avs_cons, aS_av, ownB_false, S.avs_closed]
    · have hn : numsN op = 0 := by simp [numsN, k5, k6]
      have e1 := el [aS (nameE op)] (by simp)
      simp [S.avs_cons, aS_av] at e1
      simp [IP_termtext_Write, i_termtext_Write, en, atom_D, eI, eD, eN, eP, hn, k1, k2, k3, k4, k5, k6, e1, headW, hdi, hdv, S.av, S.avs_app, S.avs_cons, aS_av, ownB_false, S.avs_closed]
end
end Go.Proofs.YtkofimhnehkdoaaGreatDoor.Rf
end
section
set_option linter.unusedSimpArgs false
set_option linter.unusedVariables false
namespace Go.Proofs.YtkofimhnehkdoaaGreatDoor.Rf
section
variable {hp : List HObj} {lo : Nat}
set_option maxHeartbeats 1000000 in
theorem write7_L (t : T) (hl10 : t.args.length ≤ 10) : ∀ (r p : List T) (acc : List S), t.args = p ++ r → acc.length ≤ p.length + 10 →
    (∀ x, x ∈ r → ∀ (hp : List HObj) (lo : Nat) (q : Bool), callD G0 IP n_saturateref07_Write [x.av] hp lo q = some (.ret (writeT x).av hp)) →
    loopD G0 IP lo l_saturateref07_Write_0 ⟨[(1, .box t.cells), (2, boxS), (4, .list (S.avs acc) (.own 2 0)), (5, .int .i64 p.length)], hp⟩ =
      some (.exit 1, ⟨[(1, .box t.cells), (2, boxS), (4, .list (S.avs (acc ++ writeTs r)) (.own 2 0)), (5, .int .i64 t.args.length), (77, .bool false)], hp⟩)
  | [], p, acc, h, ha, _ => by
    rw [loopD_eq, loopBody]
    simp at h
    simp [l_saturateref07_Write_0, writeTs, h]
  | x :: r, p, acc, h, ha, ih => by
    rw [loopD_eq, loopBody]
    have hlen : t.args.length = p.length + (r.length + 1) := by rw [h]; simp
    have h1 : (p.length : Int) < (t.args.length : Int) := by omega
    have hl : p.length < t.args.length := by omega
    have h2 : t.args[p.length] = x := by simp [h]
    have hw : IntKind.wrap .i64 ((p.length : Int) + 1) = (p.length : Int) + 1 := wrap_small (by omega) (by omega)
    have e1 := ih x (by simp) hp lo false
    rw [T.av_eq, S.av_eq] at e1
    have e2 := write7_L t hl10 r (p ++ [x]) (acc ++ [writeT x]) (by rw [h]; simp) (by simp; omega) (fun y hy => ih y (by simp [hy]))
    simp only [List.length_append, List.length_cons, List.length_nil, Nat.zero_add, Int.natCast_add, Int.natCast_one] at e2
    have hb1 : (acc.length + 1) * 40 ≤ 140737488355328 := by omega
    have hb2 : acc.length + 1 ≤ 9223372036854775807 := by omega
    rw [S.avs_app, show S.avs [writeT x] = [.agg [.str (writeT x).atom, .list (S.avs (writeT x).list) (ownB (writeT x).o)]] by simp [S.avs, S.av_eq]] at e2
    simp [l_saturateref07_Write_0, hl, h1, h2, T.av_eq x, e1, hb1, hb2, hw]
    refine Eq.trans e2 ?_
    simp [writeTs]
set_option maxHeartbeats 4000000 in
theorem write7_D (t : T) : t.wf → ∀ (hp : List HObj) (lo : Nat) (q : Bool), callD G0 IP n_saturateref07_Write [t.av] hp lo q = some (.ret (writeT t).av hp) := by
  induction t using T.ind with | h t ih =>
  intro hw hp lo q
  have hwf := (T.wf_eq t).1 hw
  have en := notable7_D t hw
  rw [callD_eq]
  cases t with | mk op w v n o as =>
  simp only [T.op, T.width, T.val, T.name, T.o, T.args] at hwf ih
  rw [T.av_eq] at en ⊢
  simp only [T.op, T.width, T.val, T.name, T.o, T.args] at en ⊢
  rw [writeT]
  cases hN : notE (.mk op w v n o as) with
  | false =>
    rw [hN] at en
    rw [if_pos rfl]
    simp [IP_saturateref07_Write, i_saturateref07_Write, en, aS_av]
  | true =>
    rw [hN] at en
    rw [if_neg (by simp)]
    have hN2 := hN
    rw [notE_mk] at hN2
    simp only [Bool.and_eq_true, decide_eq_true_eq] at hN2
    obtain ⟨n0, n1, n2, n3⟩ := hN2
    have hop : opOk op = true := arE_ok (by omega)
    have eI := int2_D w n0 n1
    have hv : 0 ≤ v ∧ v < 18446744073709551616 := by
      have := hwf.2.2.1
      simp [Lit.wf, IntKind.min, IntKind.max, IntKind.signed, IntKind.bits] at this; omega
    have eD := dec2_D v hv.1 hv.2
    have lI := decI_len (n := w) (by omega)
    have lD := decI_len hv.2
    have nl : (op = 1 ∨ op = 24 ∨ op = 25) → n.length ≤ 16 := fun e => by
      rw [if_pos e] at n3
      simp only [Bool.and_eq_true, decide_eq_true_eq] at n3
      exact (nameOk_mem n3.1).2.1
    generalize hdi : decI w = dw at *
    generalize hdv : decI v = dv at *
    by_cases k1 : op = 1
    · subst k1
      have := nl (by simp)
      have b1 : 1 + dw.length ≤ 9223372036854775807 := by omega
      have b2 : n.length + (dw.length + 1) ≤ 9223372036854775807 := by omega
      rw [if_pos rfl]
      simp [IP_saturateref07_Write, i_saturateref07_Write, en, aS_av, eI, b1, b2]
    by_cases k2 : op = 24
    · subst k2
      have := nl (by simp)
      have b1 : 1 + dw.length ≤ 9223372036854775807 := by omega
      have b2 : 1 + n.length ≤ 9223372036854775807 := by omega
      have b3 : n.length + 1 + (dw.length + 1) ≤ 9223372036854775807 := by omega
      rw [if_neg (by simp), if_pos rfl]
      simp [IP_saturateref07_Write, i_saturateref07_Write, en, aS_av, eI, b1, b2, b3]
    by_cases k3 : op = 25
    · subst k3
      have := nl (by simp)
      have b1 : 1 + dw.length ≤ 9223372036854775807 := by omega
      have b2 : 1 + n.length ≤ 9223372036854775807 := by omega
      have b3 : n.length + 1 + (dw.length + 1) ≤ 9223372036854775807 := by omega
      rw [if_neg (by simp), if_neg (by simp), if_pos rfl]
      simp [IP_saturateref07_Write, i_saturateref07_Write, en, aS_av, eI, b1, b2, b3]
    by_cases k4 : op = 2
    · subst k4
      have b1 : 1 + dw.length ≤ 9223372036854775807 := by omega
      have b2 : dv.length + (dw.length + 1) ≤ 9223372036854775807 := by omega
      rw [if_neg (by simp), if_neg (by simp), if_neg (by simp), if_pos rfl]
      simp [IP_saturateref07_Write, i_saturateref07_Write, en, aS_av, eI, eD, b1, b2]
    rw [if_neg k1, if_neg k2, if_neg k3, if_neg k4]
    have b0 : 1 + dw.length ≤ 9223372036854775807 := by omega
    have hal : as.length ≤ 10 := by have := arE_bd op; omega
    have eN := fun (hp : List HObj) (lo : Nat) (q : Bool) => name4_D (hp := hp) (lo := lo) q op
    have eP := fun (hp : List HObj) (lo : Nat) (q : Bool) => plain7_D (hp := hp) (lo := lo) q op
    have el := fun (acc : List S) (ha : acc.length ≤ 10) => write7_L (hp := hp) (lo := hp.length) (.mk op w v n o as) hal as [] acc rfl (by simpa using ha) (fun x hx => ih x hx (hwf.2.2.2.2.2.2 x hx))
    by_cases k5 : op = 21
    · subst k5
      have e1 := el [aS (nameE 21), aS dv, aS dw] (by simp)
      simp [S.avs_cons, aS_av, T.cells, T.op, T.width, T.val, T.name, T.args, T.o] at e1
      have h2 : (numsN 21 : Int) = 2 := rfl
      simp [IP_saturateref07_Write, i_saturateref07_Write, en, eI, eD, eN, eP, b0, h2, e1, headW, hdi, hdv, S.av, S.avs_app, S.avs_cons, aS_av, ownB_false, S.avs_closed]
    by_cases k6 : op = 22 ∨ op = 23
    · have hn : numsN op = 1 := by simp [numsN, k5, k6]
      have e1 := el [aS (nameE op), aS dw] (by simp)
      simp [S.avs_cons, aS_av, T.cells, T.op, T.width, T.val, T.name, T.args, T.o] at e1
      simp [IP_saturateref07_Write, i_saturateref07_Write, en, eI, eD, eN, eP, b0, hn, k1, k2, k3, k4, k5, k6, e1, headW, hdi, hdv, S.av, S.avs_app, S.avs_cons, aS_av, ownB_false, S.avs_closed]
    · have hn : numsN op = 0 := by simp [numsN, k5, k6]
      have e1 := el [aS (nameE op)] (by simp)
      simp [S.avs_cons, aS_av, T.cells, T.op, T.width, T.val, T.name, T.args, T.o] at e1
      simp [IP_saturateref07_Write, i_saturateref07_Write, en, eI, eD, eN, eP, b0, hn, k1, k2, k3, k4, k5, k6, e1, headW, hdi, hdv, S.av, S.avs_app, S.avs_cons, aS_av, ownB_false, S.avs_closed]
theorem printT_D (t : T) (hw : t.wf) (hs : (writeT t).text.length ≤ 140737488355328) (hp : List HObj) (lo : Nat) (q : Bool) : callD G0 IP n_termtext_Print [t.av] hp lo q = some (.ret (.str (writeT t).text) hp) := by
  have e1 := writeT_D t hw
  have e2 := fun (hp : List HObj) (lo : Nat) (q : Bool) => print2_D (hp := hp) (lo := lo) (write_wf t hw) hs q
  rw [callD_eq]
  rw [T.av_eq, S.av_eq] at e1
  rw [S.av_eq] at e2
  rw [T.av_eq]
  simp [IP_termtext_Print, i_termtext_Print, e1, e2]
end
end Go.Proofs.YtkofimhnehkdoaaGreatDoor.Rf
end
