/- The reader of terms: the program's read. -/
import Derived.Test.YtkofimhnehkdoaaGreatDoorRfG10
import Derived.Test.YtkofimhnehkdoaaGreatDoorRfG9
import Derived.Test.YtkofimhnehkdoaaGreatDoorRfG6
import Derived.Test.YtkofimhnehkdoaaGreatDoorRfG7
import Derived.Test.YtkofimhnehkdoaaGreatDoorRfG8
section
set_option linter.unusedSimpArgs false
set_option linter.unusedVariables false
namespace Go.Proofs.YtkofimhnehkdoaaGreatDoor.Rf
def ownW (acc : List T) : Own := if acc.isEmpty then .nil else .own 1 0
@[simp] theorem ownW_cp (acc : List T) : (ownW acc).cp = ownB acc.isEmpty := by cases acc <;> rfl
@[simp] theorem ownW_app (acc : List T) (x : T) : ownW (acc ++ [x]) = .own 1 0 := by cases acc <;> rfl
theorem ownW_ok (acc : List T) : ownW acc = .nil ∨ ownW acc = .own 1 0 := by cases acc <;> simp [ownW]
abbrev frT (op v w : Int) (acc : List T) (l : List S) (o : Own) (i : Int) : Fr := [(2, boxZ), (3, .int .i64 op), (7, .box [.int .i64 op, .int .i64 w, .int .u64 v, .str [], .list (T.avs acc) (ownT acc)]), (8, .list (wds acc) (ownW acc)), (75, .list (S.avs l) o), (76, .int .i64 l.length), (77, .int .i64 i)]
def outT (op v w : Int) (hp : List HObj) (acc : List T) (l : List S) (o : Own) : TRs → Ex × St → Prop
  | .err c, r => ∃ fr, r = (.pan (.iface 78 (.agg [.int .i64 c])), ⟨fr, hp⟩)
  | .ok ts, r => r = (.exit 0, ⟨frT op v w (acc ++ ts) l o l.length ++ [(78, .bool false)], hp⟩)
theorem outT_cons (op v w : Int) (hp : List HObj) (acc : List T) (l : List S) (o : Own) (t : T) (s : TRs) (r : Ex × St) : outT op v w hp acc l o (TRs.cons (.ok t) s) r ↔ outT op v w hp (acc ++ [t]) l o s r := by
  cases s <;> simp [outT, TRs.cons]
section
variable {hp : List HObj} {lo : Nat} (q : Bool)
set_option maxHeartbeats 1000000 in
theorem readT_L (op v w : Int) (l : List S) (o : Own) (hl10 : l.length ≤ 10) : ∀ (r p : List S) (acc : List T), l = p ++ r → acc.length ≤ p.length →
    (∀ x, x ∈ r → ∀ (hp : List HObj) (lo : Nat), callD G0 IP n_termtext_read [x.av] hp lo false = some ((readS x).out hp)) →
    ∃ res, loopD G0 IP lo l_termtext_read_0 ⟨frT op v w acc l o p.length, hp⟩ = some res ∧ outT op v w hp acc l o (readsS r 0) res
  | [], p, acc, h, ha, _ => by
    rw [loopD_eq, loopBody]
    simp at h
    subst h
    simp [l_termtext_read_0, readsS, outT]
  | x :: r, p, acc, h, ha, ih => by
    rw [loopD_eq, loopBody]
    have hlen : l.length = p.length + (r.length + 1) := by rw [h]; simp
    have h1 : (p.length : Int) < (l.length : Int) := by omega
    have hl : p.length < l.length := by omega
    have h2 : l[p.length] = x := by simp [h]
    have hw : IntKind.wrap .i64 ((p.length : Int) + 1) = (p.length : Int) + 1 := wrap_small (by omega) (by omega)
    have e1 := ih x (by simp) hp lo
    rw [readsS]
    cases hx : readS x with
    | err c =>
      rw [hx] at e1
      simp only [TR.out] at e1
      rw [S.av_eq] at e1
      simp [l_termtext_read_0, hl, h1, h2, S.av_eq x, e1, TRs.cons, outT]
    | ok t =>
      rw [hx] at e1
      simp only [TR.out] at e1
      rw [S.av_eq, T.av_eq] at e1
      obtain ⟨res, e2, e3⟩ := readT_L op v w l o hl10 r (p ++ [x]) (acc ++ [t]) (by rw [h]; simp) (by simp; omega) (fun y hy => ih y (by simp [hy]))
      simp only [List.length_append, List.length_cons, List.length_nil, Nat.zero_add, Int.natCast_add, Int.natCast_one] at e2
      have hb1 : (acc.length + 1) * 64 ≤ 140737488355328 := by omega
      have hb2 : acc.length + 1 ≤ 9223372036854775807 := by omega
      have hb3 : (acc.length + 1) * 8 ≤ 140737488355328 := by omega
      rw [frT, wds_app, T.avs_app, ownT_app, ownW_app, show T.avs [t] = [.agg [.int .i64 t.op, .int .i64 t.width, .int .u64 t.val, .str t.name, .list (T.avs t.args) (ownB t.o)]] by simp [T.avs, T.av_eq]] at e2
      refine ⟨res, ?_, (outT_cons ..).2 e3⟩
      simp [l_termtext_read_0, hl, h1, h2, S.av_eq x, e1, hb1, hb2, hb3, ownT_ok, ownW_ok, hw]
      exact e2
theorem out_err (hp : List HObj) (c : Int) : (TR.err c).out hp = .pan (.iface 78 (.agg [.int .i64 c])) hp := rfl
theorem out_ok (hp : List HObj) (t : T) : (TR.ok t).out hp = .ret t.av hp := rfl
set_option maxHeartbeats 4000000 in
theorem readT_D (e : S) : e.sm → ∀ (hp : List HObj) (lo : Nat), callD G0 IP n_termtext_read [e.av] hp lo false = some ((readS e).out hp) := by
  induction e using S.ind with | h e ih =>
  intro hsm hp lo
  rw [S.sm_eq] at hsm
  obtain ⟨ha, hs⟩ := hsm
  rw [callD_eq, S.av_eq]
  cases e with | mk a o l =>
  simp only [S.atom, S.list, S.o] at *
  rw [readS]
  by_cases h0 : a = []
  · subst h0
    rw [if_neg (by simp)]
    cases l with
    | nil =>
      simp [IP_termtext_read, i_termtext_read, must_D, headR, out_err]
    | cons x r =>
      have hx : (x :: r).getD 0 S.z = x := rfl
      rw [hx]
      have e1 := fun (hp : List HObj) (lo : Nat) (q : Bool) => opOf_D (hp := hp) (lo := lo) q x.atom
      have hgt : (0 : Int) < (r.length : Int) + 1 := by omega
      cases hok : (ofE x.atom).2 with
      | false =>
        have hR : headR (x :: r) = false := by unfold headR; rw [hx, hok]; simp
        rw [if_pos hR]
        simp [IP_termtext_read, i_termtext_read, must_D, S.avs, S.av_eq x, e1, hok, hgt, out_err]
      | true =>
        have hop := ofE_ok hok
        have hbd := arE_bd (ofE x.atom).1
        have hnb := numsN_bd (ofE x.atom).1
        have hR : headR (x :: r) = (!decide (arE (ofE x.atom).1 = 0) && decide (((x :: r).length : Int) = 1 + numsN (ofE x.atom).1 + arE (ofE x.atom).1)) := by unfold headR; rw [hx, hok]; simp
        rw [hR]
        generalize (ofE x.atom).1 = op at *
        have hge := arE_ge hop
        by_cases k1 : arE op = 0
        · rw [if_pos (by simp [k1])]
          simp [IP_termtext_read, i_termtext_read, must_D, S.avs, S.av_eq x, e1, hok, hgt, out_err, opLeaf_D, k1]
        · have hw2 : IntKind.wrap .i64 ((numsN op : Int) + arE op) = (numsN op : Int) + arE op := wrap_small (by omega) (by omega)
          by_cases k3 : (r.length : Int) = (numsN op : Int) + arE op
          · rw [if_neg (by simp [k1]; omega)]
            have k3' : (numsN op : Int) + arE op = (r.length : Int) := k3.symm
            have hw3 : IntKind.wrap .i64 (r.length : Int) = (r.length : Int) := by rw [k3]; exact hw2
            have ihl : ∀ y, y ∈ x :: r → ∀ (hp : List HObj) (lo : Nat), callD G0 IP n_termtext_read [y.av] hp lo false = some ((readS y).out hp) := fun y hy => ih y hy (hs y hy)
            have tail : ∀ (w v : Int), 0 ≤ v → ∀ (ts : List T), ts.length ≤ 10 → ∀ (hp : List HObj) (lo : Nat) (q : Bool) (oo : Own), callD G0 IP n_opinfo_Width [.int .i64 op, .int .i64 w, .int .u64 v, .list (wds ts) oo] hp lo q = some (.ret (.tup [.int .i64 (widE op w v (ts.map T.width)).1, .int .i64 (widE op w v (ts.map T.width)).2]) hp) :=
              fun w v hv ts ht hp lo q oo => width_D q op w v hv (ts.map T.width) oo (by rw [List.length_map]; omega)
            have num : ∀ (y : S), y ∈ x :: r → ∀ (hp : List HObj) (lo : Nat) (m : Int) (o : Own), callD G0 IP n_termtext_number [.agg [.str y.atom, .list (S.avs y.list) o], .int .u64 m] hp lo false = some (TR1 hp .u64 (numR y.atom m)) :=
              fun y hy hp lo m o => number_D y.atom o (S.avs y.list) ((S.sm_eq y).1 (hs y hy)).1 m
            have hN : ∀ (hp : List HObj) (lo : Nat) (q : Bool), callD G0 IP n_termtext_numerals [.int .i64 op] hp lo q = some (.ret (.int .i64 (numsN op)) hp) := fun hp lo q => ttNumerals_D q op
            by_cases h21 : op = 21
            · have n2 : numsN op = 2 := by subst h21; rfl
              have a1 : arE op = 1 := by subst h21; rfl
              rw [n2, a1] at k3 k3'
              match r, k3 with
              | [y, z, u], _ =>
                simp only [n2] at hN
                have hA : ∀ (hp : List HObj) (lo : Nat) (q : Bool), callD G0 IP n_opinfo_Arity [.int .i64 op] hp lo q = some (.ret (.int .i64 1) hp) := fun hp lo q => by rw [arity_D, a1]
                have hw : IntKind.wrap .i64 3 = 3 := rfl
                have hw1 : IntKind.wrap .i64 1 = 1 := rfl
                have by1 := numR_bd y.atom 18446744073709551615 (by omega)
                have bz := numR_bd z.atom 64 (by omega)
                have wz : IntKind.wrap .i64 (numR z.atom 64).1 = (numR z.atom 64).1 := wrap_small (by omega) (by omega)
                have ey := num y (by simp)
                have ez := num z (by simp)
                have g1 : [x, y, z, u].getD 1 S.z = y := rfl
                have g2 : [x, y, z, u].getD 2 S.z = z := rfl
                have hnr : numsR op [x, y, z, u] = (if (numR y.atom 18446744073709551615).2 ≠ 0 then (0, 0, (numR y.atom 18446744073709551615).2) else if (numR z.atom 64).2 ≠ 0 then (0, 0, (numR z.atom 64).2) else ((numR y.atom 18446744073709551615).1, (numR z.atom 64).1, 0)) := by
                  unfold numsR; rw [if_pos h21, g1, g2]
                rw [hnr]
                by_cases m1 : (numR y.atom 18446744073709551615).2 = 0
                · by_cases m2 : (numR z.atom 64).2 = 0
                  · rw [if_neg (by simp [m1, m2])]
                    simp only [m1, m2]
                    obtain ⟨res, l1, l2⟩ := readT_L (hp := hp) (lo := hp.length) op (numR y.atom 18446744073709551615).1 (numR z.atom 64).1 [u] .no (by simp) [u] [] [] rfl (by simp) (fun x hx => ihl x (by simp at hx; simp [hx]))
                    have e9 : readsS [x, y, z, u] (1 + numsN op) = readsS [u] 0 := by rw [n2]; rfl
                    rw [e9]
                    simp [frT, S.avs, S.av_eq u, ownT, ownW, T.avs] at l1
                    cases hrs : readsS [u] 0 with
                    | err c =>
                      rw [hrs] at l2
                      obtain ⟨fr, rfl⟩ := l2
                      simp [IP_termtext_read, i_termtext_read, must_D, S.avs, S.av_eq x, S.av_eq y, S.av_eq z, S.av_eq u, e1, hok, hgt, opLeaf_D, hA, k1, hw, hN, ey, ez, TR1, hw1, wz, m1, m2, l1, out_err, nodeR]
                    | ok ts =>
                      rw [hrs] at l2
                      simp only [outT, List.nil_append] at l2
                      subst l2
                      have htl := tail (numR z.atom 64).1 (numR y.atom 18446744073709551615).1 by1.1 ts (by have := readsS_len [u] 0 ts hrs; simp at this; omega)
                      simp only [nodeR]
                      by_cases k6 : (widE op (numR z.atom 64).1 (numR y.atom 18446744073709551615).1 (ts.map T.width)).2 = 0
                      · rw [if_neg (by simp [k6])]
                        simp [IP_termtext_read, i_termtext_read, must_D, S.avs, S.av_eq x, S.av_eq y, S.av_eq z, S.av_eq u, e1, hok, hgt, opLeaf_D, hA, k1, hw, hN, ey, ez, TR1, hw1, wz, m1, m2, l1, htl, k6, failT_D, out_ok, T.av]
                      · rw [if_pos (by simp [k6])]
                        simp [IP_termtext_read, i_termtext_read, must_D, S.avs, S.av_eq x, S.av_eq y, S.av_eq z, S.av_eq u, e1, hok, hgt, opLeaf_D, hA, k1, hw, hN, ey, ez, TR1, hw1, wz, m1, m2, l1, htl, k6, failT_D, out_err]
                  · rw [if_pos (by simp [m1, m2])]
                    simp [IP_termtext_read, i_termtext_read, must_D, S.avs, S.av_eq x, S.av_eq y, S.av_eq z, S.av_eq u, e1, hok, hgt, opLeaf_D, hA, k1, hw, hN, ey, ez, TR1, hw1, m1, m2, out_err]
                · rw [if_pos (by simp [m1])]
                  simp [IP_termtext_read, i_termtext_read, must_D, S.avs, S.av_eq x, S.av_eq y, S.av_eq z, S.av_eq u, e1, hok, hgt, opLeaf_D, hA, k1, hw, hN, ey, ez, TR1, hw1, m1, out_err]
            · by_cases h22 : op = 22 ∨ op = 23
              · have n1 : numsN op = 1 := by simp [numsN, h21, h22]
                have a1 : arE op = 1 := by rcases h22 with rfl | rfl <;> rfl
                rw [n1, a1] at k3 k3'
                match r, k3 with
                | [y, u], _ =>
                  simp only [n1] at hN
                  have hA : ∀ (hp : List HObj) (lo : Nat) (q : Bool), callD G0 IP n_opinfo_Arity [.int .i64 op] hp lo q = some (.ret (.int .i64 1) hp) := fun hp lo q => by rw [arity_D, a1]
                  have hw : IntKind.wrap .i64 2 = 2 := rfl
                  have hw1 : IntKind.wrap .i64 0 = 0 := rfl
                  have bz := numR_bd y.atom 64 (by omega)
                  have wz : IntKind.wrap .i64 (numR y.atom 64).1 = (numR y.atom 64).1 := wrap_small (by omega) (by omega)
                  have ey := num y (by simp)
                  have g1 : [x, y, u].getD 1 S.z = y := rfl
                  have hnr : numsR op [x, y, u] = (if (numR y.atom 64).2 ≠ 0 then (0, 0, (numR y.atom 64).2) else (0, (numR y.atom 64).1, 0)) := by
                    unfold numsR; rw [if_neg h21, if_pos h22, g1]
                  rw [hnr]
                  by_cases m2 : (numR y.atom 64).2 = 0
                  · rw [if_neg (by simp [m2])]
                    simp only [m2]
                    obtain ⟨res, l1, l2⟩ := readT_L (hp := hp) (lo := hp.length) op 0 (numR y.atom 64).1 [u] .no (by simp) [u] [] [] rfl (by simp) (fun x hx => ihl x (by simp at hx; simp [hx]))
                    have e9 : readsS [x, y, u] (1 + numsN op) = readsS [u] 0 := by rw [n1]; rfl
                    rw [e9]
                    simp [frT, S.avs, S.av_eq u, ownT, ownW, T.avs] at l1
                    cases hrs : readsS [u] 0 with
                    | err c =>
                      rw [hrs] at l2
                      obtain ⟨fr, rfl⟩ := l2
                      simp [IP_termtext_read, i_termtext_read, must_D, S.avs, S.av_eq x, S.av_eq y, e1, hok, hgt, opLeaf_D, hA, k1, hN, ey, TR1, hw, hw1, wz, m2, S.av_eq u, l1, out_err, nodeR]
                    | ok ts =>
                      rw [hrs] at l2
                      simp only [outT, List.nil_append] at l2
                      subst l2
                      have htl := tail (numR y.atom 64).1 0 (by omega) ts (by have := readsS_len [u] 0 ts hrs; simp at this; omega)
                      simp only [nodeR]
                      by_cases k6 : (widE op (numR y.atom 64).1 0 (ts.map T.width)).2 = 0
                      · rw [if_neg (by simp [k6])]
                        simp [IP_termtext_read, i_termtext_read, must_D, S.avs, S.av_eq x, S.av_eq y, e1, hok, hgt, opLeaf_D, hA, k1, hN, ey, TR1, hw, hw1, wz, m2, S.av_eq u, l1, htl, k6, failT_D, out_ok, T.av]
                      · rw [if_pos (by simp [k6])]
                        simp [IP_termtext_read, i_termtext_read, must_D, S.avs, S.av_eq x, S.av_eq y, e1, hok, hgt, opLeaf_D, hA, k1, hN, ey, TR1, hw, hw1, wz, m2, S.av_eq u, l1, htl, k6, failT_D, out_err]
                  · rw [if_pos (by simp [m2])]
                    simp [IP_termtext_read, i_termtext_read, must_D, S.avs, S.av_eq x, S.av_eq y, e1, hok, hgt, opLeaf_D, hA, k1, hN, ey, TR1, hw, hw1, m2, S.av_eq u, out_err]
              · have n0 : numsN op = 0 := by simp [numsN, h21, h22]
                simp only [n0] at hN
                rw [n0] at k3 k3' hw2
                have ha : arE op = (r.length : Int) := by omega
                have hA : ∀ (hp : List HObj) (lo : Nat) (q : Bool), callD G0 IP n_opinfo_Arity [.int .i64 op] hp lo q = some (.ret (.int .i64 r.length) hp) := fun hp lo q => by rw [arity_D, ha]
                have htk : List.take r.length (S.avs r) = S.avs r := List.take_of_length_le (by simp)
                have hnr : numsR op (x :: r) = (0, 0, 0) := by
                  unfold numsR; rw [if_neg h21, if_neg h22]
                rw [hnr]
                rw [if_neg (by simp)]
                obtain ⟨res, l1, l2⟩ := readT_L (hp := hp) (lo := hp.length) op 0 0 r .no (by omega) r [] [] rfl (by simp) (fun x hx => ihl x (by simp [hx]))
                have e9 : readsS (x :: r) (1 + numsN op) = readsS r 0 := by rw [n0]; rfl
                rw [e9]
                simp [frT, ownT, ownW, T.avs] at l1
                cases hrs : readsS r 0 with
                | err c =>
                  rw [hrs] at l2
                  obtain ⟨fr, rfl⟩ := l2
                  simp [IP_termtext_read, i_termtext_read, must_D, S.avs, S.av_eq x, e1, hok, hgt, opLeaf_D, hA, k1, hN, hw3, htk, l1, out_err, nodeR]
                | ok ts =>
                  rw [hrs] at l2
                  simp only [outT, List.nil_append] at l2
                  subst l2
                  have htl := tail 0 0 (by omega) ts (by have := readsS_len r 0 ts hrs; omega)
                  simp only [nodeR]
                  by_cases k6 : (widE op 0 0 (ts.map T.width)).2 = 0
                  · rw [if_neg (by simp [k6])]
                    simp [IP_termtext_read, i_termtext_read, must_D, S.avs, S.av_eq x, e1, hok, hgt, opLeaf_D, hA, k1, hN, hw3, htk, l1, htl, k6, failT_D, out_ok, T.av]
                  · rw [if_pos (by simp [k6])]
                    simp [IP_termtext_read, i_termtext_read, must_D, S.avs, S.av_eq x, e1, hok, hgt, opLeaf_D, hA, k1, hN, hw3, htk, l1, htl, k6, failT_D, out_err]
          · rw [if_pos (by simp [k1]; omega)]
            simp [IP_termtext_read, i_termtext_read, must_D, S.avs, S.av_eq x, e1, hok, hgt, out_err, opLeaf_D, ttNumerals_D, arity_D, k1, hw2, k3]
  · rw [if_pos h0]
    have e1 := fun (hp : List HObj) (lo : Nat) => leafT_D (hp := hp) (lo := lo) a h0 ha
    cases hx : leafR a with
    | err c => simp [IP_termtext_read, i_termtext_read, h0, e1, hx, out_err]
    | ok t => simp [IP_termtext_read, i_termtext_read, h0, e1, hx, out_ok, T.av_eq t]
end
end Go.Proofs.YtkofimhnehkdoaaGreatDoor.Rf
end
section
/- The program's Read: a failure is recovered. -/
set_option linter.unusedSimpArgs false
set_option linter.unusedVariables false
namespace Go.Proofs.YtkofimhnehkdoaaGreatDoor.Rf
abbrev zCells : List AV := [.int .i64 0, .int .i64 0, .int .u64 0, .str [], .list [] .nil]
theorem recvT_D (hp : List HObj) (a b c d f v : AV) (e : Int) (lo : Nat) (hlo : lo ≤ hp.length) : evalRecv G0 IP (callD G0 IP) (loopD G0 IP lo) lo n_termtext_Read_1 [.ptr hp.length 0, .ptr (hp.length + 1) 0]
    (hp ++ [.cells 0 [a, b, c, d, f], .cells 0 [v]]) (.iface 78 (.agg [.int .i64 e])) = some (hp ++ [.cells 0 zCells, .cells 0 [.int .i64 e]]) := by
  have h1 : lo ≤ hp.length + 1 := by omega
  simp [IP_termtext_Read_1, i_termtext_Read_1, hlo, h1, List.getElem?_append_right, List.set_append_right]
theorem recvT0_D (hp : List HObj) (a b c d f v : AV) (lo : Nat) : evalRecv G0 IP (callD G0 IP) (loopD G0 IP lo) lo n_termtext_Read_1 [.ptr hp.length 0, .ptr (hp.length + 1) 0]
    (hp ++ [.cells 0 [a, b, c, d, f], .cells 0 [v]]) .nili = some (hp ++ [.cells 0 [a, b, c, d, f], .cells 0 [v]]) := by
  simp [IP_termtext_Read_1, i_termtext_Read_1]
mutual
theorem T.av_closed (n : Nat) : ∀ t : T, AV.closed n t.av = true
  | .mk a b c d o l => by simp [T.av, AV.closed, AV.closedL, T.avs_closed n l]
theorem T.avs_closed (n : Nat) : ∀ l : List T, AV.closedL n (T.avs l) = true
  | [] => rfl
  | t :: r => by simp [T.avs, AV.closedL, T.av_closed n t, T.avs_closed n r]
end
section
variable {hp : List HObj} {lo : Nat} (q : Bool)
theorem read_D (e : S) (hsm : e.sm) (hp : List HObj) (lo : Nat) (q : Bool) : callD G0 IP n_termtext_Read [e.av] hp lo q = some ((readS e).tup hp) := by
  have e1 := readT_D e hsm
  rw [callD_eq]
  rw [S.av_eq] at e1 ⊢
  cases hx : readS e with
  | err c =>
    rw [hx] at e1
    simp only [out_err] at e1
    simp [-evalRecv, IP_termtext_Read, i_termtext_Read, e1, tup_err, recvT_D]
  | ok t =>
    rw [hx] at e1
    simp only [out_ok] at e1
    rw [T.av_eq] at e1
    simp [-evalRecv, IP_termtext_Read, i_termtext_Read, e1, tup_ok, T.av_eq t, recvT0_D, T.avs_closed]
end
end Go.Proofs.YtkofimhnehkdoaaGreatDoor.Rf
end
section
/- Parse, of the program and of the reference. -/
set_option linter.unusedSimpArgs false
set_option linter.unusedVariables false
namespace Go.Proofs.YtkofimhnehkdoaaGreatDoor.Rf
theorem p_sm (s : List UInt8) (hs : s.length ≤ 65536) : ∀ n, (∀ i d x j, i < s.length → pOne s n i d = .ok x j → x.sm) ∧ (∀ i d acc j acc', i ≤ s.length → acc.length ≤ i → (∀ t, t ∈ acc → t.sm) → pLoop s n i d acc = .stop j acc' → ∀ t, t ∈ acc' → t.sm)
  | 0 => ⟨fun i d x j hi h => by simp [pOne] at h, fun i d acc j acc' hi ha hw h => by simp [pLoop] at h; obtain ⟨_, rfl⟩ := h; exact hw⟩
  | n + 1 => by
    obtain ⟨h1, h2⟩ := p_sm s hs n
    refine ⟨fun i d x j hi h => ?_, fun i d acc j acc' hi ha hw h => ?_⟩
    · simp only [pOne] at h
      have hk := skipN_le (s := s) (i := i + 1) (by omega)
      split at h
      · split at h
        · cases h
        · split at h
          · cases h
          · rename_i j' acc' hl
            have hle := (p_le s n).2 _ _ _ _ _ hk.2 (by simp) hl
            have hw := h2 _ _ _ _ _ hk.2 (by simp) (by simp) hl
            split at h
            · cases h
            · cases h
              rw [S.sm_eq]
              simp only [S.atom, S.list, S.o]
              exact ⟨by simp, hw⟩
      · split at h
        · split at h
          · cases h
          · cases h
            rw [S.sm_eq]
            simp only [S.atom, S.list, S.o]
            exact ⟨by simp; omega, by simp⟩
        · cases h
    · simp only [pLoop] at h
      split at h
      · rename_i hlt
        split at h
        · cases h; exact hw
        · split at h
          · cases h
          · rename_i x j' ho
            have hj := (p_le s n).1 _ _ _ _ hlt ho
            have hk := skipN_le (s := s) (i := j') (by omega)
            refine h2 _ _ _ _ _ hk.2 (by simp; omega) (fun t ht => ?_) h
            rcases List.mem_append.1 ht with ht | ht
            · exact hw t ht
            · simp at ht; subst ht; exact h1 _ _ _ _ hlt ho
      · cases h; exact hw
theorem top_sm (s : List UInt8) (hs : s.length ≤ 65536) : ∀ n i acc st l st', i ≤ s.length → acc.length ≤ i → (∀ t, t ∈ acc → t.sm) → pTop s n i acc st = .ok l st' → (∀ t, t ∈ l → t.sm)
  | 0, i, acc, st, l, st', hi, ha, hw, h => by simp [pTop] at h; obtain ⟨rfl, rfl⟩ := h; exact hw
  | n + 1, i, acc, st, l, st', hi, ha, hw, h => by
    simp only [pTop] at h
    split at h
    · rename_i hlt
      split at h
      · cases h
      · rename_i x j hx
        have hj := (p_le s _).1 _ _ _ _ hlt hx
        have hk := skipN_le (s := s) (i := j) (by omega)
        refine top_sm s hs n _ _ _ _ _ hk.2 (by simp; omega) (fun t ht => ?_) h
        rcases List.mem_append.1 ht with ht | ht
        · exact hw t ht
        · simp at ht; subst ht; exact (p_sm s hs _).1 _ _ _ _ hlt hx
    · cases h; exact hw
theorem pAll_sm {s : List UInt8} {l : List S} {st : List Nat} (h : pAll s = .ok l st) : ∀ t, t ∈ l → t.sm := by
  unfold pAll at h
  split at h
  · cases h
  · have hk := skipN_le (s := s) (i := 0) (by omega)
    exact top_sm s (by omega) _ _ _ _ _ _ hk.2 (by simp) (by simp) h
/-- the term of a text -/
def parseT (s : List UInt8) : TR := match pAll s with
  | .err _ e => .err e
  | .ok [x] _ => readS x
  | .ok _ _ => .err 6
theorem parseT_valid {s : List UInt8} {t : T} (h : parseT s = .ok t) : t.valid = true ∧ t.wf := by
  unfold parseT at h
  split at h
  · cases h
  · exact readS_valid _ _ h
  · cases h
section
variable {hp : List HObj} {lo : Nat}
theorem parseT_D (s : List UInt8) (hp : List HObj) (lo : Nat) (q : Bool) : callD G0 IP n_termtext_Parse [.str s] hp lo q = some ((parseT s).tup hp) := by
  rw [callD_eq]
  have e1 := fun (hp : List HObj) (lo : Nat) (q : Bool) => parse2_D (s := s) (hp := hp) (lo := lo) q
  unfold parseT
  cases hx : pAll s with
  | err j e =>
    have hne := pAll_err hx
    rw [hx] at e1
    simp only [outS1] at e1
    simp [IP_termtext_Parse, i_termtext_Parse, e1, hne, tup_err]
  | ok l st =>
    rw [hx] at e1
    match l, hx, e1 with
    | [], _, e1 =>
      simp only [outS1] at e1
      simp [IP_termtext_Parse, i_termtext_Parse, e1, tup_err]
    | [x], hx, e1 =>
      have e2 := read_D x (pAll_sm hx x (by simp))
      simp only [outS1] at e1
      rw [S.av_eq] at e2
      simp only [S.av_eq] at e1
      cases hr : readS x with
      | err c => rw [hr] at e2; simp only [tup_err] at e2; simp [IP_termtext_Parse, i_termtext_Parse, e1, e2, tup_err, hr]
      | ok t => rw [hr] at e2; simp only [tup_ok, T.av_eq] at e2; simp [IP_termtext_Parse, i_termtext_Parse, e1, e2, tup_ok, hr, T.av_eq]
    | x :: y :: r, _, e1 =>
      simp only [outS1] at e1
      simp [IP_termtext_Parse, i_termtext_Parse, e1, tup_err]
theorem parse7_D (s : List UInt8) (hp : List HObj) (lo : Nat) (q : Bool) : callD G0 IP n_saturateref07_Parse [.str s] hp lo q = some ((parseT s).tup hp) := by
  rw [callD_eq]
  have e1 := fun (hp : List HObj) (lo : Nat) (q : Bool) => parse1_D (s := s) (hp := hp) (lo := lo) q
  unfold parseT
  cases hx : pAll s with
  | err j e =>
    have hne := pAll_err hx
    rw [hx] at e1
    simp only [outS1] at e1
    simp [IP_saturateref07_Parse, i_saturateref07_Parse, e1, hne, tup_err]
  | ok l st =>
    rw [hx] at e1
    match l, hx, e1 with
    | [], _, e1 =>
      simp only [outS1] at e1
      simp [IP_saturateref07_Parse, i_saturateref07_Parse, e1, tup_err]
    | [x], hx, e1 =>
      have e2 := read7_D x (pAll_sm hx x (by simp))
      simp only [outS1] at e1
      rw [S.av_eq] at e2
      simp only [S.av_eq] at e1
      cases hr : readS x with
      | err c => rw [hr] at e2; simp only [tup_err] at e2; simp [IP_saturateref07_Parse, i_saturateref07_Parse, e1, e2, tup_err, hr]
      | ok t => rw [hr] at e2; simp only [tup_ok, T.av_eq] at e2; simp [IP_saturateref07_Parse, i_saturateref07_Parse, e1, e2, tup_ok, hr, T.av_eq]
    | x :: y :: r, _, e1 =>
      simp only [outS1] at e1
      simp [IP_saturateref07_Parse, i_saturateref07_Parse, e1, tup_err]
end
end Go.Proofs.YtkofimhnehkdoaaGreatDoor.Rf
end
section
/- How many nodes are left: plain. -/
set_option linter.unusedSimpArgs false
set_option linter.unusedVariables false
namespace Go.Proofs.YtkofimhnehkdoaaGreatDoor.Rf
mutual
def T.cnt : T → Int → Int → Int
  | .mk _ _ _ _ _ as, d, n => if d < 1 ∨ n < 1 then -1 else T.cnts as (d - 1) (n - 1)
def T.cnts : List T → Int → Int → Int
  | [], _, n => n
  | t :: r, d, n => if 0 ≤ n then T.cnts r d (t.cnt d n) else n
end
theorem T.cnt_eq (t : T) (d n : Int) : t.cnt d n = if d < 1 ∨ n < 1 then -1 else T.cnts t.args (d - 1) (n - 1) := by cases t; rfl
theorem T.cnts_neg : ∀ (l : List T) (d n : Int), n < 0 → T.cnts l d n = n
  | [], d, n, _ => rfl
  | t :: r, d, n, h => by simp only [T.cnts]; rw [if_neg (by omega)]
theorem T.cnt_le (t : T) : ∀ d n : Int, 0 ≤ n → -1 ≤ t.cnt d n ∧ t.cnt d n ≤ n := by
  induction t using T.ind with | h t ih =>
  have hl : ∀ (l : List T), (∀ u, u ∈ l → ∀ d n : Int, 0 ≤ n → -1 ≤ u.cnt d n ∧ u.cnt d n ≤ n) → ∀ d n : Int, -1 ≤ n → -1 ≤ T.cnts l d n ∧ T.cnts l d n ≤ n := by
    intro l
    induction l with
    | nil => intro _ d n h; simp only [T.cnts]; omega
    | cons x r ihr =>
      intro h d n hn
      simp only [T.cnts]
      split
      · rename_i h0
        have h1 := h x (by simp) d n h0
        have h2 := ihr (fun u hu => h u (by simp [hu])) d (x.cnt d n) h1.1
        omega
      · omega
  intro d n hn
  rw [T.cnt_eq]
  split
  · omega
  · have := hl t.args ih (d - 1) (n - 1) (by omega); omega
theorem T.cnt_ge (t : T) : ∀ d n : Int, 0 ≤ t.cnt d n → t.cnt d n = n - t.size := by
  induction t using T.ind with | h t ih =>
  have hl : ∀ (l : List T), (∀ u, u ∈ l → ∀ d n : Int, 0 ≤ u.cnt d n → u.cnt d n = n - u.size) → ∀ d n : Int, 0 ≤ T.cnts l d n → T.cnts l d n = n - T.sizes l := by
    intro l
    induction l with
    | nil => intro _ d n _; simp [T.cnts, T.sizes]
    | cons x r ihr =>
      intro h d n hn
      simp only [T.cnts] at hn ⊢
      split
      · rename_i h0
        rw [if_pos h0] at hn
        by_cases hx : 0 ≤ x.cnt d n
        · rw [ihr (fun u hu => h u (by simp [hu])) _ _ hn, h x (by simp) d n hx]; simp only [T.sizes]; omega
        · rw [T.cnts_neg r _ _ (by omega)] at hn; exact absurd hn hx
      · rename_i h0; rw [if_neg h0] at hn; exact absurd hn h0
  intro d n hn
  rw [T.cnt_eq] at hn ⊢
  split at hn
  · omega
  · rename_i h; rw [if_neg h, hl t.args ih _ _ hn, T.size_eq]; omega
def smallB (t : T) (n : Int) : Bool := decide (0 ≤ t.cnt n n)
theorem small_size {t : T} {n : Int} (h : smallB t n = true) : (t.size : Int) ≤ n := by
  simp only [smallB, decide_eq_true_eq] at h
  have := T.cnt_ge t n n h; omega
end Go.Proofs.YtkofimhnehkdoaaGreatDoor.Rf
end
section
/- The reference's equality and size of terms. -/
set_option linter.unusedSimpArgs false
set_option linter.unusedVariables false
namespace Go.Proofs.YtkofimhnehkdoaaGreatDoor.Rf
section
variable {hp : List HObj} {lo : Nat}
theorem sames6_of {as : List T} (ih : ∀ t, t ∈ as → ∀ (u : T) (hp : List HObj) (lo : Nat) (q : Bool), callD G0 IP n_saturateref06_Same [t.av, u.av] hp lo q = some (.ret (.bool (t.same u)) hp)) (bs : List T) (hl : as.length ≤ 9223372036854775807) (o1 o2 : Own) (hp : List HObj) (lo : Nat) (q : Bool) :
    callD G0 IP n_saturateref06_SameAll [.list (T.avs as) o1, .list (T.avs bs) o2] hp lo q = some (.ret (.bool (T.sames as bs)) hp) := by
  rw [callD_eq]
  by_cases he : as.length = bs.length
  · have hloop := loop_find (G := G0) (IP := IP) (lo := hp.length) (b := l_saturateref06_SameAll_0)
      (fun i => ⟨[(0, .list (T.avs as) o1), (1, .list (T.avs bs) o2), (5, .int .i64 i)], hp⟩) as.length (fun i => !(as.getD i (.mk 0 0 0 [] true [])).same (bs.getD i (.mk 0 0 0 [] true [])))
      (.ret, ⟨[(4, .bool false)], hp⟩) (.exit 0, ⟨[(0, .list (T.avs as) o1), (1, .list (T.avs bs) o2), (5, .int .i64 as.length), (14, .bool false)], hp⟩)
      (fun i hi hp1 => by
        have hi2 : i < bs.length := by omega
        have e1 := ih as[i] (List.getElem_mem hi) bs[i] hp hp.length true
        have h2 : as[i].same bs[i] = true := by simpa [hi, hi2] using hp1
        rw [h2, T.av_eq, T.av_eq] at e1
        have hiI : (i : Int) < (as.length : Int) := by omega
        have hiI2 : (i : Int) < (bs.length : Int) := by omega
        have hw := wrap_succ hi hl
        simp [l_saturateref06_SameAll_0, hi, hi2, hiI, hiI2, T.av_eq as[i], T.av_eq bs[i], e1, hw])
      (fun i hi hp1 => by
        have hi2 : i < bs.length := by omega
        have e1 := ih as[i] (List.getElem_mem hi) bs[i] hp hp.length true
        have h2 : as[i].same bs[i] = false := by simpa [hi, hi2] using hp1
        rw [h2, T.av_eq, T.av_eq] at e1
        have hiI : (i : Int) < (as.length : Int) := by omega
        have hiI2 : (i : Int) < (bs.length : Int) := by omega
        simp [l_saturateref06_SameAll_0, hi, hi2, hiI, hiI2, T.av_eq as[i], T.av_eq bs[i], e1])
      (fun s => by simp) (by simp [l_saturateref06_SameAll_0]) (fun s => by simp)
    have hI : (as.length : Int) = (bs.length : Int) := by omega
    rw [T.sames_eq as bs he]
    simp only [Int.natCast_zero] at hloop
    cases hany : (List.range as.length).any fun i => !(as.getD i (.mk 0 0 0 [] true [])).same (bs.getD i (.mk 0 0 0 [] true []))
    · rw [hany] at hloop
      simp only [Bool.false_eq_true, if_false] at hloop
      simp [IP_saturateref06_SameAll, i_saturateref06_SameAll, hI, hloop]
    · rw [hany] at hloop
      simp only [if_true] at hloop
      simp [IP_saturateref06_SameAll, i_saturateref06_SameAll, hI, hloop]
  · have hI : ¬ (as.length : Int) = (bs.length : Int) := by omega
    rw [T.sames_len as bs he]
    simp [IP_saturateref06_SameAll, i_saturateref06_SameAll, hI]
set_option maxHeartbeats 1000000 in
theorem same6_D (t : T) : t.wf → ∀ (u : T) (hp : List HObj) (lo : Nat) (q : Bool), callD G0 IP n_saturateref06_Same [t.av, u.av] hp lo q = some (.ret (.bool (t.same u)) hp) := by
  induction t using T.ind with | h t ih =>
  intro hw u hp lo q
  rw [T.wf_eq] at hw
  have e1 := fun q => sames6_of (as := t.args) (fun x hx => ih x hx (hw.2.2.2.2.2.2 x hx)) u.args hw.2.2.2.2.1 (ownB t.o) (ownB u.o) hp hp.length q
  rw [callD_eq, T.same_eq]
  rw [T.av_eq t, T.av_eq u]
  by_cases h1 : t.op = u.op
  · by_cases h2 : t.width = u.width
    · by_cases h3 : t.val = u.val
      · by_cases h4 : t.name = u.name
        · simp [IP_saturateref06_Same, i_saturateref06_Same, h1, h2, h3, h4, e1]
        · simp [IP_saturateref06_Same, i_saturateref06_Same, h1, h2, h3, h4]
      · simp [IP_saturateref06_Same, i_saturateref06_Same, h1, h2, h3]
    · simp [IP_saturateref06_Same, i_saturateref06_Same, h1, h2]
  · simp [IP_saturateref06_Same, i_saturateref06_Same, h1]
theorem count_D (t : T) : t.wf → ∀ (d n : Int), -1000 ≤ d → d ≤ 1000 → 0 ≤ n → n ≤ 1000 → ∀ (hp : List HObj) (lo : Nat) (q : Bool), callD G0 IP n_saturateref06_count [t.av, .int .i64 d, .int .i64 n] hp lo q = some (.ret (.int .i64 (t.cnt d n)) hp) := by
  induction t using T.ind with | h t ih =>
  intro hw d n hd0 hd1 h0 h1 hp lo q
  rw [T.wf_eq] at hw
  obtain ⟨_, _, _, _, hl, _, hws⟩ := hw
  have hloop : ∀ (k i : Nat) (n : Int), i + k = t.args.length → -1 ≤ n → n ≤ 1000 → 1 ≤ d → ∃ j : Int, loopD G0 IP hp.length l_saturateref06_count_0 ⟨[(1, .int .i64 d), (2, .int .i64 n), (3, .box t.cells), (7, .int .i64 i)], hp⟩ =
      some (.exit 0, ⟨[(1, .int .i64 d), (2, .int .i64 (T.cnts (t.args.drop i) (d - 1) n)), (3, .box t.cells), (7, .int .i64 j), (24, .bool false)], hp⟩) := by
    intro k
    induction k with
    | zero =>
      intro i n hi _ _ _
      have hI : ¬ (i : Int) < (t.args.length : Int) := by omega
      refine ⟨i, ?_⟩
      rw [loopD_eq, loopBody, List.drop_eq_nil_of_le (by omega)]
      simp [l_saturateref06_count_0, hI, T.cnts]
    | succ k ihk =>
      intro i n hi hn0 hn hd
      have hlt : i < t.args.length := by omega
      have hI : (i : Int) < (t.args.length : Int) := by omega
      rw [List.drop_eq_getElem_cons hlt]
      simp only [T.cnts]
      by_cases hneg : 0 ≤ n
      · have e1 := ih t.args[i] (List.getElem_mem hlt) (hws _ (List.getElem_mem hlt)) (d - 1) n (by omega) (by omega) hneg hn hp hp.length false
        have hle := T.cnt_le t.args[i] (d - 1) n hneg
        obtain ⟨j, e2⟩ := ihk (i + 1) (t.args[i].cnt (d - 1) n) (by omega) hle.1 (by omega) hd
        have hw1 := wrap_succ hlt hl
        have hw2 : IntKind.wrap .i64 (d - 1) = d - 1 := wrap_small (by omega) (by omega)
        rw [T.av_eq] at e1
        refine ⟨j, ?_⟩
        rw [loopD_eq, loopBody, if_pos hneg]
        simp [l_saturateref06_count_0, hI, hlt, hneg, T.av_eq t.args[i], hw2, e1, hw1]
        exact e2
      · refine ⟨i, ?_⟩
        rw [loopD_eq, loopBody, if_neg hneg]
        simp [l_saturateref06_count_0, hI, hlt, hneg]
  rw [callD_eq, T.cnt_eq, T.av_eq]
  by_cases hd : d < 1
  · simp [IP_saturateref06_count, i_saturateref06_count, hd]
  · by_cases hn : n < 1
    · simp [IP_saturateref06_count, i_saturateref06_count, hd, hn]
    · obtain ⟨j, e2⟩ := hloop t.args.length 0 (n - 1) (by omega) (by omega) (by omega) (by omega)
      have hw2 : IntKind.wrap .i64 (n - 1) = n - 1 := wrap_small (by omega) (by omega)
      simp at e2
      simp [IP_saturateref06_count, i_saturateref06_count, hd, hn, hw2, e2]
theorem light_D (t : T) (hw : t.wf) (d n : Int) (hd0 : -1000 ≤ d) (hd1 : d ≤ 1000) (h0 : 0 ≤ n) (h1 : n ≤ 1000) (hp : List HObj) (lo : Nat) (q : Bool) : ∃ v : T, callD G0 IP n_saturateref06_Light [t.av, .int .i64 d, .int .i64 n] hp lo q = some (.ret (.tup [v.av, .bool (decide (0 ≤ t.cnt d n))]) hp) := by
  have e1 := count_D t hw d n hd0 hd1 h0 h1
  rw [callD_eq]
  rw [T.av_eq] at e1 ⊢
  by_cases h : 0 ≤ t.cnt d n
  · have h' : ¬ t.cnt d n < 0 := by omega
    exact ⟨t, by simp [IP_saturateref06_Light, i_saturateref06_Light, e1, h, h', T.av_eq, T.avs_closed]⟩
  · have h' : t.cnt d n < 0 := by omega
    exact ⟨.mk 0 0 0 [] true [], by simp [IP_saturateref06_Light, i_saturateref06_Light, e1, h, h']; rfl⟩
theorem small7_D (t : T) (hw : t.wf) (n : Int) (h0 : 0 ≤ n) (h1 : n ≤ 1000) (hp : List HObj) (lo : Nat) (q : Bool) : callD G0 IP n_saturatelaw07_small [t.av, .int .i64 n] hp lo q = some (.ret (.bool (smallB t n)) hp) := by
  obtain ⟨v, e1⟩ := light_D t hw n n (by omega) h1 h0 h1 hp hp.length false
  rw [callD_eq]
  rw [T.av_eq, T.av_eq] at e1
  rw [T.av_eq]
  simp [IP_saturatelaw07_small, i_saturatelaw07_small, e1, smallB]
end
end Go.Proofs.YtkofimhnehkdoaaGreatDoor.Rf
end
section
/- The chapter's examples. -/
namespace Go.Proofs.YtkofimhnehkdoaaGreatDoor.Rf
set_option maxRecDepth 100000 in
theorem txlives_ok : (run G0 IP 100).1 n_saturatelaw07_lives [] [] 0 false = some (.ret (.bool true) []) := by kernel_rfl
end Go.Proofs.YtkofimhnehkdoaaGreatDoor.Rf
end
section
/- The laws of reading and of parsing. -/
set_option linter.unusedSimpArgs false
set_option linter.unusedVariables false
namespace Go.Proofs.YtkofimhnehkdoaaGreatDoor.Rf
theorem lives7_D : callD G0 IP n_saturatelaw07_lives [] [] 0 false = some (.ret (.bool true) []) := callD_iff.2 ⟨100, txlives_ok⟩
mutual
theorem T.same_refl : ∀ t : T, t.same t = true
  | .mk _ _ _ _ _ as => by simp [T.same, T.sames_refl as]
theorem T.sames_refl : ∀ as : List T, T.sames as as = true
  | [] => rfl
  | t :: r => by simp [T.sames, T.same_refl t, T.sames_refl r]
end
theorem S.sm_of_wt (t : S) : t.wt ≤ 1000000 → t.sm := by
  induction t using S.ind with | h t ih =>
  intro h
  rw [S.wt_eq] at h
  rw [S.sm_eq]
  exact ⟨by omega, fun u hu => ih u hu (by have := S.wts_mem t.list u hu; omega)⟩
theorem z_wf : T.z.wf := by simp [T.z, T.wf, T.wfs, Lit.wf]; decide
theorem TR.t_wf {e : S} : (readS e).t.wf := by
  cases h : readS e with
  | err c => exact z_wf
  | ok t => exact (readS_valid e t h).2
theorem parseT_wf {s : List UInt8} : (parseT s).t.wf := by
  cases h : parseT s with
  | err c => exact z_wf
  | ok t => exact (parseT_valid h).2
theorem tup_eq (r : TR) (hp : List HObj) : r.tup hp = .ret (.tup [.agg [.int .i64 r.t.op, .int .i64 r.t.width, .int .u64 r.t.val, .str r.t.name, .list (T.avs r.t.args) (ownB r.t.o)], .int .i64 r.e]) hp := by
  unfold TR.tup; rw [T.av_eq]
theorem termtextReads_D (e : S) (hw : e.wf) (q : Bool) : callD G0 IP n_saturatelaw07_TermtextReads [e.av] [] 0 q = some (.ret (.bool true) []) := by
  have e1 := few_D (lo := 0) hw (n := 200) (by omega) (by omega) (hp := []) false
  rw [callD_eq]
  cases hf : fewB e 200 with
  | false =>
    rw [hf] at e1
    rw [S.av_eq] at e1 ⊢
    simp [IP_saturatelaw07_TermtextReads, i_saturatelaw07_TermtextReads, e1, lives7_D]
  | true =>
    have hsm := S.sm_of_wt e (by have := few_wt hf; omega)
    have e2 := read_D e hsm [] 0 false
    have e3 := read7_D e hsm [] 0 false
    have e4 := same6_D (readS e).t TR.t_wf (readS e).t [] 0 false
    rw [T.same_refl] at e4
    rw [hf] at e1
    rw [tup_eq] at e2 e3
    rw [T.av_eq] at e4
    rw [S.av_eq] at e1 e2 e3 ⊢
    simp [IP_saturatelaw07_TermtextReads, i_saturatelaw07_TermtextReads, e1, e2, e3, e4, lives7_D]
theorem termtextParses_D (s : List UInt8) (q : Bool) : callD G0 IP n_saturatelaw07_TermtextParses [.str s] [] 0 q = some (.ret (.bool true) []) := by
  rw [callD_eq]
  by_cases h : (s.length : Int) > 500
  · have h : (500 : Int) < s.length := h
    simp [IP_saturatelaw07_TermtextParses, i_saturatelaw07_TermtextParses, h, lives7_D]
  · have h : ¬ (500 : Int) < s.length := h
    have e2 := parseT_D s [] 0 false
    have e3 := parse7_D s [] 0 false
    have e4 := same6_D (parseT s).t parseT_wf (parseT s).t [] 0 false
    rw [T.same_refl] at e4
    rw [tup_eq] at e2 e3
    rw [T.av_eq] at e4
    simp [IP_saturatelaw07_TermtextParses, i_saturatelaw07_TermtextParses, h, e2, e3, e4, lives7_D]
end Go.Proofs.YtkofimhnehkdoaaGreatDoor.Rf
end
