/- A part of the proof: see the last text. -/
import Derived.Test.YtkofimhnehkdoaaDoorRfG9
import Derived.Test.YtkofimhnehkdoaaDoorRfG8
import Derived.Test.YtkofimhnehkdoaaDoorRfG6
import Derived.Test.YtkofimhnehkdoaaDoorRfG7
section
set_option linter.unusedSimpArgs false
set_option linter.unusedVariables false
namespace Go.Proofs.YtkofimhnehkdoaaDoor.Rf
def ownW (acc : List T) : Own := if acc.isEmpty then .nil else .own 1 0
@[simp] theorem ownW_cp (acc : List T) : (ownW acc).cp = ownB acc.isEmpty := by cases acc <;> rfl
@[simp] theorem ownW_app (acc : List T) (x : T) : ownW (acc ++ [x]) = .own 1 0 := by cases acc <;> rfl
theorem ownW_ok (acc : List T) : ownW acc = .nil ∨ ownW acc = .own 1 0 := by cases acc <;> simp [ownW]
abbrev frT (op v w : Int) (acc : List T) (l : List S) (o : Own) (i : Int) : Fr := [(2, boxZ), (3, .int .i64 op), (7, .box [.int .i64 op, .int .i64 w, .int .u64 v, .str [], .list (T.avs acc) (ownT acc)]), (8, .list (wds acc) (ownW acc)), (75, .list (S.avs l) o), (76, .int .i64 l.length), (77, .int .i64 i)]
def outT (op v w : Int) (hp : List HObj) (acc : List T) (l : List S) (o : Own) : TRs → Ex × St → Prop
  | .err c, r => ∃ fr, r = (.pan (.iface 42 (.agg [.int .i64 c])), ⟨fr, hp⟩)
  | .ok ts, r => r = (.exit 0, ⟨frT op v w (acc ++ ts) l o l.length ++ [(78, .bool false)], hp⟩)
theorem outT_cons (op v w : Int) (hp : List HObj) (acc : List T) (l : List S) (o : Own) (t : T) (s : TRs) (r : Ex × St) : outT op v w hp acc l o (TRs.cons (.ok t) s) r ↔ outT op v w hp (acc ++ [t]) l o s r := by
  cases s <;> simp [outT, TRs.cons]
section
variable {hp : List HObj} {lo : Nat} (q : Bool)
set_option maxHeartbeats 1000000 in
theorem readT_L (op v w : Int) (l : List S) (o : Own) (hl10 : l.length ≤ 10) : ∀ (r p : List S) (acc : List T), l = p ++ r → acc.length ≤ p.length →
    (∀ x, x ∈ r → ∀ (hp : List HObj) (lo : Nat), callD G0 IP n_termtext_read [x.av] hp lo false = some ((readS x).out hp)) →
    ∃ res, loopD G0 IP lo l_termtext_read_0 ⟨frT op v w acc l o p.length, hp⟩ = some res ∧ outT op v w hp acc l o (readsS r 0) res
  | [], p, acc, h, ha, _ => by
    rw [loopD_eq, loopBody]
    simp at h
    subst h
    simp [l_termtext_read_0, readsS, outT]
  | x :: r, p, acc, h, ha, ih => by
    rw [loopD_eq, loopBody]
    have hlen : l.length = p.length + (r.length + 1) := by rw [h]; simp
    have h1 : (p.length : Int) < (l.length : Int) := by omega
    have hl : p.length < l.length := by omega
    have h2 : l[p.length] = x := by simp [h]
    have hw : IntKind.wrap .i64 ((p.length : Int) + 1) = (p.length : Int) + 1 := wrap_small (by omega) (by omega)
    have e1 := ih x (by simp) hp lo
    rw [readsS]
    cases hx : readS x with
    | err c =>
      rw [hx] at e1
      simp only [TR.out] at e1
      rw [S.av_eq] at e1
      simp [l_termtext_read_0, hl, h1, h2, S.av_eq x, e1, TRs.cons, outT]
    | ok t =>
      rw [hx] at e1
      simp only [TR.out] at e1
      rw [S.av_eq, T.av_eq] at e1
      obtain ⟨res, e2, e3⟩ := readT_L op v w l o hl10 r (p ++ [x]) (acc ++ [t]) (by rw [h]; simp) (by simp; omega) (fun y hy => ih y (by simp [hy]))
      simp only [List.length_append, List.length_cons, List.length_nil, Nat.zero_add, Int.natCast_add, Int.natCast_one] at e2
      have hb1 : (acc.length + 1) * 64 ≤ 140737488355328 := by omega
      have hb2 : acc.length + 1 ≤ 9223372036854775807 := by omega
      have hb3 : (acc.length + 1) * 8 ≤ 140737488355328 := by omega
      rw [frT, wds_app, T.avs_app, ownT_app, ownW_app, show T.avs [t] = [.agg [.int .i64 t.op, .int .i64 t.width, .int .u64 t.val, .str t.name, .list (T.avs t.args) (ownB t.o)]] by simp [T.avs, T.av_eq]] at e2
      refine ⟨res, ?_, (outT_cons ..).2 e3⟩
      simp [l_termtext_read_0, hl, h1, h2, S.av_eq x, e1, hb1, hb2, hb3, ownT_ok, ownW_ok, hw]
      exact e2
theorem out_err (hp : List HObj) (c : Int) : (TR.err c).out hp = .pan (.iface 42 (.agg [.int .i64 c])) hp := rfl
theorem out_ok (hp : List HObj) (t : T) : (TR.ok t).out hp = .ret t.av hp := rfl
set_option maxHeartbeats 4000000 in
theorem readT_D (e : S) : e.sm → ∀ (hp : List HObj) (lo : Nat), callD G0 IP n_termtext_read [e.av] hp lo false = some ((readS e).out hp) := by
  induction e using S.ind with | h e ih =>
  intro hsm hp lo
  rw [S.sm_eq] at hsm
  obtain ⟨ha, hs⟩ := hsm
  rw [callD_eq, S.av_eq]
  cases e with | mk a o l =>
  simp only [S.atom, S.list, S.o] at *
  rw [readS]
  by_cases h0 : a = []
  · subst h0
    rw [if_neg (by simp)]
    cases l with
    | nil =>
      simp [IP_termtext_read, i_termtext_read, must_D, headR, out_err]
    | cons x r =>
      have hx : (x :: r).getD 0 S.z = x := rfl
      rw [hx]
      have e1 := fun (hp : List HObj) (lo : Nat) (q : Bool) => opOf_D (hp := hp) (lo := lo) q x.atom
      have hgt : (0 : Int) < (r.length : Int) + 1 := by omega
      cases hok : (ofE x.atom).2 with
      | false =>
        have hR : headR (x :: r) = false := by unfold headR; rw [hx, hok]; simp
        rw [if_pos hR]
        simp [IP_termtext_read, i_termtext_read, must_D, S.avs, S.av_eq x, e1, hok, hgt, out_err]
      | true =>
        have hop := ofE_ok hok
        have hbd := arE_bd (ofE x.atom).1
        have hnb := numsN_bd (ofE x.atom).1
        have hR : headR (x :: r) = (!decide (arE (ofE x.atom).1 = 0) && decide (((x :: r).length : Int) = 1 + numsN (ofE x.atom).1 + arE (ofE x.atom).1)) := by unfold headR; rw [hx, hok]; simp
        rw [hR]
        generalize (ofE x.atom).1 = op at *
        have hge := arE_ge hop
        by_cases k1 : arE op = 0
        · rw [if_pos (by simp [k1])]
          simp [IP_termtext_read, i_termtext_read, must_D, S.avs, S.av_eq x, e1, hok, hgt, out_err, opLeaf_D, k1]
        · have hw2 : IntKind.wrap .i64 ((numsN op : Int) + arE op) = (numsN op : Int) + arE op := wrap_small (by omega) (by omega)
          by_cases k3 : (r.length : Int) = (numsN op : Int) + arE op
          · rw [if_neg (by simp [k1]; omega)]
            have k3' : (numsN op : Int) + arE op = (r.length : Int) := k3.symm
            have hw3 : IntKind.wrap .i64 (r.length : Int) = (r.length : Int) := by rw [k3]; exact hw2
            have ihl : ∀ y, y ∈ x :: r → ∀ (hp : List HObj) (lo : Nat), callD G0 IP n_termtext_read [y.av] hp lo false = some ((readS y).out hp) := fun y hy => ih y hy (hs y hy)
            have tail : ∀ (w v : Int), 0 ≤ v → ∀ (ts : List T), ts.length ≤ 10 → ∀ (hp : List HObj) (lo : Nat) (q : Bool) (oo : Own), callD G0 IP n_opinfo_Width [.int .i64 op, .int .i64 w, .int .u64 v, .list (wds ts) oo] hp lo q = some (.ret (.tup [.int .i64 (widE op w v (ts.map T.width)).1, .int .i64 (widE op w v (ts.map T.width)).2]) hp) :=
              fun w v hv ts ht hp lo q oo => width_D q op w v hv (ts.map T.width) oo (by rw [List.length_map]; omega)
            have num : ∀ (y : S), y ∈ x :: r → ∀ (hp : List HObj) (lo : Nat) (m : Int) (o : Own), callD G0 IP n_termtext_number [.agg [.str y.atom, .list (S.avs y.list) o], .int .u64 m] hp lo false = some (TR1 hp .u64 (numR y.atom m)) :=
              fun y hy hp lo m o => number_D y.atom o (S.avs y.list) ((S.sm_eq y).1 (hs y hy)).1 m
            have hN : ∀ (hp : List HObj) (lo : Nat) (q : Bool), callD G0 IP n_termtext_numerals [.int .i64 op] hp lo q = some (.ret (.int .i64 (numsN op)) hp) := fun hp lo q => ttNumerals_D q op
            by_cases h21 : op = 21
            · have n2 : numsN op = 2 := by subst h21; rfl
              have a1 : arE op = 1 := by subst h21; rfl
              rw [n2, a1] at k3 k3'
              match r, k3 with
              | [y, z, u], _ =>
                simp only [n2] at hN
                have hA : ∀ (hp : List HObj) (lo : Nat) (q : Bool), callD G0 IP n_opinfo_Arity [.int .i64 op] hp lo q = some (.ret (.int .i64 1) hp) := fun hp lo q => by rw [arity_D, a1]
                have hw : IntKind.wrap .i64 3 = 3 := rfl
                have hw1 : IntKind.wrap .i64 1 = 1 := rfl
                have by1 := numR_bd y.atom 18446744073709551615 (by omega)
                have bz := numR_bd z.atom 64 (by omega)
                have wz : IntKind.wrap .i64 (numR z.atom 64).1 = (numR z.atom 64).1 := wrap_small (by omega) (by omega)
                have ey := num y (by simp)
                have ez := num z (by simp)
                have g1 : [x, y, z, u].getD 1 S.z = y := rfl
                have g2 : [x, y, z, u].getD 2 S.z = z := rfl
                have hnr : numsR op [x, y, z, u] = (if (numR y.atom 18446744073709551615).2 ≠ 0 then (0, 0, (numR y.atom 18446744073709551615).2) else if (numR z.atom 64).2 ≠ 0 then (0, 0, (numR z.atom 64).2) else ((numR y.atom 18446744073709551615).1, (numR z.atom 64).1, 0)) := by
                  unfold numsR; rw [if_pos h21, g1, g2]
                rw [hnr]
                by_cases m1 : (numR y.atom 18446744073709551615).2 = 0
                · by_cases m2 : (numR z.atom 64).2 = 0
                  · rw [if_neg (by simp [m1, m2])]
                    simp only [m1, m2]
                    obtain ⟨res, l1, l2⟩ := readT_L (hp := hp) (lo := hp.length) op (numR y.atom 18446744073709551615).1 (numR z.atom 64).1 [u] .no (by simp) [u] [] [] rfl (by simp) (fun x hx => ihl x (by simp at hx; simp [hx]))
                    have e9 : readsS [x, y, z, u] (1 + numsN op) = readsS [u] 0 := by rw [n2]; rfl
                    rw [e9]
                    simp [frT, S.avs, S.av_eq u, ownT, ownW, T.avs] at l1
                    cases hrs : readsS [u] 0 with
                    | err c =>
                      rw [hrs] at l2
                      obtain ⟨fr, rfl⟩ := l2
                      simp [IP_termtext_read, i_termtext_read, must_D, S.avs, S.av_eq x, S.av_eq y, S.av_eq z, S.av_eq u, e1, hok, hgt, opLeaf_D, hA, k1, hw, hN, ey, ez, TR1, hw1, wz, m1, m2, l1, out_err, nodeR]
                    | ok ts =>
                      rw [hrs] at l2
                      simp only [outT, List.nil_append] at l2
                      subst l2
                      have htl := tail (numR z.atom 64).1 (numR y.atom 18446744073709551615).1 by1.1 ts (by have := readsS_len [u] 0 ts hrs; simp at this; omega)
                      simp only [nodeR]
                      by_cases k6 : (widE op (numR z.atom 64).1 (numR y.atom 18446744073709551615).1 (ts.map T.width)).2 = 0
                      · rw [if_neg (by simp [k6])]
                        simp [IP_termtext_read, i_termtext_read, must_D, S.avs, S.av_eq x, S.av_eq y, S.av_eq z, S.av_eq u, e1, hok, hgt, opLeaf_D, hA, k1, hw, hN, ey, ez, TR1, hw1, wz, m1, m2, l1, htl, k6, failT_D, out_ok, T.av]
                      · rw [if_pos (by simp [k6])]
                        simp [IP_termtext_read, i_termtext_read, must_D, S.avs, S.av_eq x, S.av_eq y, S.av_eq z, S.av_eq u, e1, hok, hgt, opLeaf_D, hA, k1, hw, hN, ey, ez, TR1, hw1, wz, m1, m2, l1, htl, k6, failT_D, out_err]
                  · rw [if_pos (by simp [m1, m2])]
                    simp [IP_termtext_read, i_termtext_read, must_D, S.avs, S.av_eq x, S.av_eq y, S.av_eq z, S.av_eq u, e1, hok, hgt, opLeaf_D, hA, k1, hw, hN, ey, ez, TR1, hw1, m1, m2, out_err]
                · rw [if_pos (by simp [m1])]
                  simp [IP_termtext_read, i_termtext_read, must_D, S.avs, S.av_eq x, S.av_eq y, S.av_eq z, S.av_eq u, e1, hok, hgt, opLeaf_D, hA, k1, hw, hN, ey, ez, TR1, hw1, m1, out_err]
            · by_cases h22 : op = 22 ∨ op = 23
              · have n1 : numsN op = 1 := by simp [numsN, h21, h22]
                have a1 : arE op = 1 := by rcases h22 with rfl | rfl <;> rfl
                rw [n1, a1] at k3 k3'
                match r, k3 with
                | [y, u], _ =>
                  simp only [n1] at hN
                  have hA : ∀ (hp : List HObj) (lo : Nat) (q : Bool), callD G0 IP n_opinfo_Arity [.int .i64 op] hp lo q = some (.ret (.int .i64 1) hp) := fun hp lo q => by rw [arity_D, a1]
                  have hw : IntKind.wrap .i64 2 = 2 := rfl
                  have hw1 : IntKind.wrap .i64 0 = 0 := rfl
                  have bz := numR_bd y.atom 64 (by omega)
                  have wz : IntKind.wrap .i64 (numR y.atom 64).1 = (numR y.atom 64).1 := wrap_small (by omega) (by omega)
                  have ey := num y (by simp)
                  have g1 : [x, y, u].getD 1 S.z = y := rfl
                  have hnr : numsR op [x, y, u] = (if (numR y.atom 64).2 ≠ 0 then (0, 0, (numR y.atom 64).2) else (0, (numR y.atom 64).1, 0)) := by
                    unfold numsR; rw [if_neg h21, if_pos h22, g1]
                  rw [hnr]
                  by_cases m2 : (numR y.atom 64).2 = 0
                  · rw [if_neg (by simp [m2])]
                    simp only [m2]
                    obtain ⟨res, l1, l2⟩ := readT_L (hp := hp) (lo := hp.length) op 0 (numR y.atom 64).1 [u] .no (by simp) [u] [] [] rfl (by simp) (fun x hx => ihl x (by simp at hx; simp [hx]))
                    have e9 : readsS [x, y, u] (1 + numsN op) = readsS [u] 0 := by rw [n1]; rfl
                    rw [e9]
                    simp [frT, S.avs, S.av_eq u, ownT, ownW, T.avs] at l1
                    cases hrs : readsS [u] 0 with
                    | err c =>
                      rw [hrs] at l2
                      obtain ⟨fr, rfl⟩ := l2
                      simp [IP_termtext_read, i_termtext_read, must_D, S.avs, S.av_eq x, S.av_eq y, e1, hok, hgt, opLeaf_D, hA, k1, hN, ey, TR1, hw, hw1, wz, m2, S.av_eq u, l1, out_err, nodeR]
                    | ok ts =>
                      rw [hrs] at l2
                      simp only [outT, List.nil_append] at l2
                      subst l2
                      have htl := tail (numR y.atom 64).1 0 (by omega) ts (by have := readsS_len [u] 0 ts hrs; simp at this; omega)
                      simp only [nodeR]
                      by_cases k6 : (widE op (numR y.atom 64).1 0 (ts.map T.width)).2 = 0
                      · rw [if_neg (by simp [k6])]
                        simp [IP_termtext_read, i_termtext_read, must_D, S.avs, S.av_eq x, S.av_eq y, e1, hok, hgt, opLeaf_D, hA, k1, hN, ey, TR1, hw, hw1, wz, m2, S.av_eq u, l1, htl, k6, failT_D, out_ok, T.av]
                      · rw [if_pos (by simp [k6])]
                        simp [IP_termtext_read, i_termtext_read, must_D, S.avs, S.av_eq x, S.av_eq y, e1, hok, hgt, opLeaf_D, hA, k1, hN, ey, TR1, hw, hw1, wz, m2, S.av_eq u, l1, htl, k6, failT_D, out_err]
                  · rw [if_pos (by simp [m2])]
                    simp [IP_termtext_read, i_termtext_read, must_D, S.avs, S.av_eq x, S.av_eq y, e1, hok, hgt, opLeaf_D, hA, k1, hN, ey, TR1, hw, hw1, m2, S.av_eq u, out_err]
              · have n0 : numsN op = 0 := by simp [numsN, h21, h22]
                simp only [n0] at hN
                rw [n0] at k3 k3' hw2
                have ha : arE op = (r.length : Int) := by omega
                have hA : ∀ (hp : List HObj) (lo : Nat) (q : Bool), callD G0 IP n_opinfo_Arity [.int .i64 op] hp lo q = some (.ret (.int .i64 r.length) hp) := fun hp lo q => by rw [arity_D, ha]
                have htk : List.take r.length (S.avs r) = S.avs r := List.take_of_length_le (by simp)
                have hnr : numsR op (x :: r) = (0, 0, 0) := by
                  unfold numsR; rw [if_neg h21, if_neg h22]
                rw [hnr]
                rw [if_neg (by simp)]
                obtain ⟨res, l1, l2⟩ := readT_L (hp := hp) (lo := hp.length) op 0 0 r .no (by omega) r [] [] rfl (by simp) (fun x hx => ihl x (by simp [hx]))
                have e9 : readsS (x :: r) (1 + numsN op) = readsS r 0 := by rw [n0]; rfl
                rw [e9]
                simp [frT, ownT, ownW, T.avs] at l1
                cases hrs : readsS r 0 with
                | err c =>
                  rw [hrs] at l2
                  obtain ⟨fr, rfl⟩ := l2
                  simp [IP_termtext_read, i_termtext_read, must_D, S.avs, S.av_eq x, e1, hok, hgt, opLeaf_D, hA, k1, hN, hw3, htk, l1, out_err, nodeR]
                | ok ts =>
                  rw [hrs] at l2
                  simp only [outT, List.nil_append] at l2
                  subst l2
                  have htl := tail 0 0 (by omega) ts (by have := readsS_len r 0 ts hrs; omega)
                  simp only [nodeR]
                  by_cases k6 : (widE op 0 0 (ts.map T.width)).2 = 0
                  · rw [if_neg (by simp [k6])]
                    simp [IP_termtext_read, i_termtext_read, must_D, S.avs, S.av_eq x, e1, hok, hgt, opLeaf_D, hA, k1, hN, hw3, htk, l1, htl, k6, failT_D, out_ok, T.av]
                  · rw [if_pos (by simp [k6])]
                    simp [IP_termtext_read, i_termtext_read, must_D, S.avs, S.av_eq x, e1, hok, hgt, opLeaf_D, hA, k1, hN, hw3, htk, l1, htl, k6, failT_D, out_err]
          · rw [if_pos (by simp [k1]; omega)]
            simp [IP_termtext_read, i_termtext_read, must_D, S.avs, S.av_eq x, e1, hok, hgt, out_err, opLeaf_D, ttNumerals_D, arity_D, k1, hw2, k3]
  · rw [if_pos h0]
    have e1 := fun (hp : List HObj) (lo : Nat) => leafT_D (hp := hp) (lo := lo) a h0 ha
    cases hx : leafR a with
    | err c => simp [IP_termtext_read, i_termtext_read, h0, e1, hx, out_err]
    | ok t => simp [IP_termtext_read, i_termtext_read, h0, e1, hx, out_ok, T.av_eq t]
end
end Go.Proofs.YtkofimhnehkdoaaDoor.Rf
end
section
set_option linter.unusedSimpArgs false
set_option linter.unusedVariables false
namespace Go.Proofs.YtkofimhnehkdoaaDoor.Rf
abbrev zCells : List AV := [.int .i64 0, .int .i64 0, .int .u64 0, .str [], .list [] .nil]
theorem recvT_D (hp : List HObj) (a b c d f v : AV) (e : Int) (lo : Nat) (hlo : lo ≤ hp.length) : evalRecv G0 IP (callD G0 IP) (loopD G0 IP lo) lo n_termtext_Read_1 [.ptr hp.length 0, .ptr (hp.length + 1) 0]
    (hp ++ [.cells 0 [a, b, c, d, f], .cells 0 [v]]) (.iface 42 (.agg [.int .i64 e])) = some (hp ++ [.cells 0 zCells, .cells 0 [.int .i64 e]]) := by
  have h1 : lo ≤ hp.length + 1 := by omega
  simp [IP_termtext_Read_1, i_termtext_Read_1, hlo, h1, List.getElem?_append_right, List.set_append_right]
theorem recvT0_D (hp : List HObj) (a b c d f v : AV) (lo : Nat) : evalRecv G0 IP (callD G0 IP) (loopD G0 IP lo) lo n_termtext_Read_1 [.ptr hp.length 0, .ptr (hp.length + 1) 0]
    (hp ++ [.cells 0 [a, b, c, d, f], .cells 0 [v]]) .nili = some (hp ++ [.cells 0 [a, b, c, d, f], .cells 0 [v]]) := by
  simp [IP_termtext_Read_1, i_termtext_Read_1]
mutual
theorem T.av_closed (n : Nat) : ∀ t : T, AV.closed n t.av = true
  | .mk a b c d o l => by simp [T.av, AV.closed, AV.closedL, T.avs_closed n l]
theorem T.avs_closed (n : Nat) : ∀ l : List T, AV.closedL n (T.avs l) = true
  | [] => rfl
  | t :: r => by simp [T.avs, AV.closedL, T.av_closed n t, T.avs_closed n r]
end
section
variable {hp : List HObj} {lo : Nat} (q : Bool)
theorem read_D (e : S) (hsm : e.sm) (hp : List HObj) (lo : Nat) (q : Bool) : callD G0 IP n_termtext_Read [e.av] hp lo q = some ((readS e).tup hp) := by
  have e1 := readT_D e hsm
  rw [callD_eq]
  rw [S.av_eq] at e1 ⊢
  cases hx : readS e with
  | err c =>
    rw [hx] at e1
    simp only [out_err] at e1
    simp [-evalRecv, IP_termtext_Read, i_termtext_Read, e1, tup_err, recvT_D]
  | ok t =>
    rw [hx] at e1
    simp only [out_ok] at e1
    rw [T.av_eq] at e1
    simp [-evalRecv, IP_termtext_Read, i_termtext_Read, e1, tup_ok, T.av_eq t, recvT0_D, T.avs_closed]
end
end Go.Proofs.YtkofimhnehkdoaaDoor.Rf
end
section
set_option linter.unusedSimpArgs false
set_option linter.unusedVariables false
namespace Go.Proofs.YtkofimhnehkdoaaDoor.Rf
theorem nameE_plain {op : Int} (h : opOk op = true) : nameE op ≠ [] ∧ (nameE op).length ≤ 7 ∧ ∀ c, c ∈ nameE op → plainC (c.toNat : Int) = true := by
  rcases opOk_cases h with rfl | rfl | rfl | rfl | rfl | rfl | rfl | rfl | rfl | rfl | rfl | rfl | rfl | rfl | rfl | rfl | rfl | rfl | rfl | rfl | rfl | rfl | rfl | rfl | rfl | rfl
  all_goals decide +kernel
theorem decI_len {n : Int} (h : n < 18446744073709551616) : (decI n).length ≤ 20 := dec_len20 (by omega)
mutual
theorem T.norm_eq_same : ∀ (t u : T), t.norm = u.norm → t.same u = true
  | .mk op w v n o as, .mk op' w' v' n' o' as', h => by
    simp only [T.norm, T.mk.injEq] at h
    obtain ⟨rfl, rfl, rfl, rfl, _, h⟩ := h
    simp [T.same, T.norms_eq_sames as as' h]
theorem T.norms_eq_sames : ∀ (as bs : List T), T.norms as = T.norms bs → T.sames as bs = true
  | [], [], _ => rfl
  | t :: r, u :: s, h => by
    simp only [T.norms, List.cons.injEq] at h
    simp [T.sames, T.norm_eq_same t u h.1, T.norms_eq_sames r s h.2]
  | [], _ :: _, h => by simp [T.norms] at h
  | _ :: _, [], h => by simp [T.norms] at h
end
end Go.Proofs.YtkofimhnehkdoaaDoor.Rf
end
section
set_option linter.unusedSimpArgs false
set_option linter.unusedVariables false
namespace Go.Proofs.YtkofimhnehkdoaaDoor.Rf
theorem ownB_false : ownB false = .no := rfl
theorem S.avs_cons (x : S) (l : List S) : S.avs (x :: l) = x.av :: S.avs l := rfl
theorem aS_av (a : List UInt8) : (aS a).av = .agg [.str a, .list [] .nil] := rfl
abbrev boxS : AV := .box [.str [], .list [] .nil]
section
variable {hp : List HObj} {lo : Nat}
set_option maxHeartbeats 1000000 in
theorem writeT_L (as : List T) (o : Own) (hl10 : as.length ≤ 10) : ∀ (r p : List T) (acc : List S), as = p ++ r → acc.length ≤ p.length + 10 →
    (∀ x, x ∈ r → ∀ (hp : List HObj) (lo : Nat) (q : Bool), callD G0 IP n_termtext_Write [x.av] hp lo q = some (.ret (writeT x).av hp)) →
    loopD G0 IP lo l_termtext_Write_0 ⟨[(2, boxS), (4, .list (S.avs acc) (.own 2 0)), (76, .list (T.avs as) o), (77, .int .i64 as.length), (78, .int .i64 p.length)], hp⟩ =
      some (.exit 1, ⟨[(2, boxS), (4, .list (S.avs (acc ++ writeTs r)) (.own 2 0)), (76, .list (T.avs as) o), (77, .int .i64 as.length), (78, .int .i64 as.length), (79, .bool false)], hp⟩)
  | [], p, acc, h, ha, _ => by
    rw [loopD_eq, loopBody]
    simp at h
    subst h
    simp [l_termtext_Write_0, writeTs]
  | x :: r, p, acc, h, ha, ih => by
    rw [loopD_eq, loopBody]
    have hlen : as.length = p.length + (r.length + 1) := by rw [h]; simp
    have h1 : (p.length : Int) < (as.length : Int) := by omega
    have hl : p.length < as.length := by omega
    have h2 : as[p.length] = x := by simp [h]
    have hw : IntKind.wrap .i64 ((p.length : Int) + 1) = (p.length : Int) + 1 := wrap_small (by omega) (by omega)
    have e1 := ih x (by simp) hp lo false
    rw [T.av_eq, S.av_eq] at e1
    have e2 := writeT_L as o hl10 r (p ++ [x]) (acc ++ [writeT x]) (by rw [h]; simp) (by simp; omega) (fun y hy => ih y (by simp [hy]))
    simp only [List.length_append, List.length_cons, List.length_nil, Nat.zero_add, Int.natCast_add, Int.natCast_one] at e2
    have hb1 : (acc.length + 1) * 40 ≤ 140737488355328 := by omega
    have hb2 : acc.length + 1 ≤ 9223372036854775807 := by omega
    rw [S.avs_app, show S.avs [writeT x] = [.agg [.str (writeT x).atom, .list (S.avs (writeT x).list) (ownB (writeT x).o)]] by simp [S.avs, S.av_eq]] at e2
    simp [l_termtext_Write_0, hl, h1, h2, T.av_eq x, e1, hb1, hb2, hw]
    refine Eq.trans e2 ?_
    simp [writeTs]
set_option maxHeartbeats 4000000 in
theorem writeT_D (t : T) : t.wf → ∀ (hp : List HObj) (lo : Nat) (q : Bool), callD G0 IP n_termtext_Write [t.av] hp lo q = some (.ret (writeT t).av hp) := by
  induction t using T.ind with | h t ih =>
  intro hw hp lo q
  have hwf := (T.wf_eq t).1 hw
  have en := notable_D t hw
  rw [callD_eq]
  cases t with | mk op w v n o as =>
  simp only [T.op, T.width, T.val, T.name, T.o, T.args] at hwf ih
  rw [T.av_eq] at en ⊢
  simp only [T.op, T.width, T.val, T.name, T.o, T.args] at en ⊢
  rw [writeT]
  cases hN : notE (.mk op w v n o as) with
  | false =>
    rw [hN] at en
    rw [if_pos rfl]
    simp [IP_termtext_Write, i_termtext_Write, en, atom_D, aS_av]
  | true =>
    rw [hN] at en
    rw [if_neg (by simp)]
    have hN2 := hN
    rw [notE_mk] at hN2
    simp only [Bool.and_eq_true, decide_eq_true_eq] at hN2
    obtain ⟨n0, n1, n2, n3⟩ := hN2
    have hop : opOk op = true := arE_ok (by omega)
    have eI := intT_D w n0 n1
    have hv : 0 ≤ v ∧ v < 18446744073709551616 := by
      have := hwf.2.2.1
      simp [Lit.wf, IntKind.min, IntKind.max, IntKind.signed, IntKind.bits] at this; omega
    have eD := decT_D v hv.1 hv.2
    have lI := decI_len (n := w) (by omega)
    have lD := decI_len hv.2
    have nl : (op = 1 ∨ op = 24 ∨ op = 25) → n.length ≤ 16 := fun e => by
      rw [if_pos e] at n3
      simp only [Bool.and_eq_true, decide_eq_true_eq] at n3
      exact (nameOk_mem n3.1).2.1
    generalize hdi : decI w = dw at *
    generalize hdv : decI v = dv at *
    by_cases k1 : op = 1
    · subst k1
      have := nl (by simp)
      have b1 : n.length + 1 ≤ 9223372036854775807 := by omega
      have b2 : n.length + 1 + dw.length ≤ 9223372036854775807 := by omega
      rw [if_pos rfl]
      simp [IP_termtext_Write, i_termtext_Write, en, atom_D, aS_av, eI, b1, b2]
    by_cases k2 : op = 24
    · subst k2
      have := nl (by simp)
      have b1 : 1 + n.length ≤ 9223372036854775807 := by omega
      have b2 : n.length + 1 + 1 ≤ 9223372036854775807 := by omega
      have b3 : n.length + 1 + 1 + dw.length ≤ 9223372036854775807 := by omega
      rw [if_neg (by simp), if_pos rfl]
      simp [IP_termtext_Write, i_termtext_Write, en, atom_D, aS_av, eI, b1, b2, b3]
    by_cases k3 : op = 25
    · subst k3
      have := nl (by simp)
      have b1 : 1 + n.length ≤ 9223372036854775807 := by omega
      have b2 : n.length + 1 + 1 ≤ 9223372036854775807 := by omega
      have b3 : n.length + 1 + 1 + dw.length ≤ 9223372036854775807 := by omega
      rw [if_neg (by simp), if_neg (by simp), if_pos rfl]
      simp [IP_termtext_Write, i_termtext_Write, en, atom_D, aS_av, eI, b1, b2, b3]
    by_cases k4 : op = 2
    · subst k4
      have b1 : dv.length + 1 ≤ 9223372036854775807 := by omega
      have b2 : dv.length + 1 + dw.length ≤ 9223372036854775807 := by omega
      rw [if_neg (by simp), if_neg (by simp), if_neg (by simp), if_pos rfl]
      simp [IP_termtext_Write, i_termtext_Write, en, atom_D, aS_av, eI, eD, b1, b2]
    rw [if_neg k1, if_neg k2, if_neg k3, if_neg k4]
    have hal : as.length ≤ 10 := by have := arE_bd op; omega
    have eN := fun (hp : List HObj) (lo : Nat) (q : Bool) => opName_D (hp := hp) (lo := lo) q op
    have eP := fun (hp : List HObj) (lo : Nat) (q : Bool) => ttNumerals_D (hp := hp) (lo := lo) q op
    have el := fun (acc : List S) (ha : acc.length ≤ 10) (o : Own) => writeT_L (hp := hp) (lo := hp.length) as o hal as [] acc rfl (by simpa using ha) (fun x hx => ih x hx (hwf.2.2.2.2.2.2 x hx))
    by_cases k5 : op = 21
    · subst k5
      have e1 := el [aS (nameE 21), aS dv, aS dw] (by simp)
      simp [S.avs_cons, aS_av] at e1
      have h2 : (numsN 21 : Int) = 2 := rfl
      simp [IP_termtext_Write, i_termtext_Write, en, atom_D, eI, eD, eN, eP, h2, e1, headW, hdi, hdv, S.av, S.avs_app, S.avs_cons, aS_av, ownB_false, S.avs_closed]
    by_cases k6 : op = 22 ∨ op = 23
    · have hn : numsN op = 1 := by simp [numsN, k5, k6]
      have e1 := el [aS (nameE op), aS dw] (by simp)
      simp [S.avs_cons, aS_av] at e1
      simp [IP_termtext_Write, i_termtext_Write, en, atom_D, eI, eD, eN, eP, hn, k1, k2, k3, k4, k5, k6, e1, headW, hdi, hdv, S.av, S.avs_app, S.avs_cons, aS_av, ownB_false, S.avs_closed]
    · have hn : numsN op = 0 := by simp [numsN, k5, k6]
      have e1 := el [aS (nameE op)] (by simp)
      simp [S.avs_cons, aS_av] at e1
      simp [IP_termtext_Write, i_termtext_Write, en, atom_D, eI, eD, eN, eP, hn, k1, k2, k3, k4, k5, k6, e1, headW, hdi, hdv, S.av, S.avs_app, S.avs_cons, aS_av, ownB_false, S.avs_closed]
end
end Go.Proofs.YtkofimhnehkdoaaDoor.Rf
end
section
set_option linter.unusedSimpArgs false
set_option linter.unusedVariables false
namespace Go.Proofs.YtkofimhnehkdoaaDoor.Rf
section
variable {hp : List HObj} {lo : Nat}
end
end Go.Proofs.YtkofimhnehkdoaaDoor.Rf
end
section
set_option linter.unusedSimpArgs false
set_option linter.unusedVariables false
namespace Go.Proofs.YtkofimhnehkdoaaDoor.Rf
end Go.Proofs.YtkofimhnehkdoaaDoor.Rf
end
section
set_option linter.unusedSimpArgs false
set_option linter.unusedVariables false
namespace Go.Proofs.YtkofimhnehkdoaaDoor.Rf
section
variable {hp : List HObj} {lo : Nat}
theorem sames6_of {as : List T} (ih : ∀ t, t ∈ as → ∀ (u : T) (hp : List HObj) (lo : Nat) (q : Bool), callD G0 IP n_saturateref06_Same [t.av, u.av] hp lo q = some (.ret (.bool (t.same u)) hp)) (bs : List T) (hl : as.length ≤ 9223372036854775807) (o1 o2 : Own) (hp : List HObj) (lo : Nat) (q : Bool) :
    callD G0 IP n_saturateref06_SameAll [.list (T.avs as) o1, .list (T.avs bs) o2] hp lo q = some (.ret (.bool (T.sames as bs)) hp) := by
  rw [callD_eq]
  by_cases he : as.length = bs.length
  · have hloop := loop_find (G := G0) (IP := IP) (lo := hp.length) (b := l_saturateref06_SameAll_0)
      (fun i => ⟨[(0, .list (T.avs as) o1), (1, .list (T.avs bs) o2), (5, .int .i64 i)], hp⟩) as.length (fun i => !(as.getD i (.mk 0 0 0 [] true [])).same (bs.getD i (.mk 0 0 0 [] true [])))
      (.ret, ⟨[(4, .bool false)], hp⟩) (.exit 0, ⟨[(0, .list (T.avs as) o1), (1, .list (T.avs bs) o2), (5, .int .i64 as.length), (14, .bool false)], hp⟩)
      (fun i hi hp1 => by
        have hi2 : i < bs.length := by omega
        have e1 := ih as[i] (List.getElem_mem hi) bs[i] hp hp.length true
        have h2 : as[i].same bs[i] = true := by simpa [hi, hi2] using hp1
        rw [h2, T.av_eq, T.av_eq] at e1
        have hiI : (i : Int) < (as.length : Int) := by omega
        have hiI2 : (i : Int) < (bs.length : Int) := by omega
        have hw := wrap_succ hi hl
        simp [l_saturateref06_SameAll_0, hi, hi2, hiI, hiI2, T.av_eq as[i], T.av_eq bs[i], e1, hw])
      (fun i hi hp1 => by
        have hi2 : i < bs.length := by omega
        have e1 := ih as[i] (List.getElem_mem hi) bs[i] hp hp.length true
        have h2 : as[i].same bs[i] = false := by simpa [hi, hi2] using hp1
        rw [h2, T.av_eq, T.av_eq] at e1
        have hiI : (i : Int) < (as.length : Int) := by omega
        have hiI2 : (i : Int) < (bs.length : Int) := by omega
        simp [l_saturateref06_SameAll_0, hi, hi2, hiI, hiI2, T.av_eq as[i], T.av_eq bs[i], e1])
      (fun s => by simp) (by simp [l_saturateref06_SameAll_0]) (fun s => by simp)
    have hI : (as.length : Int) = (bs.length : Int) := by omega
    rw [T.sames_eq as bs he]
    simp only [Int.natCast_zero] at hloop
    cases hany : (List.range as.length).any fun i => !(as.getD i (.mk 0 0 0 [] true [])).same (bs.getD i (.mk 0 0 0 [] true []))
    · rw [hany] at hloop
      simp only [Bool.false_eq_true, if_false] at hloop
      simp [IP_saturateref06_SameAll, i_saturateref06_SameAll, hI, hloop]
    · rw [hany] at hloop
      simp only [if_true] at hloop
      simp [IP_saturateref06_SameAll, i_saturateref06_SameAll, hI, hloop]
  · have hI : ¬ (as.length : Int) = (bs.length : Int) := by omega
    rw [T.sames_len as bs he]
    simp [IP_saturateref06_SameAll, i_saturateref06_SameAll, hI]
set_option maxHeartbeats 1000000 in
theorem same6_D (t : T) : t.wf → ∀ (u : T) (hp : List HObj) (lo : Nat) (q : Bool), callD G0 IP n_saturateref06_Same [t.av, u.av] hp lo q = some (.ret (.bool (t.same u)) hp) := by
  induction t using T.ind with | h t ih =>
  intro hw u hp lo q
  rw [T.wf_eq] at hw
  have e1 := fun q => sames6_of (as := t.args) (fun x hx => ih x hx (hw.2.2.2.2.2.2 x hx)) u.args hw.2.2.2.2.1 (ownB t.o) (ownB u.o) hp hp.length q
  rw [callD_eq, T.same_eq]
  rw [T.av_eq t, T.av_eq u]
  by_cases h1 : t.op = u.op
  · by_cases h2 : t.width = u.width
    · by_cases h3 : t.val = u.val
      · by_cases h4 : t.name = u.name
        · simp [IP_saturateref06_Same, i_saturateref06_Same, h1, h2, h3, h4, e1]
        · simp [IP_saturateref06_Same, i_saturateref06_Same, h1, h2, h3, h4]
      · simp [IP_saturateref06_Same, i_saturateref06_Same, h1, h2, h3]
    · simp [IP_saturateref06_Same, i_saturateref06_Same, h1, h2]
  · simp [IP_saturateref06_Same, i_saturateref06_Same, h1]
end
end Go.Proofs.YtkofimhnehkdoaaDoor.Rf
end
section
set_option linter.unusedSimpArgs false
set_option linter.unusedVariables false
namespace Go.Proofs.YtkofimhnehkdoaaDoor.Rf
set_option maxRecDepth 100000 in
theorem txlives_ok : (run G0 IP 100).1 n_saturatelaw07_lives [] [] 0 false = some (.ret (.bool true) []) := by kernel_rfl
end Go.Proofs.YtkofimhnehkdoaaDoor.Rf
end
section
set_option linter.unusedSimpArgs false
set_option linter.unusedVariables false
namespace Go.Proofs.YtkofimhnehkdoaaDoor.Rf
theorem lives7_D : callD G0 IP n_saturatelaw07_lives [] [] 0 false = some (.ret (.bool true) []) := callD_iff.2 ⟨100, txlives_ok⟩
theorem S.sm_of_wt (t : S) : t.wt ≤ 1000000 → t.sm := by
  induction t using S.ind with | h t ih =>
  intro h
  rw [S.wt_eq] at h
  rw [S.sm_eq]
  exact ⟨by omega, fun u hu => ih u hu (by have := S.wts_mem t.list u hu; omega)⟩
end Go.Proofs.YtkofimhnehkdoaaDoor.Rf
end
section
set_option linter.unusedSimpArgs false
set_option linter.unusedVariables false
namespace Go.Proofs.YtkofimhnehkdoaaDoor.Rf
mutual
theorem write_sm : ∀ t : T, t.wf → (writeT t).sm
  | .mk op w v n o as, hw => by
    simp only [T.wf] at hw
    obtain ⟨_, w2, w3, _, wl, _, w7⟩ := hw
    have wv : 0 ≤ v ∧ v < 18446744073709551616 := by simp [Lit.wf, IntKind.min, IntKind.max, IntKind.signed, IntKind.bits] at w3; omega
    have ih := writes_sm as w7
    have hA : ∀ {a : List UInt8}, a.length ≤ 1000 → (aS a).sm := fun h => by simp only [aS, S.sm, S.sms]; exact ⟨by omega, trivial⟩
    rw [writeT]
    by_cases h : notE (.mk op w v n o as) = false
    · rw [if_pos h]; exact hA (by simp)
    rw [if_neg h]
    have hN : notE (.mk op w v n o as) = true := by cases hh : notE (.mk op w v n o as) <;> simp_all
    rw [notE_mk] at hN
    simp only [Bool.and_eq_true, decide_eq_true_eq] at hN
    obtain ⟨n0, n1, n2, n3⟩ := hN
    have hop : opOk op = true := arE_ok (by omega)
    have l1 := decI_len (n := w) (by omega)
    have l2 := decI_len wv.2
    have nl : (op = 1 ∨ op = 24 ∨ op = 25) → n.length ≤ 16 := fun e => by
      rw [if_pos e] at n3
      simp only [Bool.and_eq_true, decide_eq_true_eq] at n3
      exact (nameOk_mem n3.1).2.1
    by_cases h1 : op = 1
    · have := nl (.inl h1)
      rw [if_pos h1]; exact hA (by simp; omega)
    rw [if_neg h1]
    by_cases h2 : op = 24
    · have := nl (.inr (.inl h2))
      rw [if_pos h2]; exact hA (by simp; omega)
    rw [if_neg h2]
    by_cases h3 : op = 25
    · have := nl (.inr (.inr h3))
      rw [if_pos h3]; exact hA (by simp; omega)
    rw [if_neg h3]
    by_cases h4 : op = 2
    · rw [if_pos h4]; exact hA (by simp; omega)
    rw [if_neg h4]
    have hn := nameE_plain hop
    have k1 := hA (a := nameE op) (by omega)
    have k2 := hA (a := decI v) (by omega)
    have k3 := hA (a := decI w) (by omega)
    have hl : (headW op w v).length ≤ 3 := by unfold headW; split <;> split <;> simp
    have i6 : arE op ≤ 3 := by
      unfold arE; split
      · omega
      · split
        · omega
        · split
          · omega
          · split <;> omega
    simp only [S.sm]
    refine ⟨by simp, ?_⟩
    rw [S.sms_iff]
    intro t ht
    rcases List.mem_append.1 ht with ht | ht
    · have : t = aS (nameE op) ∨ t = aS (decI v) ∨ t = aS (decI w) := by
        unfold headW at ht
        rcases List.mem_cons.1 ht with e | ht
        · exact .inl e
        · rcases List.mem_append.1 ht with ht | ht
          · split at ht
            · simp at ht; exact .inr (.inl ht)
            · simp at ht
          · split at ht
            · simp at ht; exact .inr (.inr ht)
            · simp at ht
      rcases this with rfl | rfl | rfl
      · exact k1
      · exact k2
      · exact k3
    · exact (S.sms_iff _).1 ih t ht
theorem writes_sm : ∀ as : List T, T.wfs as → S.sms (writeTs as)
  | [], _ => trivial
  | t :: r, hw => by
    simp only [T.wfs] at hw
    exact ⟨write_sm t hw.1, writes_sm r hw.2⟩
end
mutual
theorem T.norm_norm : ∀ t : T, t.norm.norm = t.norm
  | .mk op w v n o as => by simp [T.norm, T.norms_norms as, T.norms_isEmpty]
theorem T.norms_norms : ∀ as : List T, T.norms (T.norms as) = T.norms as
  | [] => rfl
  | t :: r => by simp [T.norms, T.norm_norm t, T.norms_norms r]
end
set_option maxHeartbeats 1000000 in
theorem termtextCanon_D (e : S) (hw : e.wf) (q : Bool) : callD G0 IP n_saturatelaw07_TermtextCanon [e.av] [] 0 q = some (.ret (.bool true) []) := by
  have e1 := few_D (lo := 0) hw (n := 200) (by omega) (by omega) (hp := []) false
  rw [callD_eq]
  cases hf : fewB e 200 with
  | false =>
    rw [hf] at e1
    rw [S.av_eq] at e1 ⊢
    simp [IP_saturatelaw07_TermtextCanon, i_saturatelaw07_TermtextCanon, e1, lives7_D]
  | true =>
    have hsm := S.sm_of_wt e (by have := few_wt hf; omega)
    have e2 := read_D e hsm [] 0 false
    rw [hf] at e1
    cases hr : readS e with
    | err c =>
      have hc := readS_ne e c hr
      rw [hr, tup_err] at e2
      rw [S.av_eq] at e1 e2 ⊢
      simp [IP_saturatelaw07_TermtextCanon, i_saturatelaw07_TermtextCanon, e1, e2, hc, lives7_D]
    | ok t =>
      obtain ⟨tv, tw⟩ := readS_valid e t hr
      have e3 := writeT_D t tw [] 0 false
      have e4 := read_D (writeT t) (write_sm t tw) [] 0 false
      rw [read_write t tw tv, tup_ok] at e4
      have e5 := same6_D t tw t.norm [] 0 false
      rw [T.norm_eq_same t t.norm (T.norm_norm t).symm] at e5
      rw [hr, tup_ok] at e2
      rw [S.av_eq e] at e1 e2 ⊢
      rw [S.av_eq (writeT t)] at e3 e4
      rw [T.av_eq t.norm] at e4 e5
      rw [T.av_eq t] at e2 e3 e5
      simp [IP_saturatelaw07_TermtextCanon, i_saturatelaw07_TermtextCanon, e1, e2, e3, e4, e5, lives7_D]
end Go.Proofs.YtkofimhnehkdoaaDoor.Rf
end
