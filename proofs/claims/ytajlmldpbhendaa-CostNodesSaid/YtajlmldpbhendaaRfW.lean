/- One operation of the evaluator's tells what the model does. -/
import Derived.Test.YtajlmldpbhendaaRfX
set_option linter.unusedSimpArgs false
set_option linter.unusedVariables false
namespace Go.Proofs.Ytajlmldpbhendaa.Rf

section
variable {P : Program} {G : Nat → Option (List AV)} {g : Gh} {st : St} {a : Act} {w : World} {o : Oper} {call : CallF} {lo : Nat} {r : OpR}

set_option maxHeartbeats 4000000 in
theorem op_sound (hc : CallOK P G call) (k : Rel G g st [] a.tmps w) {i : IOp} (hk : chkOp P i o.op = true) (hr : evalOp G call lo i st = some r) : Fits P G g st r o a w := by
  cases i with
  | mv x =>
    simp only [evalOp] at hr; cases ret1_some hr
    simp only [chkOp] at hk; split at hk
    · rename_i ho; exact fits_mv k hk (.inl ho)
    · rename_i ho; exact fits_mv k hk (.inr ho)
    · cases hk
  | pick c x y =>
    simp only [chkOp] at hk; split at hk
    · rename_i ho
      simp only [Bool.and_eq_true] at hk
      simp only [evalOp] at hr; split at hr
      · rename_i t ht; cases ret1_some hr; exact fits_pick k hk.1.1 hk.1.2 hk.2 ho ht
      · cases hr
    · cases hk
  | alloc heap cs =>
    simp only [chkOp] at hk; split at hk
    · rename_i ho
      have := fits_alloc (P := P) k hk ho heap
      simp only [evalOp] at hr; cases heap
      · cases ret1_some hr; exact this
      · cases ret1_some hr; exact this
    · cases hk
  | box heap x =>
    simp only [chkOp] at hk; split at hk
    · rename_i ho
      simp only [evalOp] at hr
      split at hr
      · cases hr
      · rename_i hp
        have := fits_box (P := P) k hk ho (by simpa using hp) heap
        cases heap
        · cases ret1_some hr; exact this
        · cases ret1_some hr; exact this
    · cases hk
  | build zs ps =>
    simp only [chkOp] at hk; split at hk
    · rename_i t qs ho
      simp only [Bool.and_eq_true] at hk
      obtain ⟨⟨h1, h2⟩, h3⟩ := hk
      split at h2
      · rename_i pl hpl
        simp only [evalOp] at hr
        split at hr
        · cases hr
        · rename_i hp
          split at hr
          · rename_i cs hcs; cases ret1_some hr
            exact fits_build k h1 hpl h3 h2 (by rw [ho, ← arr_of qs rfl]) (by simpa using hp) hcs
          · cases hr
      · cases h2
    · cases hk
  | bslice z n ps =>
    simp only [chkOp] at hk; split at hk
    · rename_i t m qs ho
      simp only [Bool.and_eq_true, decide_eq_true_eq] at hk
      obtain ⟨⟨h1, rfl⟩, h3⟩ := hk
      simp only [evalOp] at hr
      split at hr
      · cases hr
      · rename_i hp
        split at hr
        · rename_i xs hxs; cases ret1_some hr
          exact fits_bslice k h1 h3 (by rw [ho, ← arr_of qs rfl]) (by simpa using hp) hxs
        · cases hr
    · cases hk
  | load x mm n agg tk =>
    simp only [chkOp] at hk; split at hk
    · rename_i t y ho
      simp only [Bool.and_eq_true] at hk
      simp only [evalOp] at hr
      split at hr
      · cases hr
      split at hr
      · rename_i cs off hb
        split at hr
        · rename_i l hl
          cases tk with
          | false => cases ret1_some hr; exact fits_load k hk.1 hk.2 ho hb hl
          | true =>
            simp only [if_true] at hr
            split at hr
            · rename_i hn
              obtain ⟨rfl, rfl⟩ := hn
              split at hr
              · rename_i st' hput; cases ret1_some hr; exact fits_load_take k hk.1 hk.2 ho hb hl hput
              · cases hr
            · cases hr
        · cases hr
      · cases hr
    · cases hk
  | store x mm v n =>
    simp only [chkOp] at hk; split at hk
    · rename_i t y u ho
      simp only [Bool.and_eq_true] at hk
      obtain ⟨⟨h1, h2⟩, h3⟩ := hk
      have hty : ∃ agg, tyOk P t n agg = true := by
        simp only [Bool.or_eq_true] at h3; rcases h3 with h | h <;> exact ⟨_, h⟩
      obtain ⟨agg, hty⟩ := hty
      simp only [evalOp] at hr
      split at hr
      · cases hr
      · rename_i hp
        simp only [not_or, Bool.not_eq_false] at hp
        replace hp := hp.1
        split at hr
        · rename_i s hx
          split at hr
          · rename_i p tk xs sz hs
            split at hr
            · rename_i hh; cases ret1_some hr; exact fits_store_last k h1 h2 hty ho (by simpa using hp) hx hs hh.1 hh.2.1 hh.2.2.1 hh.2.2.2
            · cases hr
          · cases hr
        · split at hr
          · rename_i cs off hb
            split at hr
            · rename_i hn
              split at hr
              · rename_i st' hput; cases ret1_some hr; exact fits_store k h1 h2 hty ho (by simpa using hp) hb hn hput
              · cases hr
            · cases hr
          · cases hr
    · cases hk
  | nilchk x =>
    simp only [chkOp] at hk; split at hk
    · rename_i y ho
      simp only [evalOp] at hr
      split at hr
      · rename_i i q hv; cases ret1_some hr; exact fits_nilchk k hk ho hv (.inl ⟨_, _, rfl⟩)
      · rename_i i q hv; cases ret1_some hr; exact fits_nilchk k hk ho hv (.inr (.inl ⟨_, _, rfl⟩))
      · rename_i i q hv; cases ret1_some hr; exact fits_nilchk k hk ho hv (.inr (.inr ⟨_, _, rfl⟩))
      · cases hr
    · cases hk
  | bin op' x y =>
    simp only [chkOp] at hk; split at hk
    · rename_i b t x' y' t' ho
      simp only [Bool.and_eq_true, decide_eq_true_eq] at hk
      obtain ⟨⟨rfl, h1⟩, h2⟩ := hk
      simp only [evalOp] at hr
      split at hr
      · rename_i v hv; cases ret1_some hr; exact fits_bin k h1 h2 ho hv
      · cases hr
    · cases hk
  | eq neg kd x y =>
    simp only [chkOp] at hk; split at hk
    · rename_i b t x' y' t' ho
      simp only [Bool.and_eq_true, decide_eq_true_eq] at hk
      obtain ⟨⟨⟨rfl, h0⟩, h1⟩, h2⟩ := hk
      simp only [evalOp] at hr
      split at hr
      · rename_i v hv; cases ret1_some hr; exact fits_eq k h1 h2 h0 ho hv
      · cases hr
    · cases hk
  | un op' x =>
    simp only [chkOp] at hk; split at hk
    · rename_i b t x' ho
      simp only [Bool.and_eq_true, decide_eq_true_eq] at hk
      obtain ⟨rfl, h1⟩ := hk
      simp only [evalOp] at hr
      split at hr
      · rename_i v hv; cases ret1_some hr; exact fits_un k h1 ho hv
      · cases hr
    · cases hk
  | conv kk x =>
    simp only [chkOp] at hk; split at hk
    · rename_i s d x' ho
      simp only [Bool.and_eq_true] at hk
      obtain ⟨⟨h1, h2⟩, h3⟩ := hk
      split at h1
      · rename_i ks hs
        split at h2
        · rename_i k' hd
          simp only [decide_eq_true_eq] at h2; subst h2
          simp only [evalOp] at hr
          split at hr
          · rename_i k0 n hv; cases ret1_some hr; exact fits_conv k h3 hs hd ho hv
          · cases hr
        · cases h2
      · cases h1
    · cases hk
  | sconv x =>
    simp only [chkOp] at hk; split at hk
    · rename_i s d x' ho
      simp only [Bool.and_eq_true] at hk
      obtain ⟨⟨h1, h2⟩, h3⟩ := hk
      split at h1
      · rename_i hs
        split at h2
        · rename_i hd
          simp only [evalOp] at hr
          split at hr
          · rename_i n hv; cases ret1_some hr; exact fits_sconv k h3 hs hd ho hv
          · cases hr
        · cases h2
      · cases h1
    · cases hk
  | mkiface t x =>
    simp only [chkOp] at hk; split at hk
    · rename_i t' x' ho
      simp only [Bool.and_eq_true, decide_eq_true_eq] at hk
      obtain ⟨⟨rfl, h1⟩, h2⟩ := hk
      obtain ⟨e, he, hne⟩ := isIface_no h1
      simp only [evalOp] at hr
      split at hr
      · rename_i hp; cases ret1_some hr; exact fits_mkiface k h2 he hne ho hp
      · cases hr
    · cases hk
  | mkfunc f cs =>
    simp only [chkOp] at hk; split at hk
    · rename_i fn first caps ho
      simp only [Bool.and_eq_true, decide_eq_true_eq] at hk
      obtain ⟨⟨h1, h2⟩, h3⟩ := hk
      split at h1
      · simp only [decide_eq_true_eq] at h1; subst h1
        have hfirst : first = #[] := Array.eq_empty_of_size_eq_zero h2
        subst hfirst
        simp only [evalOp] at hr
        split at hr
        · rename_i hp; cases ret1_some hr; exact fits_mkfunc k h3 (by rw [ho, ← arr_of caps rfl]) hp
        · cases hr
      · cases h1
    · cases hk
  | mkmap =>
    simp only [chkOp] at hk; split at hk
    · rename_i t rr ho
      simp only [evalOp] at hr; cases ret1_some hr
      simp only [Option.isNone_iff_eq_none] at hk; subst hk
      exact fits_mkmap k ho
    · cases hk
  | faddr x off =>
    simp only [chkOp] at hk; split at hk
    · rename_i s y f ho
      simp only [Bool.and_eq_true] at hk
      obtain ⟨h1, h2⟩ := hk
      have hf : ∃ n, fieldOk P s f off n = true := by
        revert h2
        repeat' split
        all_goals first | exact fun h => ⟨_, h⟩ | (intro h; cases h)
      obtain ⟨n, hf⟩ := hf
      simp only [evalOp] at hr
      split at hr
      · rename_i i q hv; cases ret1_some hr; exact fits_faddr k h1 hf ho hv (.inl ⟨_, _, rfl, rfl⟩)
      · rename_i i q hv; cases ret1_some hr; exact fits_faddr k h1 hf ho hv (.inr (.inl ⟨_, _, rfl, rfl⟩))
      · rename_i i q hv; cases ret1_some hr; exact fits_faddr k h1 hf ho hv (.inr (.inr (.inl ⟨_, _, rfl, rfl⟩)))
      · rename_i i q hv; cases ret1_some hr; exact fits_faddr k h1 hf ho hv (.inr (.inr (.inr ⟨_, _, rfl, rfl⟩)))
      · cases hr
    · cases hk
  | field x off n agg =>
    simp only [chkOp] at hk; split at hk
    · rename_i s y f ho
      simp only [Bool.and_eq_true] at hk
      simp only [evalOp] at hr
      split at hr
      · rename_i cs hv
        split at hr
        · rename_i l hl; cases ret1_some hr; exact fits_field k hk.1 hk.2 ho hv hl
        · cases hr
      · cases hr
    · cases hk
  | iaddrL x i sz =>
    simp only [chkOp] at hk; split at hk
    · rename_i t y u ho
      simp only [Bool.and_eq_true] at hk
      obtain ⟨⟨h1, h2⟩, h3⟩ := hk
      simp only [evalOp] at hr
      split at hr
      · rename_i xs ow kk j hj hv
        split at hr
        · rename_i hb
          split at hr
          · rename_i e he
            split at hr
            · rename_i hs; cases ret1_some hr; exact fits_iaddrL k h1 h2 h3 ho hv hj hb.1 hb.2 he hs
            · cases hr
          · cases hr
        · cases hr
      · rename_i s tk kk j hj _
        split at hr
        · rename_i xs sz' hv
          split at hr
          · rename_i hb; obtain ⟨hb1, rfl⟩ := hb; cases ret1_some hr; exact fits_iaddrL_last k h1 h2 h3 ho hv hj hb1
          · cases hr
        · cases hr
      · cases hr
    · cases hk
  | iaddrA x i len sz =>
    simp only [chkOp] at hk; split at hk
    · rename_i t y u ho
      simp only [Bool.and_eq_true] at hk
      obtain ⟨⟨h1, h2⟩, h3⟩ := hk
      simp only [evalOp] at hr
      split at hr
      · rename_i id q kk j hv hj
        split at hr
        · rename_i hb; cases ret1_some hr; exact fits_iaddrA k h1 h2 h3 ho hv hj hb.1 hb.2 (.inl ⟨_, _, rfl, rfl⟩)
        · cases hr
      · rename_i id q kk j hv hj
        split at hr
        · rename_i hb; cases ret1_some hr; exact fits_iaddrA k h1 h2 h3 ho hv hj hb.1 hb.2 (.inr (.inl ⟨_, _, rfl, rfl⟩))
        · cases hr
      · rename_i id q kk j hv hj
        split at hr
        · rename_i hb; cases ret1_some hr; exact fits_iaddrA k h1 h2 h3 ho hv hj hb.1 hb.2 (.inr (.inr (.inl ⟨_, _, rfl, rfl⟩)))
        · cases hr
      · rename_i id q kk j hv hj
        split at hr
        · rename_i hb; cases ret1_some hr; exact fits_iaddrA k h1 h2 h3 ho hv hj hb.1 hb.2 (.inr (.inr (.inr ⟨_, _, rfl, rfl⟩)))
        · cases hr
      · cases hr
    · cases hk
  | idxS x i =>
    simp only [chkOp] at hk; split at hk
    · rename_i t y u ho
      simp only [Bool.and_eq_true] at hk
      obtain ⟨⟨h1, h2⟩, h3⟩ := hk
      split at h3
      · rename_i hu
        simp only [evalOp] at hr
        split at hr
        · rename_i s kk j hv hj
          split at hr
          · rename_i h0
            split at hr
            · rename_i c hcc; cases ret1_some hr; exact fits_idxS k h1 h2 hu ho hv hj h0 hcc
            · cases hr
          · cases hr
        · cases hr
      · cases h3
    · cases hk
  | slcS x l h =>
    simp only [chkOp] at hk; split at hk
    · rename_i t y l' h' m' ho
      simp only [Bool.and_eq_true, Option.isNone_iff_eq_none] at hk
      obtain ⟨⟨⟨⟨h1, h2⟩, h3⟩, rfl⟩, h5⟩ := hk
      split at h5
      · rename_i hu
        simp only [evalOp] at hr
        split at hr
        · rename_i s hv
          split at hr
          · rename_i lo' hi' hl hh
            split at hr
            · rename_i hb; cases ret1_some hr; exact fits_slcS k h1 h2 h3 hu ho hv hl hh hb.1 hb.2
            · cases hr
          · cases hr
        · cases hr
      · cases h5
    · cases hk
  | slcL x l h sz =>
    simp only [chkOp] at hk; split at hk
    · rename_i t y l' h' m' ho
      simp only [Bool.and_eq_true, Option.isNone_iff_eq_none] at hk
      obtain ⟨⟨⟨⟨h1, h2⟩, h3⟩, rfl⟩, h5⟩ := hk
      simp only [evalOp] at hr
      split at hr
      · rename_i xs ow hv
        split at hr
        · rename_i lo' hi' hl hh
          split at hr
          · rename_i hb; cases ret1_some hr; exact fits_slcL k h1 h2 h3 h5 ho hv hb.2.2 hl hh hb.1 hb.2.1
          · cases hr
        · cases hr
      · cases hr
    · cases hk
  | lookup kd m kx z ok tk =>
    simp only [chkOp] at hk; split at hk
    · rename_i t m' k' ok' ho
      simp only [Bool.and_eq_true, decide_eq_true_eq] at hk
      obtain ⟨⟨⟨h1, h2⟩, h3⟩, rfl⟩ := hk
      simp only [evalOp] at hr
      split at hr
      · rename_i id hm
        split at hr
        · rename_i es hes
          split at hr
          · cases hr
          · rename_i hp
            split at hr
            · rename_i j v hfk
              cases tk with
              | true =>
                simp only [if_true] at hr
                split at hr
                · rename_i hlv; cases ret1_some hr; exact fits_lookup_take k h1 h2 h3 ho (by simpa using hp) hm hes hfk hlv.2
                · cases hr
              | false =>
                cases ret1_some hr
                exact fits_lookup k h1 h2 h3 ho (by simpa using hp) (.inr ⟨id, hm, hes⟩) hfk
            · rename_i hfk
              cases ret1_some hr
              exact fits_lookup k h1 h2 h3 ho (by simpa using hp) (.inr ⟨id, hm, hes⟩) hfk
            · cases hr
        · cases hr
      · rename_i hm
        split at hr
        · cases hr
        · rename_i hp
          simp only [findKey] at hr
          cases ret1_some hr
          exact fits_lookup k h1 h2 h3 ho (by simpa using hp) (.inl ⟨hm, rfl⟩) (r := none) rfl
      · cases hr
    · cases hk
  | mapset kd m kx v z =>
    simp only [chkOp] at hk; split at hk
    · rename_i t m' k' v' ho
      simp only [Bool.and_eq_true] at hk
      obtain ⟨⟨⟨h1, h2⟩, h3⟩, h4⟩ := hk
      simp only [evalOp] at hr
      split at hr
      · cases hr
      · rename_i hp
        simp only [not_or, Bool.not_eq_false] at hp
        split at hr
        · rename_i id hm
          split at hr
          · rename_i es hes
            split at hr
            · split at hr
              · rename_i j v hfk; cases ret1_some hr; exact fits_mapset k h1 h2 h3 h4 ho hp.1 hp.2 hm hes hfk
              · rename_i hfk; cases ret1_some hr; exact fits_mapset k h1 h2 h3 h4 ho hp.1 hp.2 hm hes hfk
              · cases hr
            · cases hr
          · cases hr
        · cases hr
    · cases hk
  | len x kd =>
    simp only [chkOp] at hk; split at hk
    · rename_i c ho
      split at hk
      · rename_i hcal
        split at hk
        · rename_i x' t ha hts
          simp only [Bool.and_eq_true] at hk
          obtain ⟨h1, h2⟩ := hk
          rw [call_eq hcal ha hts] at ho
          simp only [evalOp] at hr
          split at hr
          · rename_i xs ow hv; cases ret1_some hr
            split at h2 <;> first | (cases h2; done) | (exfalso; contradiction) | (rename_i e hu; exact fits_len k h1 hu ho (.inl ⟨xs, ow, hv, rfl, _, rfl⟩))
          · rename_i s hv; cases ret1_some hr
            split at h2 <;> first | (cases h2; done) | (exfalso; contradiction) | (rename_i hu; exact fits_len k h1 hu ho (.inr (.inl ⟨s, hv, rfl, rfl⟩))) | cases h2
          · rename_i hv; cases ret1_some hr
            split at h2 <;> first | (cases h2; done) | (exfalso; contradiction) | (rename_i kt e hu; exact fits_len k h1 hu ho (n := 0) (.inr (.inr (.inl ⟨hv, rfl, _, _, rfl⟩))))
          · rename_i id hv
            split at hr
            · rename_i es hes; cases ret1_some hr
              split at h2 <;> first | (cases h2; done) | (exfalso; contradiction) | (rename_i kt e hu; exact fits_len k h1 hu ho (.inr (.inr (.inr ⟨id, es, hv, hes, rfl, _, _, rfl⟩))))
            · cases hr
          · cases hr
        · cases hk
      · cases hk
    · cases hk
  | konst v =>
    simp only [chkOp] at hk; split at hk
    · rename_i c ho
      split at hk
      · rename_i hcal
        split at hk
        · rename_i x' t ha hts
          rw [call_eq hcal ha hts] at ho
          split at hk
          · rename_i n e m hu
            simp only [decide_eq_true_eq] at hk; subst hk
            simp only [evalOp] at hr; cases ret1_some hr
            exact fits_konst k hu ho
          · cases hk
        · cases hk
      · cases hk
    · cases hk
  | append x y sz bytes pend =>
    simp only [chkOp] at hk; split at hk
    · rename_i c ho
      split at hk
      · rename_i hcal
        split at hk
        · rename_i x' y' t t2 ha hts
          simp only [Bool.and_eq_true] at hk
          obtain ⟨⟨⟨h1, h2⟩, h3⟩, h4⟩ := hk
          rw [call_eq hcal ha hts] at ho
          simp only [evalOp] at hr
          split at hr
          · rename_i xs ow hv
            split at hr
            · rename_i hown
              split at hr
              · rename_i ys ow2 hy
                split at hr
                · rename_i hb
                  have hsrc : ∀ g', VX g' w (opd st.fr x).2 a.tmps (opd (opd st.fr x).2 y).1 (Act.opd a.tmps y') → ∃ news, Src P g' w sz ys (Act.opd a.tmps y') news := fun g' h => by
                    rw [hy] at h; exact Src.list h hb.1
                  cases pend with
                  | true =>
                    simp only [if_true] at hr
                    split at hr
                    · rename_i h1'; cases ret1_some hr
                      exact fits_append k h1 h2 h3 h4 ho hv hown.1 hown.2 hsrc hb.2.1 hb.2.2 true (fun _ => h1')
                    · cases hr
                  | false => cases ret1_some hr; exact fits_append k h1 h2 h3 h4 ho hv hown.1 hown.2 hsrc hb.2.1 hb.2.2 false (fun h => by cases h)
                · cases hr
              · rename_i s hy
                split at hr
                · rename_i hb
                  obtain ⟨rfl, hb2, rfl, hb3⟩ := hb
                  cases ret1_some hr
                  exact fits_append (ys := s.map fun b => AV.int .u8 b.toNat) k h1 h2 h3 h4 ho hv hown.1 hown.2 (fun g' h => by
                    rw [hy] at h; simp only [VX, V] at h; rw [h]; exact ⟨_, Src.str s⟩) (by simpa using hb2) (by simpa using hb3) false (fun h => by cases h)
                · cases hr
              · cases hr
            · cases hr
          · cases hr
        · cases hk
      · cases hk
    · cases hk
  | min x y =>
    simp only [chkOp] at hk; split at hk
    · rename_i c ho
      split at hk
      · rename_i hcal
        split at hk
        · rename_i x' y' ha
          simp only [Bool.and_eq_true] at hk
          rw [call_eq hcal ha rfl] at ho
          simp only [evalOp] at hr
          split at hr
          · rename_i h1 h2; cases ret1_some hr; exact fits_min k hk.1 hk.2 ho h1 h2
          · cases hr
        · cases hk
      · cases hk
    · cases hk
  | max x y =>
    simp only [chkOp] at hk; split at hk
    · rename_i c ho
      split at hk
      · rename_i hcal
        split at hk
        · rename_i x' y' ha
          simp only [Bool.and_eq_true] at hk
          rw [call_eq hcal ha rfl] at ho
          simp only [evalOp] at hr
          split at hr
          · rename_i h1 h2; cases ret1_some hr; exact fits_max k hk.1 hk.2 ho h1 h2
          · cases hr
        · cases hk
      · cases hk
    · cases hk
  | extract x i =>
    simp only [chkOp] at hk; split at hk
    · rename_i x' i' ho
      simp only [Bool.and_eq_true, decide_eq_true_eq] at hk
      obtain ⟨rfl, h1⟩ := hk
      simp only [evalOp] at hr
      split at hr
      · rename_i vs hv
        split at hr
        · rename_i u hu
          split at hr
          · rename_i hp; cases ret1_some hr; exact fits_extract k h1 ho hv hu hp
          · cases hr
        · cases hr
      · cases hr
    · cases hk
  | assert x t z ok =>
    simp only [chkOp] at hk; split at hk
    · rename_i x' xt t' ok' ho
      simp only [Bool.and_eq_true, decide_eq_true_eq] at hk
      obtain ⟨⟨⟨⟨rfl, rfl⟩, h1⟩, h2⟩, h3⟩ := hk
      obtain ⟨e, he, hne⟩ := isIface_no h2
      simp only [evalOp] at hr
      split at hr
      · rename_i u v hv
        split at hr
        · rename_i hut; subst hut; cases ret1_some hr
          exact fits_assert k h1 he hne h3 ho (.inl ⟨v, hv, rfl⟩)
        · rename_i hut
          split at hr
          · rename_i hok; cases ret1_some hr
            exact fits_assert k h1 he hne h3 ho (.inr ⟨hok, rfl, .inr ⟨u, v, hut, hv⟩⟩)
          · cases hr
      · rename_i hv
        split at hr
        · rename_i hok; cases ret1_some hr
          exact fits_assert k h1 he hne h3 ho (.inr ⟨hok, rfl, .inl hv⟩)
        · cases hr
      · cases hr
    · cases hk
  | panic x =>
    simp only [chkOp] at hk; split at hk
    · rename_i x' ho
      simp only [evalOp] at hr
      split at hr
      · rename_i t v hv; simp only [Option.some.injEq] at hr; subst hr; exact fits_panic k hk ho hv
      · cases hr
    · cases hk
  | call f xs q =>
    simp only [chkOp] at hk; split at hk
    · rename_i c ho
      split at hk
      · rename_i f' hcal
        simp only [Bool.and_eq_true] at hk
        rw [call_eq hcal rfl rfl] at ho
        simp only [evalOp] at hr
        split at hr
        · cases hr
        · rename_i hp
          split at hr
          · rename_i fid caps hv
            split at hr
            · cases hr
            · rename_i hpc
              split at hr
              · rename_i v hp' hcall; cases ret1_some hr
                exact fits_call (r := .ret v hp') hc k hk.1 hk.2 ho (by simpa using hp) hv (by simpa using hpc) hcall
              · rename_i v hp' hcall; simp only [Option.some.injEq] at hr; subst hr
                exact fits_call (r := .pan v hp') hc k hk.1 hk.2 ho (by simpa using hp) hv (by simpa using hpc) hcall
              · cases hr
          · cases hr
      · cases hk
    · cases hk
end
end Go.Proofs.Ytajlmldpbhendaa.Rf
