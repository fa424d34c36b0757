/- The machine on plain values tells what the model's program does. -/
import Derived.Test.YtajlmldpbhendaaRfD0
set_option linter.unusedSimpArgs false
set_option linter.unusedVariables false
namespace Go.Proofs.Ytajlmldpbhendaa.Rf

def chkCode (P : Program) (nt : Nat) : ICode → Code → Bool
  | .skip, .skip => true
  | .region is _, .region _ os false => chkOpers P nt os is os.toList
  | .draw is ord pans _, .region _ os true => chkOpers P nt os is os.toList && drawOk is os.toList ord pans
  | .seq a b, .seq c d => chkCode P nt a c && chkCode P nt b d
  | .cond x a b, .cond y c d => opdOk x y && chkCode P nt a c && chkCode P nt b d
  | .block i a, .block j c => decide (i = j) && chkCode P nt a c
  | .loop a, .loop c => chkCode P nt a c
  | .exit i, .exit j => decide (i = j)
  | .ret, .ret => true
  | _, _ => false
def nodupB : List Nat → Bool
  | [] => true
  | x :: r => !r.contains x && nodupB r
theorem nodupB_spec : ∀ {l : List Nat}, nodupB l = true → l.Nodup
  | [], _ => List.nodup_nil
  | x :: r, h => by
    simp only [nodupB, Bool.and_eq_true] at h
    exact List.nodup_cons.2 ⟨by simpa using h.1, nodupB_spec h.2⟩
def chkFun (P : Program) (f : FuncId) (fn : IFun) : Bool :=
  funOk P f &&
  match P.funcs[f]? with
  | some m =>
    (match m.body with
     | some c => chkCode P m.ntmps fn.body c
     | none => false) && chkRes P fn.res m.results.toList && nodupB (fn.res.map IRes.slot) && Nat.ble fn.arity m.ntmps
  | none => false
def LoopOK (P : Program) (G : Nat → Option (List AV)) (k : Nat) (loop : LoopF) : Prop :=
  ∀ nt (body : ICode) (code : Code), chkCode P nt body code = true → ∀ (Q : Exit → Act → World → Prop) (g : Gh) (st : St) (a : Act) (w : World) (ex : Ex) (st' : St), Rel G g st [] a.tmps w → a.tmps.size = nt → loop body st = some (ex, st') → Goes G nt a.defers g w st' ex Q → Code.rounds P code Q k a w

section
variable {P : Program} {G : Nat → Option (List AV)}

theorem Goes.mono {nt : Nat} {df : List Deferred} {g : Gh} {w : World} {st : St} {ex : Ex} {Q Q' : Exit → Act → World → Prop} (h : Goes G nt df g w st ex Q) (hq : ∀ g' a' w', ExQ g' w' a' Q ex → ExQ g' w' a' Q' ex) : Goes G nt df g w st ex Q' :=
  fun g' a' w' h1 h2 h3 h4 => hq _ _ _ (h g' a' w' h1 h2 h3 h4)
theorem code_sound (hm : P.follows .mixedOrders = true) {call : CallF} {loop : LoopF} {lo k : Nat} (hc : CallOK P G call) (hq : CallQ call) (hl : LoopOK P G k loop) {nt : Nat} : ∀ {ic : ICode} {c : Code}, chkCode P nt ic c = true → ∀ {Q : Exit → Act → World → Prop} {g : Gh} {st : St} {a : Act} {w : World} {ex : Ex} {st' : St},
    Rel G g st [] a.tmps w → a.tmps.size = nt → evalC G call loop lo ic st = some (ex, st') → Goes G nt a.defers g w st' ex Q → c.wp P Q a w := by
  intro ic
  induction ic with
  | skip =>
    intro c hk Q g st a w ex st' kk hn hr h
    cases c <;> simp [chkCode] at hk
    simp [evalC] at hr; obtain ⟨rfl, rfl⟩ := hr
    exact wp_skip (h g a w hn rfl kk (Stay.refl g w))
  | ret =>
    intro c hk Q g st a w ex st' kk hn hr h
    cases c <;> simp [chkCode] at hk
    simp [evalC] at hr; obtain ⟨rfl, rfl⟩ := hr
    exact wp_ret (h g a w hn rfl kk (Stay.refl g w))
  | exit id =>
    intro c hk Q g st a w ex st' kk hn hr h
    cases c <;> simp [chkCode] at hk
    subst hk
    simp [evalC] at hr; obtain ⟨rfl, rfl⟩ := hr
    exact wp_exit (h g a w hn rfl kk (Stay.refl g w))
  | region is live =>
    intro c hk Q g st a w ex st' kk hn hr h
    cases c <;> try (simp [chkCode] at hk; done)
    rename_i id os dr
    cases dr <;> simp [chkCode] at hk
    obtain ⟨e1, e2⟩ := chkOpers_get hk
    have hops : ∀ {ex1 : Ex} {s1 : St}, evalOps G call lo is st = some (ex1, s1) → Goes G nt a.defers g w s1 ex1 Q → (Code.region id os false).wp P Q a w := fun hr1 h1 =>
      wp_region (ops_sound hc _ _ (by simpa using e1) (fun j i x hi hx => by
        have hj := (List.getElem?_eq_some_iff.1 hi).1
        have hx' : x = j := by
          obtain ⟨h2, h3⟩ := List.getElem?_eq_some_iff.1 hx; simp at h3; exact h3.symm
        subst hx'
        have hlt : x < os.size := by rw [e1] at hj; simpa using hj
        exact ⟨os[x], by simp [hlt], e2 x i os[x] hi (by simp [hlt])⟩) kk hn hr1 h1)
    simp only [evalC] at hr
    split at hr
    · rename_i s1 he
      split at hr
      · rename_i hko; cases hr
        exact hops he fun g' a' w' h1 h2 h3 h4 => h g' a' w' h1 h2 (h3.keep hko) h4
      · cases hr
    · exact hops hr h
  | draw is ord pans live =>
    intro c hk Q g st a w ex st' kk hn hr h
    cases c <;> try (simp [chkCode] at hk; done)
    rename_i id os dr
    cases dr <;> simp [chkCode] at hk
    simp only [evalC] at hr
    split at hr
    · rename_i s1 he
      split at hr
      · rename_i hko; cases hr
        exact draw_sound hm hc hq hk.1 hk.2 kk hn he (fun g' a' w' h1 h2 h3 h4 => h g' a' w' h1 h2 (h3.keep hko) h4) id
      · cases hr
    · exact draw_sound hm hc hq hk.1 hk.2 kk hn hr h id
  | seq x y ihx ihy =>
    intro c hk Q g st a w ex st' kk hn hr h
    cases c <;> simp [chkCode] at hk
    simp only [evalC] at hr
    split at hr
    · rename_i s1 he
      refine wp_seq (ihx hk.1 kk hn he fun g' a' w' h1 h2 h3 h4 => ?_)
      exact ihy hk.2 h3 h1 hr (by rw [h2]; exact h.after h4)
    · rename_i hne
      refine wp_seq (ihx hk.1 kk hn hr (h.mono fun g' a' w' h5 => ?_))
      cases ex with
      | normal => exact absurd hr (by simpa using hne st')
      | exit i => exact h5
      | ret => exact h5
      | pan v => exact h5
  | cond x y z ihy ihz =>
    intro c hk Q g st a w ex st' kk hn hr h
    cases c <;> simp [chkCode] at hk
    simp only [evalC] at hr
    split at hr
    · rename_i t ht
      have hrd := kk.read hk.1.1
      rw [ht] at hrd; simp only [VX, V] at hrd
      refine wp_cond_split (t := t) (by rw [Act.eval_eq]; exact hrd) (fun e => ?_) (fun e => ?_)
      · subst e; simp only [if_true] at hr; exact ihy hk.1.2 kk hn hr h
      · subst e; simp only [Bool.false_eq_true, if_false] at hr; exact ihz hk.2 kk hn hr h
    · cases hr
  | block i x ih =>
    intro c hk Q g st a w ex st' kk hn hr h
    cases c <;> simp [chkCode] at hk
    obtain ⟨rfl, hk⟩ := hk
    simp only [evalC] at hr
    split at hr
    · rename_i j s1 he
      split at hr
      · rename_i hj; subst hj; cases hr
        exact wp_block (ih hk kk hn he fun g' a' w' h1 h2 h3 h4 => by
          show Exit.inBlock j Q (.exit j) a' w'
          simp only [Exit.inBlock, if_true]; exact h g' a' w' h1 h2 h3 h4)
      · rename_i hj; cases hr
        exact wp_block (ih hk kk hn he fun g' a' w' h1 h2 h3 h4 => by
          show Exit.inBlock i Q (.exit j) a' w'
          simp only [Exit.inBlock, if_neg hj]; exact h g' a' w' h1 h2 h3 h4)
    · rename_i hne
      refine wp_block (ih hk kk hn hr (h.mono fun g' a' w' h5 => ?_))
      cases ex with
      | normal => exact h5
      | exit j => exact absurd hr (by simpa using hne j st')
      | ret => exact h5
      | pan v => exact h5
  | loop x ih =>
    intro c hk Q g st a w ex st' kk hn hr h
    cases c <;> simp [chkCode] at hk
    simp only [evalC] at hr
    exact wp_loop_rounds k (hl nt x _ hk Q g st a w ex st' kk hn hr h)

theorem run_quiet (IP : IProg) : ∀ k, CallQ (run G IP k).1
  | 0 => fun f vs hp lo r h => by simp [run] at h
  | k + 1 => fun f vs hp lo r h => by
    simp only [run, callBody] at h
    split at h
    · cases h
    · rename_i fn hfn
      split at h
      · cases h
      · rename_i hc
        have hs : fn.still = true := by simp at hc; exact hc.1
        simp only [hs, if_true] at h
        repeat' split at h
        all_goals first
          | (cases h; done)
          | (cases h; rfl)
theorem run_sound (hm : P.follows .mixedOrders = true) {IP : IProg} (hIP : ∀ f fn, IP f = some fn → chkFun P f fn = true) : ∀ k, CallOK P G (run G IP k).1 ∧ ∀ lo, LoopOK P G k ((run G IP k).2 lo)
  | 0 => ⟨fun f vs hp lo q r g w us h => by simp [run] at h, fun lo nt body code _ Q g st a w ex st' _ _ h => by simp [run] at h⟩
  | k + 1 => by
    obtain ⟨hc, hl⟩ := run_sound hm hIP k
    refine ⟨fun f vs hp lo q r g w us h hlen hpl kk => ?_, fun lo nt body code hk Q g st a w ex st' kk hn hr h => ?_⟩
    · simp only [run, callBody] at h
      cases hfn : IP f with
      | none => rw [hfn] at h; simp at h
      | some fn =>
        rw [hfn] at h
        have hf := hIP f fn hfn
        simp only [chkFun, Bool.and_eq_true] at hf
        obtain ⟨hfo, hf⟩ := hf
        refine ⟨hfo, ?_⟩
        cases hm' : P.funcs[f]? with
        | none => rw [hm'] at hf; simp at hf
        | some m =>
          rw [hm'] at hf
          simp only [Bool.and_eq_true] at hf
          obtain ⟨⟨⟨hb, hres⟩, hnd⟩, har⟩ := hf
          cases hbd : m.body with
          | none => rw [hbd] at hb; simp at hb
          | some c =>
            rw [hbd] at hb
            simp only at hb h
            split at h
            · cases h
            · rename_i hcnd
              have hq : vs.length = fn.arity := by
                simp at hcnd
                exact hcnd.2
              have harity : fn.arity ≤ m.ntmps := Nat.le_of_ble_eq_true har
              obtain ⟨k1, s1⟩ := kk.enter hlen hpl (m.ntmps - us.toArray.size)
              have hsize : (us.toArray ++ Array.replicate (m.ntmps - us.toArray.size) undef).size = m.ntmps := by
                simp; omega
              have hnodup := nodupB_spec hnd
              refine calls_of_wp hm' hbd ?_
              -- what is owed behind the body
              have fin : ∀ {ex : Ex} {s2 : St} (lo' : Nat), evalC G (run G IP k).1 ((run G IP k).2 lo') lo' fn.body { fr := Rf.enter 0 vs, hp } = some (ex, s2) →
                  (Goes G m.ntmps [] g.inn w s2 ex (bodyPost P m (Ret G g w r))) → c.wp P (bodyPost P m (Ret G g w r)) { tmps := us.toArray ++ Array.replicate (m.ntmps - us.toArray.size) undef, defers := [] } w := fun lo' he hg =>
                code_sound hm hc (run_quiet IP k) (hl lo') hb k1 hsize he hg
              have fin1 : ∀ {s2 : St} {vs' : List AV}, evalRess s2 fn.res = some vs' → ∀ (g2 : Gh) (a2 : Act) (w2 : World), a2.defers = [] → Rel G g2 s2 [] a2.tmps w2 → Stay g.inn w g2 w2 →
                  (∀ cv g3, Rel G g3 ⟨[], s2.hp⟩ [(tupOf vs', cv)] #[] w2 → Stay g w g3 w2 → Ret G g w r (.returned cv) w2) → a2.defers = [] ∧ ∃ v, (results m a2.tmps).run P w2 = .ok v w2 ∧ Ret G g w r (.returned v) w2 := fun he g2 a2 w2 hd k2 s2 hR => by
                obtain ⟨cv, q1, q2, q3⟩ := run_results k2 hres hnodup he
                exact ⟨hd, cv, q1, hR cv _ q2 ((s1.trans s2).trans q3)⟩
              cases hst : fn.still with
              | false =>
                simp only [hst, Bool.false_eq_true, if_false] at h
                split at h
                · rename_i s2 he
                  split at h
                  · rename_i vs' hv; cases h
                    refine fin lo he fun g2 a2 w2 e1 e2 k2 s2 => fin1 hv g2 a2 w2 e2 k2 s2 fun cv g3 k3 s3 => ?_
                    exact ⟨g3, _, _, rfl, k3, s3⟩
                  · cases h
                · rename_i s2 he
                  split at h
                  · rename_i vs' hv; cases h
                    refine fin lo he fun g2 a2 w2 e1 e2 k2 s2 => fin1 hv g2 a2 w2 e2 k2 s2 fun cv g3 k3 s3 => ?_
                    exact ⟨g3, _, _, rfl, k3, s3⟩
                  · cases h
                · rename_i v s2 he; cases h
                  refine fin lo he fun g2 a2 w2 e1 e2 k2 s2 cv hv hp => ?_
                  have sm := same_outw g2 w2 []
                  exact ⟨e2, g2.outw [], v, _, cv, rfl, rfl, V.mono (sm.ext trivial) _ _ hv, hp,
                    ⟨fun s => by simp [Fr.get, VF, VX, V, Owns], fun j u cu hj => by simp at hj, k2.hp.same sm trivial (fun _ => trivial) (fun _ _ => trivial) (fun _ _ _ => trivial) rfl, fun b o hb => by show (g2.ow b o).outw [] = .out; rw [k2.fresh b o hb]; rfl, k2.gl.same sm trivial trivial⟩,
                    (s1.trans s2).trans (stay_of_same sm trivial trivial)⟩
                · cases h
              | true =>
                simp only [hst, if_true] at h
                have pre : ∀ {ex : Ex} {s2 : St}, evalC G (run G IP k).1 ((run G IP k).2 hp.length) hp.length fn.body { fr := Rf.enter 0 vs, hp } = some (ex, s2) → s2.hp.take hp.length = hp := fun he => by
                  obtain ⟨p1, p2⟩ := run_pre (G := G) IP k
                  have := (evalC_pre p1 (p2 _) he (Nat.le_refl _)).1
                  simpa using this
                have hb0 : g.hb.length ≤ hp.length := Nat.le_of_eq kk.hp.len
                have fin2 : ∀ {s2 : St} {vs' : List AV}, s2.hp.take hp.length = hp → (tupOf vs').closed hp.length = true → ∀ (w2 : World) cv g3, Rel G g3 ⟨[], s2.hp⟩ [(tupOf vs', cv)] #[] w2 → Stay g w g3 w2 → Ret G g w (.ret (tupOf vs') hp) (.returned cv) w2 := fun hpre hcl w2 cv g3 k3 s3 =>
                  ⟨g3.cutb hp.length, _, hp, rfl, k3.cutb hpre kk.hp kk.gl (fun j v cv hj => by
                    cases j with
                    | zero => simp at hj; obtain ⟨rfl, rfl⟩ := hj; exact hcl
                    | succ j => simp at hj), s3.cutb hb0⟩
                split at h
                · rename_i s2 he
                  split at h
                  · rename_i vs' hv
                    split at h
                    · rename_i hcl; cases h
                      exact fin _ he fun g2 a2 w2 e1 e2 k2 s2 => fin1 hv g2 a2 w2 e2 k2 s2 fun cv g3 k3 s3 => fin2 (pre he) hcl w2 cv g3 k3 s3
                    · cases h
                  · cases h
                · rename_i s2 he
                  split at h
                  · rename_i vs' hv
                    split at h
                    · rename_i hcl; cases h
                      exact fin _ he fun g2 a2 w2 e1 e2 k2 s2 => fin1 hv g2 a2 w2 e2 k2 s2 fun cv g3 k3 s3 => fin2 (pre he) hcl w2 cv g3 k3 s3
                    · cases h
                  · cases h
                · rename_i v s2 he
                  split at h
                  · rename_i hcl; cases h
                    refine fin _ he fun g2 a2 w2 e1 e2 k2 s2 cv hv hp' => ?_
                    have sm := same_outw g2 w2 []
                    have k3 : Rel G (g2.outw []) ⟨[], _⟩ [] #[] w2 := ⟨fun s => by simp [Fr.get, VF, VX, V, Owns], fun j u cu hj => by simp at hj, k2.hp.same sm trivial (fun _ => trivial) (fun _ _ => trivial) (fun _ _ _ => trivial) rfl, fun b o hb => by show (g2.ow b o).outw [] = .out; rw [k2.fresh b o hb]; rfl, k2.gl.same sm trivial trivial⟩
                    exact ⟨e2, (g2.outw []).cutb hp.length, v, hp, cv, rfl, rfl, V.cutb _ _ hcl (V.mono (sm.ext trivial) _ _ hv), hp', k3.cutb (pre he) kk.hp kk.gl (fun j v cv hj => by simp at hj),
                      ((s1.trans s2).trans (stay_of_same sm trivial trivial)).cutb hb0⟩
                  · cases h
                · cases h
    · simp only [run, loopBody] at hr
      rw [rounds_succ]
      split at hr
      · rename_i s1 he
        refine code_sound hm hc (run_quiet IP k) (hl lo) hk kk hn he fun g' a' w' h1 h2 h3 h4 => ?_
        exact hl lo nt body code hk Q g' s1 a' w' ex st' h3 h1 hr (by rw [h2]; exact h.after h4)
      · rename_i hne
        refine code_sound hm hc (run_quiet IP k) (hl lo) hk kk hn hr (h.mono fun g' a' w' h5 => ?_)
        cases ex with
        | normal => exact absurd hr (by simpa using hne st')
        | exit i => exact h5
        | ret => exact h5
        | pan v => exact h5
end
end Go.Proofs.Ytajlmldpbhendaa.Rf
