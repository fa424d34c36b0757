/- Drawn regions. -/
import Derived.Test.YtajlmldpbhendaaRfD5
set_option linter.unusedSimpArgs false
set_option linter.unusedVariables false
namespace Go.Proofs.Ytajlmldpbhendaa.Rf

/-! what must come before what -/
def maskOf (ms : List Nat) (o : Oper) : Nat := o.after.toList.foldl (fun s e => if Region.binds .any e then s ||| (2 ^ e.on ||| ms.getD e.on 0) else s) 0
def mkMasks : List Oper → List Nat → List Nat
  | [], acc => acc
  | o :: r, acc => mkMasks r (acc ++ [maskOf acc o])
def chkMasks (ms : List Nat) : Nat → List Oper → Bool
  | _, [] => true
  | j, o :: r => Nat.beq (ms.getD j 0) (maskOf ms o) && o.after.toList.all (fun e => !Region.binds .any e || Nat.blt e.on j) && chkMasks ms (j + 1) r
def bef (ms : List Nat) (y x : Nat) : Bool := (ms.getD y 0).testBit x
def quietO (o : IOper) : Bool := match footO o with | some F => (match F.hw with | .no => true | _ => false) | none => false
def pairOk (ms : List Nat) (ios : List IOper) (pans : List Nat) (x y : Nat) : Bool :=
  bef ms y x || (match ios[x]?, ios[y]? with | some ox, some oy => indO ox oy && !pans.contains x && (!pans.contains y || quietO ox) | _, _ => false)
def pairsOk (ms : List Nat) (ios : List IOper) (pans : List Nat) : List Nat → Bool
  | [] => true
  | x :: r => r.all (pairOk ms ios pans x) && pairsOk ms ios pans r
def nodupN : List Nat → Bool
  | [] => true
  | x :: r => !r.contains x && nodupN r
def drawOk (ios : List IOper) (os : List Oper) (ord pans : List Nat) : Bool :=
  (fun ms => chkMasks ms 0 os && pairsOk ms ios pans ord) (mkMasks os []) && nodupN ord && Nat.beq ord.length os.length && ord.all (fun i => Nat.blt i os.length)

section
variable {P : Program} {G : Nat → Option (List AV)} {call : CallF} {lo : Nat}

theorem nodupN_spec : ∀ {l : List Nat}, nodupN l = true → l.Nodup
  | [], _ => List.nodup_nil
  | x :: r, h => by
    simp only [nodupN, Bool.and_eq_true] at h
    exact List.nodup_cons.2 ⟨by simpa using h.1, nodupN_spec h.2⟩
theorem nodup_le : ∀ (n : Nat) (l : List Nat), l.Nodup → (∀ x, x ∈ l → x < n) → l.length ≤ n
  | 0, l, _, h => by
    cases l with
    | nil => simp
    | cons x r => exact absurd (h x (by simp)) (by omega)
  | n + 1, l, hn, h => by
    by_cases hm : n ∈ l
    · have := nodup_le n (l.erase n) (hn.erase n) (fun x hx => by
        have h1 := (hn.mem_erase_iff).1 hx
        have := h x h1.2
        omega)
      rw [List.length_erase_of_mem hm] at this
      omega
    · have := nodup_le n l hn (fun x hx => by
        have h1 := h x hx
        have : x ≠ n := fun e => hm (e ▸ hx)
        omega)
      omega
theorem mask_fold {ms : List Nat} : ∀ {l : List Edge} {s x : Nat}, (l.foldl (fun s e => if Region.binds .any e then s ||| (2 ^ e.on ||| ms.getD e.on 0) else s) s).testBit x = true →
    s.testBit x = true ∨ ∃ e, e ∈ l ∧ Region.binds .any e = true ∧ (e.on = x ∨ bef ms e.on x = true)
  | [], s, x, h => .inl h
  | e :: l, s, x, h => by
    simp only [List.foldl_cons] at h
    rcases mask_fold h with h | ⟨e', h1, h2, h3⟩
    · split at h
      · rename_i hb
        rw [Nat.testBit_or, Nat.testBit_or] at h
        simp only [Bool.or_eq_true] at h
        rcases h with h | h | h
        · exact .inl h
        · rw [Nat.testBit_two_pow] at h; exact .inr ⟨e, by simp, hb, .inl (by simpa using h)⟩
        · exact .inr ⟨e, by simp, hb, .inr h⟩
      · exact .inl h
    · exact .inr ⟨e', List.mem_cons_of_mem _ h1, h2, h3⟩
theorem chkMasks_get {ms : List Nat} : ∀ {os : List Oper} {k : Nat}, chkMasks ms k os = true → ∀ {j : Nat} {o : Oper}, os[j]? = some o → ms.getD (k + j) 0 = maskOf ms o ∧ ∀ e, e ∈ o.after → Region.binds .any e = true → e.on < k + j
  | [], _, _, j, o, h => by simp at h
  | x :: r, k, hc, j, o, h => by
    simp only [chkMasks, Bool.and_eq_true] at hc
    obtain ⟨⟨h1, h2⟩, h3⟩ := hc
    cases j with
    | zero =>
      simp at h; subst h
      refine ⟨Nat.eq_of_beq_eq_true h1, fun e he hb => ?_⟩
      simp only [List.all_eq_true, Bool.or_eq_true, Bool.not_eq_true'] at h2
      rcases h2 e (Array.mem_toList_iff.2 he) with h | h
      · rw [hb] at h; cases h
      · simpa using h
    | succ j =>
      have := chkMasks_get h3 (j := j) (by simpa using h)
      rwa [show k + 1 + j = k + (j + 1) by omega] at this
def Closed (ops : Array Oper) (listed : Array Bool) : Prop := ∀ (j : Nat) o, ops[j]? = some o → listed.getD j false = true → ∀ e, e ∈ o.after → Region.binds .any e = true → listed.getD e.on false = true
theorem bef_listed {ms : List Nat} {ops : Array Oper} (hm : chkMasks ms 0 ops.toList = true) {listed : Array Bool} (hc : Closed ops listed) : ∀ (y : Nat) {o : Oper} {x : Nat}, ops[y]? = some o → (∀ e, e ∈ o.after → Region.binds .any e = true → listed.getD e.on false = true) → bef ms y x = true → listed.getD x false = true := by
  intro y
  induction y using Nat.strongRecOn with
  | _ y ih =>
    intro o x ho hall hb
    obtain ⟨h1, h2⟩ := chkMasks_get hm (j := y) (o := o) (by rw [Array.getElem?_toList]; exact ho)
    rw [Nat.zero_add] at h1 h2
    unfold bef at hb
    rw [h1] at hb
    rcases mask_fold hb with h | ⟨e, e1, e2, e3⟩
    · simp at h
    · have he := Array.mem_toList_iff.1 e1
      have hl := hall e he e2
      rcases e3 with rfl | e3
      · exact hl
      · have hlt := h2 e he e2
        have hy := (Array.getElem?_eq_some_iff.1 ho).1
        have ho2 : ops[e.on]? = some ops[e.on] := Array.getElem?_eq_getElem (by omega)
        exact ih e.on hlt ho2 (hc _ _ ho2 hl) e3
theorem pairsOk_split {ms : List Nat} {ios : List IOper} {pans : List Nat} : ∀ {as : List Nat} {i : Nat} {r : List Nat}, pairsOk ms ios pans (as ++ i :: r) = true → (∀ x, x ∈ as → pairOk ms ios pans x i = true) ∧ pairsOk ms ios pans (as ++ r) = true
  | [], i, r, h => by simp only [List.nil_append, pairsOk, Bool.and_eq_true] at h; exact ⟨fun x hx => by simp at hx, by simpa using h.2⟩
  | x :: as, i, r, h => by
    simp only [List.cons_append, pairsOk, Bool.and_eq_true, List.all_eq_true] at h
    obtain ⟨h1, h2⟩ := pairsOk_split h.2
    refine ⟨fun y hy => ?_, ?_⟩
    · rcases List.mem_cons.1 hy with rfl | hy
      · exact h.1 i (by simp)
      · exact h1 y hy
    · simp only [List.cons_append, pairsOk, Bool.and_eq_true, List.all_eq_true]
      exact ⟨fun z hz => h.1 z (by simp at hz ⊢; rcases hz with h | h <;> simp [h]), h2⟩
theorem Rel.eqv {g : Gh} {s s' : St} {tm : Array Value} {w : World} (k : Rel G g s [] tm w) (e : Eqv s s') : Rel G g s' [] tm w :=
  ⟨fun t => by
    rw [e.1 t]
    exact VF.like3 (fun u o hv cs hc => ⟨cs, by rw [e.1 u]; exact hc⟩) (fun u hv xs sz hc => ⟨by rw [e.1 u]; exact hc, rfl⟩) (k.fr t), fun j v cv hj => by simp at hj, by rw [e.2]; exact k.hp, k.fresh, k.gl⟩
theorem Eqv.symm {a b : St} (h : Eqv a b) : Eqv b a := ⟨fun s => (h.1 s).symm, h.2.symm⟩
theorem any_sound (hc : CallOK P G call) (hq : CallQ call) {nt : Nat} {ops : Array Oper} {ios : List IOper} (hk : chkOpers P nt ops ios ops.toList = true) {ms pans : List Nat} (hm : chkMasks ms 0 ops.toList = true) {Q : Exit → Act → World → Prop} : ∀ (fuel : Nat) (listed : Array Bool) (R : List Nat) (g : Gh) (st : St) (a : Act) (w : World) (ex : Ex) (s s0 : St),
    listed.size = ops.size → R.Nodup → (∀ j, j ∈ R ↔ j < ops.size ∧ listed.getD j true = false) → Closed ops listed → pairsOk ms ios pans R = true → R.length ≤ fuel →
    Rel G g st [] a.tmps w → a.tmps.size = nt → evalDraw G call lo ios pans R st = some (ex, s) → Eqv s0 s → Goes G nt a.defers g w s0 ex Q → wpAny P .any ops Q fuel listed a w := by
  obtain ⟨hlen, hget⟩ := chkOpers_get hk
  have noready : ∀ (listed : Array Bool) (R : List Nat), (∀ j, j ∈ R ↔ j < ops.size ∧ listed.getD j true = false) → listed.size = ops.size → Region.ready .any ops listed = [] → R = [] := by
    intro listed R hR hsz hr
    refine Classical.byContradiction fun hn => ?_
    have hall : ∀ j, ¬ j ∈ R := by
      intro j
      induction j using Nat.strongRecOn with
      | _ j ih =>
        intro hj
        obtain ⟨h1, h2⟩ := (hR j).1 hj
        have ho : ops[j]? = some ops[j] := Array.getElem?_eq_getElem h1
        have hmem : j ∈ Region.ready .any ops listed := by
          rw [mem_ready]
          refine ⟨h2, ops[j], ho, fun e he hb => ?_⟩
          have hlt := (chkMasks_get hm (j := j) (o := ops[j]) (by rw [Array.getElem?_toList]; exact ho)).2 e he hb
          rw [Nat.zero_add] at hlt
          have hne := ih e.on hlt
          have hls : e.on < listed.size := by omega
          have hx : listed.getD e.on true = true := by
            by_cases hx : listed.getD e.on true = true
            · exact hx
            · exact absurd ((hR e.on).2 ⟨by omega, by simpa using hx⟩) hne
          simpa [hls] using hx
        rw [hr] at hmem; simp at hmem
    cases R with
    | nil => exact hn rfl
    | cons x r => exact hall x (by simp)
  intro fuel
  induction fuel with
  | zero =>
    intro listed R g st a w ex s s0 hsz hnd hR hcl hp hf k hn he hs h
    have : R = [] := List.length_eq_zero_iff.1 (by omega)
    subst this
    simp [evalDraw] at he; obtain ⟨rfl, rfl⟩ := he
    refine ⟨?_, h g a w hn rfl (k.eqv hs.symm) (Stay.refl g w)⟩
    cases hrd : Region.ready .any ops listed with
    | nil => rfl
    | cons x r =>
      have hx : x ∈ Region.ready .any ops listed := by rw [hrd]; simp
      rw [mem_ready] at hx
      obtain ⟨h1, o, ho, _⟩ := hx
      exact absurd ((hR x).2 ⟨(Array.getElem?_eq_some_iff.1 ho).1, h1⟩) (by simp)
  | succ fuel ih =>
    intro listed R g st a w ex s s0 hsz hnd hR hcl hp hf k hn he hs h
    refine ⟨fun hr => ?_, fun i hi => ?_⟩
    · have := noready listed R hR hsz hr
      subst this
      simp [evalDraw] at he; obtain ⟨rfl, rfl⟩ := he
      exact h g a w hn rfl (k.eqv hs.symm) (Stay.refl g w)
    · rw [mem_ready] at hi
      obtain ⟨i1, o, ho, i2⟩ := hi
      have hio := (Array.getElem?_eq_some_iff.1 ho).1
      have hiR : i ∈ R := (hR i).2 ⟨hio, i1⟩
      obtain ⟨as, r, rfl⟩ := List.append_of_mem hiR
      obtain ⟨p1, p2⟩ := pairsOk_split hp
      have hlis : i < ios.length := by rw [hlen]; simpa using hio
      have hioi : ios[i]? = some ios[i] := List.getElem?_eq_getElem hlis
      obtain ⟨s', f1, f2⟩ := front (G := G) (lo := lo) hq (ops := ios) (pans := pans) (i := i) (r := r) (as := as) (fun x hx => by
        have hpx := p1 x hx
        unfold pairOk at hpx
        simp only [Bool.or_eq_true] at hpx
        rcases hpx with hb | hpx
        · have hl := bef_listed hm hcl i ho i2 hb
          obtain ⟨h1, h2⟩ := (hR x).1 (by simp [hx])
          have hls : x < listed.size := by omega
          simp [hls] at hl h2
          rw [hl] at h2; cases h2
        · cases hx1 : ios[x]? with
          | none => rw [hx1] at hpx; simp at hpx
          | some ox =>
            rw [hx1, hioi] at hpx
            simp only [Bool.and_eq_true, Bool.or_eq_true, Bool.not_eq_true'] at hpx
            obtain ⟨⟨q1, q2⟩, q3⟩ := hpx
            refine ⟨fun hm => (by rw [List.contains_iff_mem.2 hm] at q2; cases q2), fun ox' oi' e1 e2 => ?_⟩
            cases e1; rw [hioi] at e2; cases e2
            refine ⟨q1, fun hip F hF => ?_⟩
            rcases q3 with q3 | q3
            · rw [List.contains_iff_mem.2 hip] at q3; cases q3
            · unfold quietO at q3
              rw [hF] at q3
              simp only at q3
              cases hw : F.hw <;> rw [hw] at q3 <;> first | rfl | (simp at q3; done)) he
      obtain ⟨oi, e1, f3⟩ := evalDraw_cons f1
      rw [hioi] at e1; cases e1
      have hko := hget i ios[i] o hioi (by rw [Array.getElem?_toList]; exact ho)
      have hnd' : (as ++ r).Nodup := hnd.sublist (by simp)
      have hnotin : i ∉ as ++ r := by
        have := List.nodup_append.1 hnd
        intro hm
        rcases List.mem_append.1 hm with hm | hm
        · exact this.2.2 i hm i (by simp) rfl
        · exact (List.nodup_cons.1 this.2.1).1 hm
      rcases f3 with ⟨s1, g1, g2⟩ | ⟨v, s1, g1, hpn, rfl, rfl⟩
      · refine op1 hc ho hko k hn g1 fun g' a' w' e1 e2 k1 t1 => ?_
        simp only [ExQ]
        refine ih _ (as ++ r) g' s1 a' w' ex s' s0 (by simp [hsz]) hnd' (fun j => ?_) (fun j oj hoj hlj e he hb => ?_) p2 (by simp at hf ⊢; omega) k1 e1 g2 (hs.trans f2) (by rw [e2]; exact h.after t1)
        · by_cases hji : i = j
          · subst hji
            have : i < listed.size := by omega
            simp [hnotin, this]
          · rw [getD_set_ne true hji, ← hR j]
            have hne : j ≠ i := fun h => hji h.symm
            simp [hne]
        · by_cases hji : i = j
          · subst hji
            rw [ho] at hoj; cases hoj
            exact getD_set_true (i2 e he hb)
          · rw [getD_set_ne false hji] at hlj
            exact getD_set_true (hcl j oj hoj hlj e he hb)
      · refine op1 hc ho hko k hn g1 fun g' a' w' e1 e2 k1 t1 => ?_
        simp only [ExQ]
        intro cv hv hpv
        refine h g' a' w' e1 e2 ?_ t1 cv hv hpv
        have k2 : Rel G g' ⟨[], s1.hp⟩ [] a'.tmps w' := ⟨fun t => by simp [Fr.get, VF, VX, V, Owns], fun j v cv hj => by simp at hj, k1.hp, k1.fresh, k1.gl⟩
        exact k2.eqv ((hs.trans f2).symm)
theorem Rel.drawn {g : Gh} {s : St} {tm : Array Value} {w : World} (k : Rel G g s [] tm w) : Rel G g s [] tm { w with drawn := w.drawn + 1 } := k.draws rfl
theorem draw_sound (hmx : P.follows .mixedOrders = true) (hc : CallOK P G call) (hq : CallQ call) {nt : Nat} {ops : Array Oper} {ios : List IOper} (hk : chkOpers P nt ops ios ops.toList = true) {ord pans : List Nat} (hd : drawOk ios ops.toList ord pans = true)
    {Q : Exit → Act → World → Prop} {g : Gh} {st : St} {a : Act} {w : World} (k : Rel G g st [] a.tmps w) (hn : a.tmps.size = nt) {ex : Ex} {st' : St} (hr : evalDraw G call lo ios pans ord st = some (ex, st'))
    (h : Goes G nt a.defers g w st' ex Q) (id : Nat) : (Code.region id ops true).wp P Q a w := by
  simp only [drawOk, Bool.and_eq_true, List.all_eq_true] at hd
  obtain ⟨⟨⟨⟨h1, h2⟩, h3⟩, h4⟩, h5⟩ := hd
  have hnd := nodupN_spec h3
  have hlen : ord.length = ops.size := by have := Nat.eq_of_beq_eq_true h4; simpa using this
  have hlt : ∀ j, j ∈ ord → j < ops.size := fun j hj => by have := h5 j hj; simpa using this
  refine wp_region_any hmx (any_sound hc hq hk h1 ops.size _ ord g st a _ ex st' st' (by simp) hnd (fun j => ?_) (fun j o ho hl => ?_) h2 (by omega) k.drawn hn hr (Eqv.refl _) ?_)
  · refine ⟨fun hj => ⟨hlt j hj, by simp [hlt j hj]⟩, fun ⟨hj, _⟩ => ?_⟩
    -- a list without repeats, as long as the range, holds all of it
    refine Classical.byContradiction fun hn => ?_
    have := nodup_le ops.size (j :: ord) (List.nodup_cons.2 ⟨hn, hnd⟩) (fun x hx => by
      rcases List.mem_cons.1 hx with rfl | hx
      · exact hj
      · exact hlt x hx)
    simp at this; omega
  · exfalso
    have := (Array.getElem?_eq_some_iff.1 ho).1
    simp [this] at hl
  · refine h.after ?_
    exact { ow := fun _ _ _ _ => rfl, cell := fun _ _ _ _ => rfl, frz := fun _ _ _ _ => rfl, blk := fun _ _ _ => rfl, hb := fun _ _ h => h, os := rfl, tape := rfl, output := rfl, size := Nat.le_refl _ }
end
end Go.Proofs.Ytajlmldpbhendaa.Rf
