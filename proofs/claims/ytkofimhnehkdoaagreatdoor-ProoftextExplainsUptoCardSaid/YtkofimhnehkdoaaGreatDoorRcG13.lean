/- A part of the proof: see the last text. -/
import Derived.Test.YtkofimhnehkdoaaGreatDoorRcG12
set_option linter.unusedVariables false
set_option linter.unusedSimpArgs false
section
namespace Go.Proofs.YtkofimhnehkdoaaGreatDoor.Rf
def maskOf (ms:List Nat) (o:Oper) : Nat := o.after.toList.foldl (fun s e => if Region.binds .any e then s ||| (2 ^ e.on ||| ms.getD e.on 0) else s) 0
def mkMasks : List Oper → List Nat → List Nat
 | [],acc => acc
 | o :: r,acc => mkMasks r (acc ++ [maskOf acc o])
def chkMasks (ms:List Nat) : Nat → List Oper → Bool
 | _,[] => true
 | j,o :: r => Nat.beq (ms.getD j 0) (maskOf ms o) && o.after.toList.all (fun e => !Region.binds .any e || Nat.blt e.on j) && chkMasks ms (j + 1) r
def bef (ms:List Nat) (y x:Nat) : Bool := (ms.getD y 0).testBit x
def quietO (o:IOper) : Bool := match footO o with | some F => (match F.hw with | .no => true | _ => false) | none => false
def pairOk (ms:List Nat) (ios:List IOper) (pans:List Nat) (x y:Nat) : Bool :=
 bef ms y x || (match ios[x]?,ios[y]? with | some ox,some oy => indO ox oy && !pans.contains x && (!pans.contains y || quietO ox) | _,_ => false)
def pairsOk (ms:List Nat) (ios:List IOper) (pans:List Nat) : List Nat → Bool
 | [] => true
 | x :: r => r.all (pairOk ms ios pans x) && pairsOk ms ios pans r
def nodupN : List Nat → Bool
 | [] => true
 | x :: r => !r.contains x && nodupN r
def late3 (i6 i7 i8:IOper) : Bool :=
 match i6.op,i7.op,i8.op with
 | .iaddrL (.t q _) _ _,.store (.t p t1) (.last q1) _ _,.store (.t b t2) (.loc b1) (.t q2 t3) n8 =>
   decide (i6.dst = some p) && i6.guard.isNone && i7.dst.isNone && i7.guard.isNone && i8.dst.isNone && i8.guard.isNone && (Nat.beq q q1 && Nat.beq q q2 && Nat.beq b b1) && (!Nat.beq b p && !Nat.beq q p && !Nat.beq b q) && (!t1 && !t2 && t3 && Nat.beq n8 1)
 | _,_,_ => false
def lateOk (ms:List Nat) (ios:List IOper) : List Nat → Bool
 | [] => true
 | [x6,x7,x8] => (match ios[x6]?,ios[x7]?,ios[x8]? with | some i6,some i7,some i8 => late3 i6 i7 i8 | _,_,_ => false) && bef ms x7 x6
 | _ => false
def drawPart (ms:List Nat) (ios:List IOper) (pans:List Nat) (R L:List Nat) : Bool :=
 pairsOk ms ios pans R && lateOk ms ios L && L.all fun i => !pans.contains i && R.all (bef ms i)
def drawOk (ios:List IOper) (os:List Oper) (ord pans:List Nat) : Bool :=
 (fun ms => chkMasks ms 0 os && (drawPart ms ios pans ord [] || drawPart ms ios pans (ord.take (ord.length - 3)) (ord.drop (ord.length - 3)))) (mkMasks os []) && nodupN ord && Nat.beq ord.length os.length && ord.all (fun i => Nat.blt i os.length)
section
variable {P:Program} {G:Nat → Option (List AV)} {call:CallF} {lo:Nat}
theorem nodupN_spec : ∀ {l:List Nat},nodupN l = true → l.Nodup
 | [],_ => List.nodup_nil
 | x :: r,h => by
   simp only [nodupN,Bool.and_eq_true] at h
   exact List.nodup_cons.2 ⟨by simpa using h.1,nodupN_spec h.2⟩
theorem nodup_le : ∀ (n:Nat) (l:List Nat),l.Nodup → (∀ x,x ∈ l → x < n) → l.length ≤ n
 | 0,l,_,h => by
   cases l with
   | nil => simp
   | cons x r => exact absurd (h x (by simp)) (by omega)
 | n + 1,l,hn,h => by
   by_cases hm : n ∈ l
   · have := nodup_le n (l.erase n) (hn.erase n) (fun x hx => by
       have h1 := (hn.mem_erase_iff).1 hx
       have := h x h1.2
       omega)
     rw [List.length_erase_of_mem hm] at this
     omega
   · have := nodup_le n l hn (fun x hx => by
       have h1 := h x hx
       have : x ≠ n := fun e => hm (e ▸ hx)
       omega)
     omega
theorem mask_fold {ms:List Nat} : ∀ {l:List Edge} {s x:Nat},(l.foldl (fun s e => if Region.binds .any e then s ||| (2 ^ e.on ||| ms.getD e.on 0) else s) s).testBit x = true →
   s.testBit x = true ∨ ∃ e,e ∈ l ∧ Region.binds .any e = true ∧ (e.on = x ∨ bef ms e.on x = true)
 | [],s,x,h => .inl h
 | e :: l,s,x,h => by
   simp only [List.foldl_cons] at h
   rcases mask_fold h with h | ⟨e',h1,h2,h3⟩
   · split at h
     · rename_i hb
       rw [Nat.testBit_or,Nat.testBit_or] at h
       simp only [Bool.or_eq_true] at h
       rcases h with h | h | h
       · exact .inl h
       · rw [Nat.testBit_two_pow] at h; exact .inr ⟨e,by simp,hb,.inl (by simpa using h)⟩
       · exact .inr ⟨e,by simp,hb,.inr h⟩
     · exact .inl h
   · exact .inr ⟨e',List.mem_cons_of_mem _ h1,h2,h3⟩
theorem chkMasks_get {ms:List Nat} : ∀ {os:List Oper} {k:Nat},chkMasks ms k os = true → ∀ {j:Nat} {o:Oper},os[j]? = some o → ms.getD (k + j) 0 = maskOf ms o ∧ ∀ e,e ∈ o.after → Region.binds .any e = true → e.on < k + j
 | [],_,_,j,o,h => by simp at h
 | x :: r,k,hc,j,o,h => by
   simp only [chkMasks,Bool.and_eq_true] at hc
   obtain ⟨⟨h1,h2⟩,h3⟩ := hc
   cases j with
   | zero =>
     simp at h; subst h
     refine ⟨Nat.eq_of_beq_eq_true h1,fun e he hb => ?_⟩
     simp only [List.all_eq_true,Bool.or_eq_true,Bool.not_eq_true'] at h2
     rcases h2 e (Array.mem_toList_iff.2 he) with h | h
     · rw [hb] at h; cases h
     · simpa using h
   | succ j =>
     have := chkMasks_get h3 (j := j) (by simpa using h)
     rwa [show k + 1 + j = k + (j + 1) by omega] at this
def Closed (ops:Array Oper) (listed:Array Bool) : Prop := ∀ (j:Nat) o,ops[j]? = some o → listed.getD j false = true → ∀ e,e ∈ o.after → Region.binds .any e = true → listed.getD e.on false = true
theorem bef_listed {ms:List Nat} {ops:Array Oper} (hm:chkMasks ms 0 ops.toList = true) {listed:Array Bool} (hc:Closed ops listed) : ∀ (y:Nat) {o:Oper} {x:Nat},ops[y]? = some o → (∀ e,e ∈ o.after → Region.binds .any e = true → listed.getD e.on false = true) → bef ms y x = true → listed.getD x false = true := by
 intro y
 induction y using Nat.strongRecOn with
 | _ y ih =>
   intro o x ho hall hb
   obtain ⟨h1,h2⟩ := chkMasks_get hm (j := y) (o := o) (by rw [Array.getElem?_toList]; exact ho)
   rw [Nat.zero_add] at h1 h2
   unfold bef at hb
   rw [h1] at hb
   rcases mask_fold hb with h | ⟨e,e1,e2,e3⟩
   · simp at h
   · have he := Array.mem_toList_iff.1 e1
     have hl := hall e he e2
     rcases e3 with rfl | e3
     · exact hl
     · have hlt := h2 e he e2
       have hy := (Array.getElem?_eq_some_iff.1 ho).1
       have ho2 : ops[e.on]? = some ops[e.on] := Array.getElem?_eq_getElem (by omega)
       exact ih e.on hlt ho2 (hc _ _ ho2 hl) e3
theorem pairsOk_split {ms:List Nat} {ios:List IOper} {pans:List Nat} : ∀ {as:List Nat} {i:Nat} {r:List Nat},pairsOk ms ios pans (as ++ i :: r) = true → (∀ x,x ∈ as → pairOk ms ios pans x i = true) ∧ pairsOk ms ios pans (as ++ r) = true
 | [],i,r,h => by simp only [List.nil_append,pairsOk,Bool.and_eq_true] at h; exact ⟨fun x hx => by simp at hx,by simpa using h.2⟩
 | x :: as,i,r,h => by
   simp only [List.cons_append,pairsOk,Bool.and_eq_true,List.all_eq_true] at h
   obtain ⟨h1,h2⟩ := pairsOk_split h.2
   refine ⟨fun y hy => ?_,?_⟩
   · rcases List.mem_cons.1 hy with rfl | hy
     · exact h.1 i (by simp)
     · exact h1 y hy
   · simp only [List.cons_append,pairsOk,Bool.and_eq_true,List.all_eq_true]
     exact ⟨fun z hz => h.1 z (by simp at hz ⊢; rcases hz with h | h <;> simp [h]),h2⟩
theorem Rel.eqv {g:Gh} {s s' : St} {tm:Array Value} {w:World} (k:Rel G g s [] tm w) (e:Eqv s s') : Rel G g s' [] tm w :=
 ⟨fun t => by
   rw [e.1 t]
   exact VF.like3 (fun u o hv cs hc => ⟨cs,by rw [e.1 u]; exact hc⟩) (fun u hv xs sz hc => ⟨by rw [e.1 u]; exact hc,rfl⟩) (k.fr t),fun j v cv hj => by simp at hj,by rw [e.2]; exact k.hp,k.fresh,k.gl⟩
theorem Eqv.symm {a b:St} (h:Eqv a b) : Eqv b a := ⟨fun s => (h.1 s).symm,h.2.symm⟩
def outS (B:Fr) (s:St) : Ex → St
 | .normal => s
 | _ => ⟨B.husk,s.hp⟩
def Rem (ops:Array Oper) (listed:Array Bool) (R:List Nat) : Prop := ∀ j,j ∈ R ↔ j < ops.size ∧ listed.getD j true = false
theorem ready_mem {ops:Array Oper} {listed:Array Bool} {R:List Nat} (hR:Rem ops listed R) {i:Nat} (hi:i ∈ Region.ready .any ops listed) : i ∈ R ∧ ∃ o,ops[i]? = some o ∧ ∀ e,e ∈ o.after → Region.binds .any e = true → listed.getD e.on false = true := by
 rw [mem_ready] at hi
 obtain ⟨i1,o,ho,i2⟩ := hi
 exact ⟨(hR i).2 ⟨(Array.getElem?_eq_some_iff.1 ho).1,i1⟩,o,ho,i2⟩
theorem no_ready {ops:Array Oper} {ms:List Nat} (hm:chkMasks ms 0 ops.toList = true) {listed:Array Bool} {R:List Nat} (hR:Rem ops listed R) (hsz:listed.size = ops.size) (hr:Region.ready .any ops listed = []) : R = [] := by
 refine Classical.byContradiction fun hn => ?_
 have hall : ∀ j,¬ j ∈ R := by
   intro j
   induction j using Nat.strongRecOn with
   | _ j ih =>
     intro hj
     obtain ⟨h1,h2⟩ := (hR j).1 hj
     have ho : ops[j]? = some ops[j] := Array.getElem?_eq_getElem h1
     have hmem : j ∈ Region.ready .any ops listed := by
       rw [mem_ready]
       refine ⟨h2,ops[j],ho,fun e he hb => ?_⟩
       have hlt := (chkMasks_get hm (j := j) (o := ops[j]) (by rw [Array.getElem?_toList]; exact ho)).2 e he hb
       rw [Nat.zero_add] at hlt
       have hne := ih e.on hlt
       have hls : e.on < listed.size := by omega
       have hx : listed.getD e.on true = true := by
         by_cases hx : listed.getD e.on true = true
         · exact hx
         · exact absurd ((hR e.on).2 ⟨by omega,by simpa using hx⟩) hne
       simpa [hls] using hx
     rw [hr] at hmem; simp at hmem
 cases R with
 | nil => exact hn rfl
 | cons x r => exact hall x (by simp)
theorem ready_none {ops:Array Oper} {listed:Array Bool} (hR:Rem ops listed []) : Region.ready .any ops listed = [] := by
 cases hrd : Region.ready .any ops listed with
 | nil => rfl
 | cons x r => exact absurd (ready_mem hR (i := x) (by rw [hrd]; simp)).1 (by simp)
theorem any_done {ops:Array Oper} {Q:Exit → Act → World → Prop} {listed:Array Bool} (hR:Rem ops listed []) {a:Act} {w:World} (h:Q .normal a w) : ∀ fuel,wpAny P .any ops Q fuel listed a w
 | 0 => ⟨ready_none hR,h⟩
 | fuel + 1 => ⟨fun _ => h,fun i hi => by rw [ready_none hR] at hi; simp at hi⟩
theorem any_step {ops:Array Oper} {ms:List Nat} (hm:chkMasks ms 0 ops.toList = true) {Q:Exit → Act → World → Prop} {listed:Array Bool} {R:List Nat} (hR:Rem ops listed R) (hsz:listed.size = ops.size) (hne:R ≠ []) {fuel:Nat} {a:Act} {w:World}
   (h:∀ i,i ∈ R → ∀ o,ops[i]? = some o → (∀ e,e ∈ o.after → Region.binds .any e = true → listed.getD e.on false = true) → wpOp P ops Q i (wpAny P .any ops Q fuel (listed.setIfInBounds i true)) a w) : wpAny P .any ops Q (fuel + 1) listed a w :=
 ⟨fun hr => absurd (no_ready hm hR hsz hr) hne,fun i hi => by
   obtain ⟨h1,o,h2,h3⟩ := ready_mem hR hi
   exact h i h1 o h2 h3⟩
theorem rem_set {ops:Array Oper} {listed:Array Bool} {R R' : List Nat} (hR:Rem ops listed R) (hsz:listed.size = ops.size) {i:Nat} (hi:i ∈ R) (hR' : ∀ j,j ∈ R' ↔ j ∈ R ∧ j ≠ i) : Rem ops (listed.setIfInBounds i true) R' := by
 intro j
 rw [hR' j]
 by_cases hji : i = j
 · subst hji
   have h1 := ((hR i).1 hi).1
   have : i < listed.size := by omega
   simp [this]
 · rw [getD_set_ne true hji,hR j]
   have hne : j ≠ i := fun h => hji h.symm
   simp [hne]
theorem closed_set {ops:Array Oper} {listed:Array Bool} (hcl:Closed ops listed) {i:Nat} {o:Oper} (ho:ops[i]? = some o) (i2:∀ e,e ∈ o.after → Region.binds .any e = true → listed.getD e.on false = true) : Closed ops (listed.setIfInBounds i true) := by
 intro j oj hoj hlj e he hb
 by_cases hji : i = j
 · subst hji
   rw [ho] at hoj; cases hoj
   exact getD_set_true (i2 e he hb)
 · rw [getD_set_ne false hji] at hlj
   exact getD_set_true (hcl j oj hoj hlj e he hb)
theorem not_bef {ops:Array Oper} {ms:List Nat} (hm:chkMasks ms 0 ops.toList = true) {listed:Array Bool} {R:List Nat} (hR:Rem ops listed R) (hsz:listed.size = ops.size) (hcl:Closed ops listed) {i x:Nat} {o:Oper} (ho:ops[i]? = some o) (i2:∀ e,e ∈ o.after → Region.binds .any e = true → listed.getD e.on false = true) (hx:x ∈ R) : bef ms i x = false := by
 cases hb : bef ms i x with
 | false => rfl
 | true =>
   exfalso
   have hl := bef_listed hm hcl i ho i2 hb
   obtain ⟨h1,h2⟩ := (hR x).1 hx
   have hls : x < listed.size := by omega
   simp [hls] at hl h2
   rw [hl] at h2; cases h2
def Ends (P:Program) (G:Nat → Option (List AV)) (call:CallF) (lo:Nat) (nt:NT) (ops:Array Oper) (ios:List IOper) (pans:List Nat) (Q:Exit → Act → World → Prop) (B:Fr) (L:List Nat) : Prop :=
 ∀ (fuel:Nat) (listed:Array Bool) (g:Gh) (st:St) (a:Act) (w:World) (ex:Ex) (s s0:St),listed.size = ops.size → Rem ops listed L → Closed ops listed → L.length ≤ fuel → Rel G g st [] a.tmps w → nt.ok a.tmps →
   evalDraw G call lo ios pans L st = some (ex,s) → Eqv s0 s → Held B st.fr → Goes G nt a.defers g w (outS B s0 ex) ex Q → wpAny P .any ops Q fuel listed a w
theorem ends_nil {nt:NT} {ops:Array Oper} {ios:List IOper} {pans:List Nat} {Q:Exit → Act → World → Prop} {B:Fr} : Ends P G call lo nt ops ios pans Q B [] := by
 intro fuel listed g st a w ex s s0 hsz hR hcl hf k hn he hs hB h
 simp [evalDraw] at he; obtain ⟨rfl,rfl⟩ := he
 exact any_done hR (h g a w hn rfl (k.eqv hs.symm) (Stay.refl g w)) fuel
theorem evalOps_one {i:IOper} {st st' : St} (hg:i.guard = none) (h:evalOps G call lo [i] st = some (.normal,st')) : ∃ v s1,evalOp G call lo i.op st = some (.val v s1) ∧ s1.put i.dst v = some st' := by
 simp only [evalOps,hg,wanted] at h
 split at h
 · rename_i v s1 he
   split at h
   · rename_i s2 hp; cases h; exact ⟨v,s1,he,hp⟩
   · cases h
 · cases h
 · cases h
theorem ends_late (hc:CallOK P G call) {nt:NT} {ops:Array Oper} {ios:List IOper} (hk:chkOpers P nt.toNK ops ios ops.toList = true) {ms pans:List Nat} (hm:chkMasks ms 0 ops.toList = true) {Q:Exit → Act → World → Prop} {B:Fr} {x6 x7 x8:Nat} (hnd:[x6,x7,x8].Nodup) (hl:lateOk ms ios [x6,x7,x8] = true) (hpn:∀ i,i ∈ [x6,x7,x8] → i ∉ pans) :
   Ends P G call lo nt ops ios pans Q B [x6,x7,x8] := by
 intro fuel listed g st a w ex s s0 hsz hR hcl hf k hn he hs hB h
 obtain ⟨hlen,hget⟩ := chkOpers_get hk
 simp only [lateOk,Bool.and_eq_true] at hl
 obtain ⟨hl3,hb76⟩ := hl
 -- the canonical run
 obtain ⟨i6,e6,he⟩ := evalDraw_cons he
 rcases he with ⟨st6,r6,he⟩ | ⟨_,_,_,hp,_⟩
 rotate_left
 · exact absurd hp (hpn x6 (by simp))
 obtain ⟨i7,e7,he⟩ := evalDraw_cons he
 rcases he with ⟨st7,r7,he⟩ | ⟨_,_,_,hp,_⟩
 rotate_left
 · exact absurd hp (hpn x7 (by simp))
 obtain ⟨i8,e8,he⟩ := evalDraw_cons he
 rcases he with ⟨st8,r8,he⟩ | ⟨_,_,_,hp,_⟩
 rotate_left
 · exact absurd hp (hpn x8 (by simp))
 simp [evalDraw] at he
 obtain ⟨rfl,rfl⟩ := he
 rw [e6,e7,e8] at hl3
 simp only at hl3
 have hop : ∀ {x:Nat} {io:IOper},ios[x]? = some io → ∃ o,ops[x]? = some o ∧ chkOper P nt.toNK ops io o = true := fun {x io} hx => by
   have h1 := (List.getElem?_eq_some_iff.1 hx).1
   have h2 : x < ops.size := by rw [hlen] at h1; simpa using h1
   exact ⟨ops[x],Array.getElem?_eq_getElem h2,hget x io _ hx (by rw [Array.getElem?_toList]; exact Array.getElem?_eq_getElem h2)⟩
 obtain ⟨o6,ho6,hk6⟩ := hop e6
 obtain ⟨o7,ho7,hk7⟩ := hop e7
 obtain ⟨o8,ho8,hk8⟩ := hop e8
 obtain ⟨d6,p6,gd6⟩ := i6
 obtain ⟨d7,p7,gd7⟩ := i7
 obtain ⟨d8,p8,gd8⟩ := i8
 unfold late3 at hl3
 split at hl3
 rotate_left
 · cases hl3
 rename_i q tq i sz p t1 q1 v n b t2 b1 q2 t3 n8 m6 m7 m8
 simp only at m6 m7 m8
 subst m6 m7 m8
 simp only [Bool.and_eq_true,decide_eq_true_eq,Option.isNone_iff_eq_none,Bool.not_eq_true'] at hl3
 obtain ⟨⟨⟨⟨⟨⟨⟨⟨f1,f2⟩,f3⟩,f4⟩,f5⟩,f6⟩,⟨f7,f8⟩,f9⟩,⟨f10,f11⟩,f12⟩,⟨⟨f13,f14⟩,f15⟩,f16⟩ := hl3
 have f7 := Nat.eq_of_beq_eq_true f7
 have f8 := Nat.eq_of_beq_eq_true f8
 have f9 := Nat.eq_of_beq_eq_true f9
 have f16 := Nat.eq_of_beq_eq_true f16
 have f10 : b ≠ p := fun e => by subst e; simp at f10
 have f11 : q ≠ p := fun e => by subst e; simp at f11
 have f12 : b ≠ q := fun e => by subst e; simp at f12
 subst f1 f2 f3 f4 f5 f6 f7 f8 f9 f13 f14 f15 f16
 obtain ⟨v6,s6,v6e,v6p⟩ := evalOps_one rfl r6
 obtain ⟨v7,s7,v7e,v7p⟩ := evalOps_one rfl r7
 obtain ⟨v8,s8,v8e,v8p⟩ := evalOps_one rfl r8
 -- the box and the pending row,as they stood
 have hs67 : s7 = st7 := by simp only [St.put,Option.some.injEq] at v7p; exact v7p
 subst hs67
 have q7 : st6.fr.get q = .pend (match st6.fr.get q with | .pend xs _ => xs | _ => []) (match st6.fr.get q with | .pend _ sz => sz | _ => 0) ∧ (∀ bx cs,bx ≠ p → bx ≠ q → s7.fr.get bx = .box cs → st6.fr.get bx = .box cs) := by
   have h7 := v7e
   simp only [evalOp] at h7
   split at h7
   · cases h7
   rename_i hpm
   simp only [not_or,Bool.not_eq_false] at hpm
   obtain ⟨hp,hm⟩ := hpm
   have hls : (opd (opd st6.fr v).2 (.t p false)).1 = .lastr q := by
     cases hx : (opd (opd st6.fr v).2 (.t p false)).1 <;> rw [hx] at hm <;> simp only [memOk] at hm <;> first | (simp at hm; done) | (rw [Nat.eq_of_beq_eq_true hm])
   rw [hls] at h7
   simp only at h7
   cases hs : (opd st6.fr v).2.get q <;> rw [hs] at h7 <;> try (simp at h7; done)
   rename_i xs sz
   simp only at h7
   split at h7
   rotate_left
   · cases h7
   simp [ret1] at h7
   obtain ⟨_,rfl⟩ := h7
   have := opd_pend_back hs
   refine ⟨by rw [this],fun bx cs n1 n2 hbx => ?_⟩
   simp only at hbx
   rw [Fr.get_set,if_neg (fun e => n2 e.symm),Fr.get_set,if_neg (fun e => n1 e.symm)] at hbx
   exact opd_box_back hbx
 obtain ⟨q6,back7⟩ := q7
 generalize (match st6.fr.get q with | .pend xs _ => xs | _ => []) = xs at q6
 generalize (match st6.fr.get q with | .pend _ sz => sz | _ => 0) = szq at q6
 have fr6 : ∀ t,t ≠ p → st6.fr.get t = st.fr.get t := by
   have hs6 : s6 = st := by
     have h6 := v6e
     simp only [evalOp] at h6
     repeat' split at h6
     all_goals first
       | (cases h6; done)
       | (simp [ret1] at h6; exact h6.2.symm)
   subst hs6
   intro t ht
   simp only [St.put] at v6p
   split at v6p
   · cases v6p; simp only; rw [Fr.get_set,if_neg (fun e => ht e.symm)]
   · cases v6p
 have box7 : ∃ c cs,s7.fr.get b = .box (c :: cs) := by
   have h8 := v8e
   simp only [evalOp] at h8
   split at h8
   · cases h8
   rename_i hpm
   simp only [not_or,Bool.not_eq_false] at hpm
   obtain ⟨hp,hm⟩ := hpm
   cases hx : (opd (opd s7.fr (.t q true)).2 (.t b false)).1 <;> rw [hx] at hm <;> simp only [memOk] at hm <;> try (simp at hm; done)
   rename_i sb off
   have := Nat.eq_of_beq_eq_true hm
   subst this
   rw [hx] at h8
   simp only [behind] at h8
   split at h8
   · rename_i cs off2 hbb
     split at hbb
     · rename_i cs3 hg
       cases hbb
       split at h8
       · rename_i hh
         have hbk := opd_box_back hg
         cases cs with
         | nil => have := hh.2; simp at this
         | cons c cs => exact ⟨c,cs,hbk⟩
       · cases h8
     · cases hbb
   · cases h8
 obtain ⟨c,cs,hb7⟩ := box7
 have hb6 : st6.fr.get b = .box (c :: cs) := back7 b _ f10 f12 hb7
 -- what is owed
 have h0 : ∀ g' (a' : Act) w',nt.ok a'.tmps → a'.defers = a.defers → Rel G g' st8 [] a'.tmps w' → Stay g w g' w' → Q .normal a' w' := fun g' a' w' q1 q2 q3 q4 => h g' a' w' q1 q2 (q3.eqv hs.symm) q4
 have w6 : Region.wanted o6 (yielded ops a.tmps) = true := by
   unfold Region.wanted
   simp only [chkOper,Bool.and_eq_true] at hk6
   have := hk6.1.2
   cases hg : o6.guard with
   | none => rfl
   | some x => rw [hg] at this; simp [chkGuard] at this
 have w7 : ∀ tm,Region.wanted o7 (yielded ops tm) = true := fun tm => by
   unfold Region.wanted
   simp only [chkOper,Bool.and_eq_true] at hk7
   have := hk7.1.2
   cases hg : o7.guard with
   | none => rfl
   | some x => rw [hg] at this; simp [chkGuard] at this
 have w8 : ∀ tm,Region.wanted o8 (yielded ops tm) = true := fun tm => by
   unfold Region.wanted
   simp only [chkOper,Bool.and_eq_true] at hk8
   have := hk8.1.2
   cases hg : o8.guard with
   | none => rfl
   | some x => rw [hg] at this; simp [chkGuard] at this
 have dst6 : o6.dst = some p := by simp only [chkOper,Bool.and_eq_true,decide_eq_true_eq] at hk6; exact hk6.1.1.1.symm
 have dst7 : o7.dst = none := by simp only [chkOper,Bool.and_eq_true,decide_eq_true_eq] at hk7; exact hk7.1.1.1.symm
 have dst8 : o8.dst = none := by simp only [chkOper,Bool.and_eq_true,decide_eq_true_eq] at hk8; exact hk8.1.1.1.symm
 have ck6 : chkOp P (.iaddrL (.t q tq) i sz) o6.op = true := by simp only [chkOper,Bool.and_eq_true] at hk6; exact hk6.2
 have ck7 : chkOp P (.store (.t p false) (.last q) v n) o7.op = true := by simp only [chkOper,Bool.and_eq_true] at hk7; exact hk7.2
 have ck8 : chkOp P (.store (.t b false) (.loc b) (.t q true) 1) o8.op = true := by simp only [chkOper,Bool.and_eq_true] at hk8; exact hk8.2
 have nd6 : x6 ≠ x7 ∧ x6 ≠ x8 ∧ x7 ≠ x8 := by
   simp only [List.nodup_cons,List.mem_cons,List.mem_singleton,not_or] at hnd
   exact ⟨hnd.1.1,hnd.1.2.1,by simpa using hnd.2.1⟩
 obtain ⟨n67,n68,n78⟩ := nd6
 -- 8 is done,7 is not
 have tail7 : ∀ (fuel:Nat) (l7:Array Bool) (g1:Gh) (a1:Act) (w1:World) (L:Late P w1 a1 o7 o8),l7.size = ops.size → Rem ops l7 [x7] → Rel G g1 st6 [] a1.tmps w1 → Stay g w g1 w1 → nt.ok a1.tmps → a1.defers = a.defers → wpAny P .any ops Q (fuel + 1) l7 a1 (w1.setCell L.c0 L.u) := by
   intro fuel l7 g1 a1 w1 L z1 z2 k1 t1 n1 dd
   refine any_step hm z2 z1 (by simp) fun i hi o hoi i2 => ?_
   simp at hi; subst hi
   rw [ho7] at hoi; cases hoi
   unfold wpOp; rw [ho7]; simp only
   rw [if_pos (w7 _)]
   refine .inl ?_
   have run7 := L.run7 (w1.setCell L.c0 L.u) (fun x hx => ⟨World.cell?_setCell_other _ _ _ _ (fun e => L.ne (by rw [← hx,e])),World.frozen?_setCell _ _ _ _⟩)
   unfold Oper.wp
   rw [run7,Oper.upon_skip,dst7]
   refine any_done (rem_set z2 z1 (by simp) (fun j => by simp)) ?_ fuel
   simp only [Act.put]
   -- the canonical way there
   obtain ⟨g2,k2,t2,n2,_⟩ := step_run hc hk7 k1 n1 rfl r7 (L.run7 w1 (fun _ _ => ⟨rfl,rfl⟩)) (.inl ⟨rfl,rfl⟩)
   rw [dst7] at k2 n2
   simp only [Act.put] at k2 n2
   have run8 := L.run8 (setCells w1 L.bA L.qA L.vs) (cell_setCells L.ne _ _ _) (frozen_setCells _ _ _)
   obtain ⟨g3,k3,t3,n3,_⟩ := step_run hc hk8 k2 n2 rfl r8 run8 (.inl ⟨rfl,rfl⟩)
   rw [dst8] at k3 n3
   simp only [Act.put] at k3 n3
   rw [setCells_comm L.ne]
   exact h0 g3 a1 _ n3 dd k3 ((t1.trans t2).trans t3)
 -- 6 is done
 have part6 : ∀ (fuel:Nat) (l6:Array Bool) (g1:Gh) (a1:Act) (w1:World),l6.size = ops.size → Rem ops l6 [x7,x8] → Rel G g1 st6 [] a1.tmps w1 → Stay g w g1 w1 → nt.ok a1.tmps → a1.defers = a.defers → wpAny P .any ops Q (fuel + 2) l6 a1 w1 := by
   intro fuel l6 g1 a1 w1 z1 z2 k1 t1 n1 dd
   refine any_step hm z2 z1 (by simp) fun i hi o hoi i2 => ?_
   simp only [List.mem_cons,List.not_mem_nil,or_false] at hi
   rcases hi with rfl | rfl
   · refine op1 hc ho7 hk7 k1 n1 r7 fun g2 a2 w2 e1 e2 k2 t2 => ?_
     refine any_step hm (rem_set z2 z1 (by simp) (R' := [x8]) (fun j => by simp; constructor; exact fun e => ⟨.inr e,fun e2 => n78 (e2.symm.trans e)⟩; exact fun e => e.1.resolve_left e.2)) (by simp [z1]) (by simp) fun i hi o hoi i2 => ?_
     simp at hi; subst hi
     refine op1 hc ho8 hk8 k2 e1 r8 fun g3 a3 w3 e3 e4 k3 t3 => ?_
     refine any_done (rem_set (R := [i]) (R' := []) (rem_set z2 z1 (by simp) (fun j => by simp; constructor; exact fun e => ⟨.inr e,fun e2 => n78 (e2.symm.trans e)⟩; exact fun e => e.1.resolve_left e.2)) (by simp [z1]) (by simp) (fun j => by simp)) ?_ fuel
     exact h0 g3 a3 w3 e3 (by rw [e4,e2,dd]) k3 ((t1.trans t2).trans t3)
   · obtain ⟨L⟩ := late_facts k1 ck7 ck8 v7e hb6
     unfold wpOp; rw [ho8]; simp only
     rw [if_pos (w8 _)]
     refine .inl ?_
     unfold Oper.wp
     rw [L.run8 w1 rfl rfl,Oper.upon_skip,dst8]
     simp only [Act.put]
     exact tail7 fuel _ g1 a1 w1 L (by simp [z1]) (rem_set z2 z1 (by simp) (fun j => by simp; constructor; exact fun e => ⟨.inl e,fun e2 => n78 (e.symm.trans e2)⟩; exact fun e => e.1.resolve_right e.2)) k1 t1 n1 dd
 match fuel,hf with
 | fuel + 3,_ =>
   refine any_step hm hR hsz (by simp) fun i hi o hoi i2 => ?_
   simp only [List.mem_cons,List.not_mem_nil,or_false] at hi
   rcases hi with rfl | rfl | rfl
   · refine op1 hc ho6 hk6 k hn r6 fun g1 a1 w1 e1 e2 k1 t1 => ?_
     exact part6 fuel _ g1 a1 w1 (by simp [hsz]) (rem_set hR hsz (by simp) (fun j => by
       simp only [List.mem_cons,List.not_mem_nil,or_false]
       constructor
       · rintro (rfl | rfl)
         · exact ⟨.inr (.inl rfl),fun e => n67 e.symm⟩
         · exact ⟨.inr (.inr rfl),fun e => n68 e.symm⟩
       · rintro ⟨h1,h2⟩; exact h1.resolve_left h2)) k1 t1 e1 e2
   · have := not_bef hm hR hsz hcl hoi i2 (x := x6) (by simp)
     rw [hb76] at this; cases this
   · -- 8 goes first
     obtain ⟨cv,run6⟩ := late_run6 k ck6 v6e (by rw [← fr6 q f11]; exact q6)
     obtain ⟨g1,k1,t1,n1,d1⟩ := step_run hc hk6 k hn rfl r6 (run6 w) (.inr rfl)
     obtain ⟨L⟩ := late_facts k1 ck7 ck8 v7e hb6
     have same8 : ∀ w',(execOp a.eval o8).run P w' = (execOp (Act.eval (a.put o6.dst cv)) o8).run P w' := by
       intro w'
       have ck := ck8
       simp only [chkOp] at ck
       split at ck
       rotate_left
       · cases ck
       rename_i t8 y8 u8 ho8e
       simp only [Bool.and_eq_true] at ck
       obtain ⟨⟨c1,c2⟩,_⟩ := ck
       cases y8 <;> simp [opdOk] at c1
       subst c1
       cases u8 <;> simp [opdOk] at c2
       subst c2
       have ge : ∀ t,t ≠ p → Act.opd (a.put o6.dst cv).tmps (.tmp t) = Act.opd a.tmps (.tmp t) := fun t ht => by
         rw [dst6]
         simp only [Act.put,Act.opd,Array.getD_eq_getD_getElem?,Array.getElem?_setIfInBounds,if_neg (fun e => ht (Eq.symm e))]
       simp only [execOp,ho8e,Act.eval_eq,ge _ f10,ge _ f11]
     unfold wpOp; rw [ho8]; simp only
     rw [if_pos (w8 _)]
     refine .inl ?_
     unfold Oper.wp
     rw [same8,L.run8 w rfl rfl,Oper.upon_skip,dst8]
     simp only [Act.put]
     have hR2 : Rem ops (listed.setIfInBounds i true) [x6,x7] := rem_set hR hsz (by simp) (fun j => by
       simp only [List.mem_cons,List.not_mem_nil,or_false]
       constructor
       · rintro (rfl | rfl)
         · exact ⟨.inl rfl,n68⟩
         · exact ⟨.inr (.inl rfl),n78⟩
       · rintro ⟨h1,h2⟩; exact h1.elim .inl fun h => .inr (h.resolve_right h2))
     refine any_step hm hR2 (by simp [hsz]) (by simp) fun j hj o hoj j2 => ?_
     simp only [List.mem_cons,List.not_mem_nil,or_false] at hj
     rcases hj with rfl | rfl
     · unfold wpOp; rw [ho6]; simp only
       rw [if_pos w6]
       refine .inl ?_
       unfold Oper.wp
       rw [run6,Oper.upon_value]
       refine tail7 fuel _ g1 (a.put o6.dst cv) w L (by simp [hsz]) (rem_set hR2 (by simp [hsz]) (by simp) (fun j => by simp; constructor; exact fun e => ⟨.inr e,fun e2 => n67 (e2.symm.trans e)⟩; exact fun e => e.1.resolve_left e.2)) k1 t1 n1 d1
     · have := not_bef hm hR2 (by simp [hsz]) (closed_set hcl hoi i2) hoj j2 (x := x6) (by simp)
       rw [hb76] at this; cases this
theorem any_sound (hc:CallOK P G call) (hq:CallQ call) {nt:NT} {ops:Array Oper} {ios:List IOper} (hk:chkOpers P nt.toNK ops ios ops.toList = true) {ms pans:List Nat} (hm:chkMasks ms 0 ops.toList = true) {Q:Exit → Act → World → Prop} {B:Fr} {L:List Nat} (hend:Ends P G call lo nt ops ios pans Q B L) : ∀ (fuel:Nat) (listed:Array Bool) (R:List Nat) (g:Gh) (st:St) (a:Act) (w:World) (ex:Ex) (s s0:St),
   listed.size = ops.size → (R ++ L).Nodup → Rem ops listed (R ++ L) → Closed ops listed → pairsOk ms ios pans R = true → (∀ i,i ∈ L → ∀ x,x ∈ R → bef ms i x = true) → (R ++ L).length ≤ fuel →
   Rel G g st [] a.tmps w → nt.ok a.tmps → evalDraw G call lo ios pans (R ++ L) st = some (ex,s) → Eqv s0 s → Held B st.fr → Goes G nt a.defers g w (outS B s0 ex) ex Q → wpAny P .any ops Q fuel listed a w := by
 obtain ⟨hlen,hget⟩ := chkOpers_get hk
 intro fuel
 induction fuel with
 | zero =>
   intro listed R g st a w ex s s0 hsz hnd hR hcl hp hLb hf k hn he hs hB h
   have : R ++ L = [] := List.length_eq_zero_iff.1 (by omega)
   obtain ⟨rfl,rfl⟩ := List.append_eq_nil_iff.1 this
   exact hend 0 listed g st a w ex s s0 hsz hR hcl (by simp) k hn he hs hB h
 | succ fuel ih =>
   intro listed R g st a w ex s s0 hsz hnd hR hcl hp hLb hf k hn he hs hB h
   cases hRe : R with
   | nil =>
     subst hRe
     exact hend _ listed g st a w ex s s0 hsz hR hcl hf k hn he hs hB h
   | cons x0 R0 =>
   refine any_step hm hR hsz (by rw [hRe]; simp) fun i hiR o ho i2 => ?_
   have hio := (Array.getElem?_eq_some_iff.1 ho).1
   have hiR0 : i ∈ R := by
     rcases List.mem_append.1 hiR with h | h
     · exact h
     · have h1 := hLb i h x0 (by rw [hRe]; simp)
       have h2 := not_bef hm hR hsz hcl ho i2 (x := x0) (by rw [hRe]; simp)
       rw [h1] at h2; cases h2
   clear hRe
   obtain ⟨as,r,rfl⟩ := List.append_of_mem hiR0
   obtain ⟨p1,p2⟩ := pairsOk_split hp
   have hlis : i < ios.length := by rw [hlen]; simpa using hio
   have hioi : ios[i]? = some ios[i] := List.getElem?_eq_getElem hlis
   have he' : evalDraw G call lo ios pans (as ++ i :: (r ++ L)) st = some (ex,s) := by rw [List.append_assoc] at he; exact he
   obtain ⟨s',f1,f2⟩ := front (G := G) (lo := lo) hq (ops := ios) (pans := pans) (i := i) (r := r ++ L) (as := as) (fun x hx => by
     have hpx := p1 x hx
     unfold pairOk at hpx
     simp only [Bool.or_eq_true] at hpx
     rcases hpx with hb | hpx
     · have := not_bef hm hR hsz hcl ho i2 (x := x) (by simp [hx])
       rw [hb] at this; cases this
     · cases hx1 : ios[x]? with
       | none => rw [hx1] at hpx; simp at hpx
       | some ox =>
         rw [hx1,hioi] at hpx
         simp only [Bool.and_eq_true,Bool.or_eq_true,Bool.not_eq_true'] at hpx
         obtain ⟨⟨q1,q2⟩,q3⟩ := hpx
         refine ⟨fun hm => (by rw [List.contains_iff_mem.2 hm] at q2; cases q2),fun ox' oi' e1 e2 => ?_⟩
         cases e1; rw [hioi] at e2; cases e2
         refine ⟨q1,fun hip F hF => ?_⟩
         rcases q3 with q3 | q3
         · rw [List.contains_iff_mem.2 hip] at q3; cases q3
         · unfold quietO at q3
           rw [hF] at q3
           simp only at q3
           cases hw : F.hw <;> rw [hw] at q3 <;> first | rfl | (simp at q3; done)) he'
   obtain ⟨oi,e1,f3⟩ := evalDraw_cons f1
   rw [hioi] at e1; cases e1
   have hko := hget i ios[i] o hioi (by rw [Array.getElem?_toList]; exact ho)
   have hnd2 : (as ++ i :: (r ++ L)).Nodup := by rw [List.append_assoc] at hnd; exact hnd
   have hnd' : ((as ++ r) ++ L).Nodup := by rw [List.append_assoc]; exact hnd2.sublist (by simp)
   have hnotin : i ∉ as ++ (r ++ L) := by
     have := List.nodup_append.1 hnd2
     intro hm
     rcases List.mem_append.1 hm with hm | hm
     · exact this.2.2 i hm i (by simp) rfl
     · exact (List.nodup_cons.1 this.2.1).1 hm
   rcases f3 with ⟨s1,g1,g2⟩ | ⟨v,s1,g1,hpn,rfl,rfl⟩
   · refine op1 hc ho hko k hn g1 fun g' a' w' e1 e2 k1 t1 => ?_
     simp only [ExQ]
     refine ih _ (as ++ r) g' s1 a' w' ex s' s0 (by simp [hsz]) hnd' (rem_set hR hsz (by simp) (fun j => ?_)) (closed_set hcl ho i2) p2 (fun i hi x hx => hLb i hi x (by simp at hx ⊢; rcases hx with h | h <;> simp [h])) (by simp at hf ⊢; omega) k1 e1 (by rw [List.append_assoc]; exact g2) (hs.trans f2) (hB.trans (evalOps_held g1)) (by rw [e2]; exact h.after t1)
     by_cases hji : j = i
     · subst hji; simp at hnotin ⊢; exact hnotin
     · simp [hji]
   · refine op1 hc ho hko k hn g1 fun g' a' w' e1 e2 k1 t1 => ?_
     simp only [ExQ]
     intro cv hv hpv
     refine h g' a' w' e1 e2 ?_ t1 cv hv hpv
     have k2 := k1.husk (hB.trans (evalOps_held g1))
     have e3 : s1.hp = s0.hp := (hs.trans f2).2
     rw [e3] at k2
     exact k2
theorem Rel.drawn {g:Gh} {s:St} {tm:Array Value} {w:World} (k:Rel G g s [] tm w) : Rel G g s [] tm { w with drawn := w.drawn + 1 } := k.draws rfl
theorem draw_sound (hmx:P.follows .mixedOrders = true) (hc:CallOK P G call) (hq:CallQ call) {nt:NT} {ops:Array Oper} {ios:List IOper} (hk:chkOpers P nt.toNK ops ios ops.toList = true) {ord pans:List Nat} (hd:drawOk ios ops.toList ord pans = true)
   {Q:Exit → Act → World → Prop} {g:Gh} {st:St} {a:Act} {w:World} (k:Rel G g st [] a.tmps w) (hn:nt.ok a.tmps) {ex:Ex} {st' : St} (hr:evalDraw G call lo ios pans ord st = some (ex,st'))
   (h:Goes G nt a.defers g w (outS st.fr st' ex) ex Q) (id:Nat) : (Code.region id ops true).wp P Q a w := by
 simp only [drawOk,Bool.and_eq_true,List.all_eq_true] at hd
 obtain ⟨⟨⟨⟨h1,h2⟩,h3⟩,h4⟩,h5⟩ := hd
 have hnd := nodupN_spec h3
 have hlen : ord.length = ops.size := by have := Nat.eq_of_beq_eq_true h4; simpa using this
 have hlt : ∀ j,j ∈ ord → j < ops.size := fun j hj => by have := h5 j hj; simpa using this
 have hsplit : ∃ R L,ord = R ++ L ∧ drawPart (mkMasks ops.toList []) ios pans R L = true := by
   simp only [Bool.or_eq_true] at h2
   rcases h2 with h2 | h2
   · exact ⟨ord,[],by simp,h2⟩
   · exact ⟨_,_,(List.take_append_drop _ _).symm,h2⟩
 obtain ⟨R,L,rfl,hpart⟩ := hsplit
 simp only [drawPart,Bool.and_eq_true,List.all_eq_true,Bool.not_eq_true'] at hpart
 obtain ⟨⟨p1,p2⟩,p3⟩ := hpart
 have hndL : L.Nodup := (List.nodup_append.1 hnd).2.1
 have hend : Ends P G call lo nt ops ios pans Q st.fr L := by
   have p2' := p2
   unfold lateOk at p2
   split at p2
   · exact ends_nil
   · exact ends_late hc hk h1 hndL p2' (fun i hi hm => by have := (p3 i hi).1; rw [List.contains_iff_mem.2 hm] at this; cases this)
   · cases p2
 refine wp_region_any hmx (any_sound hc hq hk h1 hend ops.size _ R g st a _ ex st' st' (by simp) hnd (fun j => ?_) (fun j o ho hl => ?_) p1 (fun i hi x hx => (p3 i hi).2 x hx) (by omega) k.drawn hn hr (Eqv.refl _) (Held.refl _) ?_)
 · refine ⟨fun hj => ⟨hlt j hj,by simp [hlt j hj]⟩,fun ⟨hj,_⟩ => ?_⟩
   -- a list without repeats,as long as the range,holds all of it
   refine Classical.byContradiction fun hn => ?_
   have := nodup_le ops.size (j :: (R ++ L)) (List.nodup_cons.2 ⟨hn,hnd⟩) (fun x hx => by
     rcases List.mem_cons.1 hx with rfl | hx
     · exact hj
     · exact hlt x hx)
   rw [List.length_cons,hlen] at this; omega
 · exfalso
   have := (Array.getElem?_eq_some_iff.1 ho).1
   simp [this] at hl
 · refine h.after ?_
   exact { ow := fun _ _ _ _ => rfl,cell := fun _ _ _ _ => rfl,frz := fun _ _ _ _ _ => rfl,blk := fun _ _ _ => rfl,row := fun _ _ _ h => h,te := fun _ => trivial,hb := fun _ _ h => h,os := rfl,tape := rfl,output := rfl,size := Nat.le_refl _ }
end
end Go.Proofs.YtkofimhnehkdoaaGreatDoor.Rf
end
section
namespace Go.Proofs.YtkofimhnehkdoaaGreatDoor.Rf
def chkCode (P:Program) (nt:NK) : ICode → Code → Bool
 | .skip,.skip => true
 | .region is _,.region _ os false => chkOpers P nt os is os.toList
 | .draw is ord pans _,.region _ os true => chkOpers P nt os is os.toList && drawOk is os.toList ord pans
 | .seq a b,.seq c d => chkCode P nt a c && chkCode P nt b d
 | .cond x a b,.cond y c d => opdOk x y && chkCode P nt a c && chkCode P nt b d
 | .block i a,.block j c => decide (i = j) && chkCode P nt a c
 | .loop a,.loop c => chkCode P nt a c
 | .exit i,.exit j => decide (i = j)
 | .ret,.ret => true
 | .stuck,_ => true
 | _,_ => false
def nodupB : List Nat → Bool
 | [] => true
 | x :: r => !r.contains x && nodupB r
theorem nodupB_spec : ∀ {l:List Nat},nodupB l = true → l.Nodup
 | [],_ => List.nodup_nil
 | x :: r,h => by
   simp only [nodupB,Bool.and_eq_true] at h
   exact List.nodup_cons.2 ⟨by simpa using h.1,nodupB_spec h.2⟩
def LoopOK (P:Program) (G:Nat → Option (List AV)) (k:Nat) (loop:LoopF) : Prop :=
 ∀ (nt:NT) (body:ICode) (code:Code),chkCode P nt.toNK body code = true → ∀ (Q:Exit → Act → World → Prop) (g:Gh) (st:St) (a:Act) (w:World) (ex:Ex) (st' : St),Rel G g st [] a.tmps w → nt.ok a.tmps → loop body st = some (ex,st') → Goes G nt a.defers g w st' ex Q → Code.rounds P code Q k a w
section
variable {P:Program} {G:Nat → Option (List AV)}
theorem Goes.mono {nt:NT} {df:List Deferred} {g:Gh} {w:World} {st:St} {ex:Ex} {Q Q' : Exit → Act → World → Prop} (h:Goes G nt df g w st ex Q) (hq:∀ g' a' w',ExQ g' w' a' Q ex → ExQ g' w' a' Q' ex) : Goes G nt df g w st ex Q' :=
 fun g' a' w' h1 h2 h3 h4 => hq _ _ _ (h g' a' w' h1 h2 h3 h4)
theorem code_sound (hm:P.follows .mixedOrders = true) {call:CallF} {loop:LoopF} {lo k:Nat} (hc:CallOK P G call) (hq:CallQ call) (hl:LoopOK P G k loop) {nt:NT} : ∀ {ic:ICode} {c:Code},chkCode P nt.toNK ic c = true → ∀ {Q:Exit → Act → World → Prop} {g:Gh} {st:St} {a:Act} {w:World} {ex:Ex} {st' : St},
   Rel G g st [] a.tmps w → nt.ok a.tmps → evalC G call loop lo ic st = some (ex,st') → Goes G nt a.defers g w st' ex Q → c.wp P Q a w := by
 intro ic
 induction ic with
 | skip =>
   intro c hk Q g st a w ex st' kk hn hr h
   cases c <;> simp [chkCode] at hk
   simp [evalC] at hr; obtain ⟨rfl,rfl⟩ := hr
   exact wp_skip (h g a w hn rfl kk (Stay.refl g w))
 | ret =>
   intro c hk Q g st a w ex st' kk hn hr h
   cases c <;> simp [chkCode] at hk
   simp [evalC] at hr; obtain ⟨rfl,rfl⟩ := hr
   exact wp_ret (h g a w hn rfl kk (Stay.refl g w))
 | stuck =>
   intro c hk Q g st a w ex st' kk hn hr h
   simp [evalC] at hr
 | exit id =>
   intro c hk Q g st a w ex st' kk hn hr h
   cases c <;> simp [chkCode] at hk
   subst hk
   simp [evalC] at hr; obtain ⟨rfl,rfl⟩ := hr
   exact wp_exit (h g a w hn rfl kk (Stay.refl g w))
 | region is live =>
   intro c hk Q g st a w ex st' kk hn hr h
   cases c <;> try (simp [chkCode] at hk; done)
   rename_i id os dr
   cases dr <;> simp [chkCode] at hk
   obtain ⟨e1,e2⟩ := chkOpers_get hk
   have hops : ∀ {ex1:Ex} {s1:St},evalOps G call lo is st = some (ex1,s1) → Goes G nt a.defers g w s1 ex1 Q → (Code.region id os false).wp P Q a w := fun hr1 h1 =>
     wp_region (ops_sound hc _ _ (by simpa using e1) (fun j i x hi hx => by
       have hj := (List.getElem?_eq_some_iff.1 hi).1
       have hx' : x = j := by
         obtain ⟨h2,h3⟩ := List.getElem?_eq_some_iff.1 hx; simp at h3; exact h3.symm
       subst hx'
       have hlt : x < os.size := by rw [e1] at hj; simpa using hj
       exact ⟨os[x],by simp [hlt],e2 x i os[x] hi (by simp [hlt])⟩) kk hn hr1 h1)
   simp only [evalC] at hr
   split at hr
   · rename_i s1 he
     split at hr
     · rename_i hko; cases hr
       exact hops he fun g' a' w' h1 h2 h3 h4 => h g' a' w' h1 h2 (h3.keep hko) h4
     · cases hr
   · exact hops hr h
 | draw is ord pans live =>
   intro c hk Q g st a w ex st' kk hn hr h
   cases c <;> try (simp [chkCode] at hk; done)
   rename_i id os dr
   cases dr <;> simp [chkCode] at hk
   simp only [evalC] at hr
   split at hr
   · rename_i s1 he
     split at hr
     · rename_i hko; cases hr
       exact draw_sound hm hc hq hk.1 hk.2 kk hn he (fun g' a' w' h1 h2 h3 h4 => h g' a' w' h1 h2 (h3.keep hko) h4) id
     · cases hr
   · rename_i e1 s1 hne he
     cases hr
     refine draw_sound hm hc hq hk.1 hk.2 kk hn he ?_ id
     cases ex with
     | normal => exact (hne rfl).elim
     | exit i => exact h
     | ret => exact h
     | pan v => exact h
   · cases hr
 | seq x y ihx ihy =>
   intro c hk Q g st a w ex st' kk hn hr h
   cases c <;> simp [chkCode] at hk
   simp only [evalC] at hr
   split at hr
   · rename_i s1 he
     refine wp_seq (ihx hk.1 kk hn he fun g' a' w' h1 h2 h3 h4 => ?_)
     exact ihy hk.2 h3 h1 hr (by rw [h2]; exact h.after h4)
   · rename_i hne
     refine wp_seq (ihx hk.1 kk hn hr (h.mono fun g' a' w' h5 => ?_))
     cases ex with
     | normal => exact absurd hr (by simpa using hne st')
     | exit i => exact h5
     | ret => exact h5
     | pan v => exact h5
 | cond x y z ihy ihz =>
   intro c hk Q g st a w ex st' kk hn hr h
   cases c <;> simp [chkCode] at hk
   simp only [evalC] at hr
   split at hr
   · rename_i t ht
     have hrd := kk.read hk.1.1
     rw [ht] at hrd; simp only [VX,V] at hrd
     refine wp_cond_split (t := t) (by rw [Act.eval_eq]; exact hrd) (fun e => ?_) (fun e => ?_)
     · subst e; simp only [if_true] at hr; exact ihy hk.1.2 kk hn hr h
     · subst e; simp only [Bool.false_eq_true,if_false] at hr; exact ihz hk.2 kk hn hr h
   · cases hr
 | block i x ih =>
   intro c hk Q g st a w ex st' kk hn hr h
   cases c <;> simp [chkCode] at hk
   obtain ⟨rfl,hk⟩ := hk
   simp only [evalC] at hr
   split at hr
   · rename_i j s1 he
     split at hr
     · rename_i hj; subst hj; cases hr
       exact wp_block (ih hk kk hn he fun g' a' w' h1 h2 h3 h4 => by
         show Exit.inBlock j Q (.exit j) a' w'
         simp only [Exit.inBlock,if_true]; exact h g' a' w' h1 h2 h3 h4)
     · rename_i hj; cases hr
       exact wp_block (ih hk kk hn he fun g' a' w' h1 h2 h3 h4 => by
         show Exit.inBlock i Q (.exit j) a' w'
         simp only [Exit.inBlock,if_neg hj]; exact h g' a' w' h1 h2 h3 h4)
   · rename_i hne
     refine wp_block (ih hk kk hn hr (h.mono fun g' a' w' h5 => ?_))
     cases ex with
     | normal => exact h5
     | exit j => exact absurd hr (by simpa using hne j st')
     | ret => exact h5
     | pan v => exact h5
 | loop x ih =>
   intro c hk Q g st a w ex st' kk hn hr h
   cases c <;> simp [chkCode] at hk
   simp only [evalC] at hr
   exact wp_loop_rounds k (hl nt x _ hk Q g st a w ex st' kk hn hr h)
end
end Go.Proofs.YtkofimhnehkdoaaGreatDoor.Rf
end
