/- A part of the proof: see the last text. -/
import Derived.Test.YtkofimhnehkdoaaGreatDoorRqG20
import Derived.Test.YtkofimhnehkdoaaGreatDoorRqG17
set_option linter.unusedVariables false
set_option linter.unusedSimpArgs false
section
namespace Go.Proofs.YtkofimhnehkdoaaGreatDoor.Rf
def notE (t:T) : Bool := decide (0 ≤ t.width) && (decide (t.width ≤ 64) && (decide ((t.args.length : Int) = arE t.op) && (if t.op = 1 ∨ t.op = 24 ∨ t.op = 25 then nameOk t.name && decide (t.val = 0) else if t.op = 2 ∨ t.op = 21 then decide (t.name = []) else decide (t.name = []) && decide (t.val = 0))))
theorem notE_mk (op w v:Int) (n:List UInt8) (o:Bool) (as:List T) : notE (.mk op w v n o as) = (decide (0 ≤ w) && (decide (w ≤ 64) && (decide ((as.length : Int) = arE op) && (if op = 1 ∨ op = 24 ∨ op = 25 then nameOk n && decide (v = 0) else if op = 2 ∨ op = 21 then decide (n = []) else decide (n = []) && decide (v = 0))))) := rfl
def decI (n:Int) : List UInt8 := dec n.toNat
def aS (a:List UInt8) : S := .mk a true []
def headW (op w v:Int) : List S := aS (nameE op) :: ((if op = 21 then [aS (decI v)] else []) ++ (if op = 21 ∨ op = 22 ∨ op = 23 then [aS (decI w)] else []))
mutual
def writeT : T → S
 | .mk op w v n o as => if notE (.mk op w v n o as) = false then aS [63] else
   if op = 1 then aS (n ++ 58 :: decI w) else
   if op = 24 then aS (63 :: (n ++ 58 :: decI w)) else
   if op = 25 then aS (35 :: (n ++ 58 :: decI w)) else
   if op = 2 then aS (decI v ++ 58 :: decI w) else
   .mk [] false (headW op w v ++ writeTs as)
def writeTs : List T → List S
 | [] => []
 | t :: r => writeT t :: writeTs r
end
mutual
def T.valid : T → Bool
 | .mk op w v n o as => T.valids as && (notE (.mk op w v n o as) && (decide ((widE op w v (as.map T.width)).2 = 0) && decide ((widE op w v (as.map T.width)).1 = w)))
def T.valids : List T → Bool
 | [] => true
 | t :: r => t.valid && T.valids r
end
mutual
def T.norm : T → T
 | .mk op w v n o as => .mk op w v n as.isEmpty (T.norms as)
def T.norms : List T → List T
 | [] => []
 | t :: r => t.norm :: T.norms r
end
theorem writeTs_len : ∀ as : List T,(writeTs as).length = as.length
 | [] => rfl
 | t :: r => by simp [writeTs,writeTs_len r]
theorem T.norms_len : ∀ as : List T,(T.norms as).length = as.length
 | [] => rfl
 | t :: r => by simp [T.norms,T.norms_len r]
theorem T.norms_isEmpty (as:List T) : (T.norms as).isEmpty = as.isEmpty := by cases as <;> rfl
theorem T.norm_width (t:T) : t.norm.width = t.width := by cases t; rfl
theorem T.norms_width : ∀ as : List T,(T.norms as).map T.width = as.map T.width
 | [] => rfl
 | t :: r => by simp [T.norms,T.norms_width r,T.norm_width t]
mutual
theorem T.norm_same : ∀ t : T,t.norm.same t = true
 | .mk op w v n o as => by simp [T.norm,T.same,T.norms_same as]
theorem T.norms_same : ∀ as : List T,T.sames (T.norms as) as = true
 | [] => rfl
 | t :: r => by simp [T.norms,T.sames,T.norm_same t,T.norms_same r]
end
theorem idxB_app : ∀ (n r:List UInt8) (c:UInt8),c ∉ n → idxB (n ++ c :: r) c = n.length
 | [],r,c,_ => by simp [idxB]
 | b :: n,r,c,h => by
   have ih := idxB_app n r c (fun hm => h (by simp [hm]))
   have hb : ¬ b = c := fun e => h (by simp [e])
   have h1 : ¬ (n.length : Int) = -1 := by omega
   simp [idxB,hb,ih,h1]
theorem cutB_app (n r:List UInt8) (c:UInt8) (h:c ∉ n) : cutB (n ++ c :: r) c = (n,r,true) := by
 unfold cutB; rw [idxB_app n r c h,if_pos (by omega)]; simp
theorem nameOk_mem {n:List UInt8} (h:nameOk n = true) : n ≠ [] ∧ n.length ≤ 16 ∧ 97 ≤ bt n 0 ∧ bt n 0 ≤ 122 ∧ ∀ c,c ∈ n → nameC (c.toNat : Int) = true := by
 simp only [nameOk,lowC,Bool.and_eq_true,decide_eq_true_eq,List.all_eq_true] at h
 obtain ⟨h1,h2,⟨h3,h4⟩,h5⟩ := h
 exact ⟨fun e => by subst e; simp at h1,h2,h3,h4,h5⟩
theorem nameOk_colon {n:List UInt8} (h:nameOk n = true) : (58:UInt8) ∉ n := fun hm => by
 have := (nameOk_mem h).2.2.2.2 58 hm
 revert this; decide
theorem decI_digs (n:Int) : ∀ c,c ∈ decI n → isDig c = true := dec_digs _
theorem decI_colon (n:Int) : (58:UInt8) ∉ decI n := fun hm => by
 have := decI_digs n 58 hm
 revert this; decide
theorem numE_decI {w:Int} (h0:0 ≤ w) (h1:w < 18446744073709551616) : numE (decI w) = (w,0) := by
 have h := numE_dec (n := w.toNat) (by omega)
 unfold decI; rw [h]
 have : ((w.toNat : Nat) : Int) = w := Int.toNat_of_nonneg h0
 rw [this]
theorem leaf_name {l n:List UInt8} {w:Int} (h0:0 ≤ w) (h1:w ≤ 64) (hc:(58:UInt8) ∉ l) (hn:leafNm l = n) (hk:nameOk n = true) (hd:¬ (48 ≤ bt (l ++ 58 :: decI w) 0 ∧ bt (l ++ 58 :: decI w) 0 ≤ 57)) :
   leafR (l ++ 58 :: decI w) = .ok (.mk (leafOp l) w 0 n true []) := by
 unfold leafR
 rw [cutB_app _ _ _ hc]
 simp only [numE_decI h0 (show w < 18446744073709551616 by omega)]
 rw [if_neg (by simp),if_neg hd,hn,hk,if_neg (by simp),if_neg (by simp; omega)]
theorem leaf_const {v w:Int} (h0:0 ≤ w) (h1:w ≤ 64) (g0:0 ≤ v) (g1:v < 18446744073709551616) (hw:(widE 2 w v []).2 = 0) : leafR (decI v ++ 58 :: decI w) = .ok (.mk 2 w v [] true []) := by
 unfold leafR
 rw [cutB_app _ _ _ (decI_colon v)]
 simp only [numE_decI h0 (show w < 18446744073709551616 by omega)]
 have hd : 48 ≤ bt (decI v ++ 58 :: decI w) 0 ∧ bt (decI v ++ 58 :: decI w) 0 ≤ 57 := by
   cases hh : decI v with
   | nil => exact absurd hh (dec_ne _)
   | cons c r =>
     have := decI_digs v c (by rw [hh]; simp)
     simp only [isDig,Bool.and_eq_true,decide_eq_true_eq] at this
     have e : bt (c :: r ++ 58 :: decI w) 0 = (c.toNat : Int) := rfl
     rw [e]; omega
 rw [if_neg (by simp),if_pos hd]
 unfold constR
 simp only [numE_decI g0 g1]
 rw [if_neg (by simp),if_neg (by simp; omega),if_neg (by simp [hw])]
theorem ofE_name {op:Int} (h:opOk op = true) : ofE (nameE op) = (op,true) := by
 rcases opOk_cases h with rfl | rfl | rfl | rfl | rfl | rfl | rfl | rfl | rfl | rfl | rfl | rfl | rfl | rfl | rfl | rfl | rfl | rfl | rfl | rfl | rfl | rfl | rfl | rfl | rfl | rfl
 all_goals decide +kernel
theorem arE_ok {op:Int} (h:arE op ≠ -1) : opOk op = true := by
 cases h2 : opOk op with
 | true => rfl
 | false => exact absurd (by simp [arE,h2]) h
theorem arE_ne {op:Int} (h:opOk op = true) (h1:op ≠ 1) (h2:op ≠ 2) (h3:op ≠ 24) (h4:op ≠ 25) : arE op ≠ 0 := by
 unfold arE
 rw [if_neg (by simp [h]),if_neg (by omega)]
 split
 · omega
 · split <;> omega
theorem widE_any {op:Int} (w v w' v' : Int) (as:List Int) (h1:op ≠ 1) (h2:op ≠ 2) (h3:op ≠ 24) (h4:op ≠ 25) (h5:op ≠ 21) (h6:op ≠ 22) (h7:op ≠ 23) : widE op w v as = widE op w' v' as := by
 unfold widE
 simp [h1,h2,h3,h4,h5,h6,h7]
theorem bt_cons (c:UInt8) (r:List UInt8) : bt (c :: r) 0 = (c.toNat : Int) := rfl
theorem bt_app {n r:List UInt8} (h:n ≠ []) : bt (n ++ r) 0 = bt n 0 := by
 cases n with
 | nil => exact absurd rfl h
 | cons c n => rfl
theorem numR_decI {v m:Int} (h0:0 ≤ v) (h1:v ≤ m) (h2:v < 18446744073709551616) : numR (decI v) m = (v,0) := by
 unfold numR; rw [numE_decI h0 h2]; simp; omega
mutual
theorem read_write : ∀ t : T,t.wf → t.valid = true → readS (writeT t) = .ok t.norm
 | .mk op w v n o as,hw,hv => by
   simp only [T.wf] at hw
   obtain ⟨_,_,w3,_,_,_,w7⟩ := hw
   have wv : 0 ≤ v ∧ v < 18446744073709551616 := by simp [Lit.wf,IntKind.min,IntKind.max,IntKind.signed,IntKind.bits] at w3; omega
   simp only [T.valid,Bool.and_eq_true,decide_eq_true_eq] at hv
   obtain ⟨v1,v2,v3,v4⟩ := hv
   have ih := reads_writes as w7 v1
   have hN := v2
   rw [notE_mk] at hN
   simp only [Bool.and_eq_true,decide_eq_true_eq] at hN
   obtain ⟨n0,n1,n2,n3⟩ := hN
   have hop : opOk op = true := arE_ok (by omega)
   rw [writeT,if_neg (by rw [v2]; simp)]
   have leaf0 : arE op = 0 → as = [] := fun h => List.length_eq_zero_iff.1 (by omega)
   by_cases h1 : op = 1
   · subst h1
     obtain rfl := leaf0 rfl
     simp only [true_or,if_true,Bool.and_eq_true,decide_eq_true_eq] at n3
     obtain ⟨m1,m2⟩ := n3
     have hm := nameOk_mem m1
     have hb : bt (n ++ 58 :: decI w) 0 = bt n 0 := bt_app hm.1
     have e1 : leafNm n = n := by unfold leafNm; rw [if_neg (by omega)]
     have e2 : leafOp n = 1 := by unfold leafOp; rw [if_neg (by omega),if_neg (by omega)]
     rw [if_pos rfl,aS,readS,if_pos (by simp),leaf_name n0 n1 (nameOk_colon m1) e1 m1 (by rw [hb]; omega),e2,m2]
     rfl
   rw [if_neg h1]
   by_cases h2 : op = 24
   · subst h2
     obtain rfl := leaf0 rfl
     have n3' : (nameOk n && decide (v = 0)) = true := n3
     simp only [Bool.and_eq_true,decide_eq_true_eq] at n3'
     obtain ⟨m1,m2⟩ := n3'
     have hm := nameOk_mem m1
     rw [if_pos rfl,aS,readS,if_pos (by simp)]
     have hc : (58:UInt8) ∉ (63:UInt8) :: n := by
       intro h; rcases List.mem_cons.1 h with h | h
       · revert h; decide
       · exact nameOk_colon m1 h
     have := leaf_name (l := 63 :: n) n0 n1 hc (by rfl) m1 (by rw [List.cons_append,bt_cons]; decide)
     rw [List.cons_append] at this
     rw [this,m2]; rfl
   rw [if_neg h2]
   by_cases h3 : op = 25
   · subst h3
     obtain rfl := leaf0 rfl
     have n3' : (nameOk n && decide (v = 0)) = true := n3
     simp only [Bool.and_eq_true,decide_eq_true_eq] at n3'
     obtain ⟨m1,m2⟩ := n3'
     have hm := nameOk_mem m1
     rw [if_pos rfl,aS,readS,if_pos (by simp)]
     have hc : (58:UInt8) ∉ (35:UInt8) :: n := by
       intro h; rcases List.mem_cons.1 h with h | h
       · revert h; decide
       · exact nameOk_colon m1 h
     have := leaf_name (l := 35 :: n) n0 n1 hc (by rfl) m1 (by rw [List.cons_append,bt_cons]; decide)
     rw [List.cons_append] at this
     rw [this,m2]; rfl
   rw [if_neg h3]
   by_cases h4 : op = 2
   · subst h4
     obtain rfl := leaf0 rfl
     have n3' : decide (n = []) = true := n3
     simp only [decide_eq_true_eq] at n3'
     subst n3'
     rw [if_pos rfl,aS,readS,if_pos (by simp),leaf_const n0 n1 wv.1 wv.2 v3]
     rfl
   rw [if_neg h4]
   have hne := arE_ne hop h1 h4 h2 h3
   have hof := ofE_name hop
   rw [readS,if_neg (by simp)]
   by_cases h5 : op = 21
   · subst h5
     have n3' : decide (n = []) = true := n3
     simp only [decide_eq_true_eq] at n3'
     subst n3'
     have hL : headW 21 w v ++ writeTs as = aS (nameE 21) :: aS (decI v) :: aS (decI w) :: writeTs as := rfl
     rw [hL]
     have g0 : ((aS (nameE 21) :: aS (decI v) :: aS (decI w) :: writeTs as).getD 0 S.z).atom = nameE 21 := rfl
     have g1 : ((aS (nameE 21) :: aS (decI v) :: aS (decI w) :: writeTs as).getD 1 S.z).atom = decI v := rfl
     have g2 : ((aS (nameE 21) :: aS (decI v) :: aS (decI w) :: writeTs as).getD 2 S.z).atom = decI w := rfl
     have hR : headR (aS (nameE 21) :: aS (decI v) :: aS (decI w) :: writeTs as) = true := by
       unfold headR; rw [g0,hof]
       have e0 : (numsN 21:Int) = 2 := rfl
       simp [hne,writeTs_len,e0]; omega
     have hn : numsR 21 (aS (nameE 21) :: aS (decI v) :: aS (decI w) :: writeTs as) = (v,w,0) := by
       unfold numsR; rw [g1,g2,numR_decI wv.1 (by omega) wv.2,numR_decI n0 n1 (by omega)]; simp
     have hs : readsS (aS (nameE 21) :: aS (decI v) :: aS (decI w) :: writeTs as) (1 + numsN 21) = readsS (writeTs as) 0 := by
       show readsS _ 3 = _
       simp only [readsS]
     rw [if_neg (by rw [hR]; simp),g0,hof]
     simp only [hn,hs,ih]
     rw [if_neg (by simp)]
     simp only [nodeR,T.norms_width,v3,v4,T.norms_isEmpty]
     rw [if_neg (by simp)]; rfl
   · have n3' : (decide (n = []) && decide (v = 0)) = true := by
       rw [if_neg (by omega),if_neg (by omega)] at n3; exact n3
     simp only [Bool.and_eq_true,decide_eq_true_eq] at n3'
     obtain ⟨rfl,rfl⟩ := n3'
     by_cases h6 : op = 22 ∨ op = 23
     · have hL : headW op w 0 ++ writeTs as = aS (nameE op) :: aS (decI w) :: writeTs as := by simp [headW,h5,h6]
       rw [hL]
       have g0 : ((aS (nameE op) :: aS (decI w) :: writeTs as).getD 0 S.z).atom = nameE op := rfl
       have g1 : ((aS (nameE op) :: aS (decI w) :: writeTs as).getD 1 S.z).atom = decI w := rfl
       have hN : numsN op = 1 := by simp [numsN,h5,h6]
       have hR : headR (aS (nameE op) :: aS (decI w) :: writeTs as) = true := by
         unfold headR; rw [g0,hof]
         simp [hne,writeTs_len,hN]; omega
       have hn : numsR op (aS (nameE op) :: aS (decI w) :: writeTs as) = (0,w,0) := by
         unfold numsR; rw [if_neg h5,if_pos h6,g1,numR_decI n0 n1 (by omega)]; simp
       have hs : readsS (aS (nameE op) :: aS (decI w) :: writeTs as) (1 + numsN op) = readsS (writeTs as) 0 := by
         rw [hN]; show readsS _ 2 = _
         simp only [readsS]
       rw [if_neg (by rw [hR]; simp),g0,hof]
       simp only [hn,hs,ih]
       rw [if_neg (by simp)]
       simp only [nodeR,T.norms_width,v3,v4,T.norms_isEmpty]
       rw [if_neg (by simp)]; rfl
     · have hL : headW op w 0 ++ writeTs as = aS (nameE op) :: writeTs as := by simp [headW,h5,h6]
       rw [hL]
       have g0 : ((aS (nameE op) :: writeTs as).getD 0 S.z).atom = nameE op := rfl
       have hN : numsN op = 0 := by simp [numsN,h5,h6]
       have hR : headR (aS (nameE op) :: writeTs as) = true := by
         unfold headR; rw [g0,hof]
         simp [hne,writeTs_len,hN]; omega
       have hn : numsR op (aS (nameE op) :: writeTs as) = (0,0,0) := by
         unfold numsR; rw [if_neg h5,if_neg h6]
       have hs : readsS (aS (nameE op) :: writeTs as) (1 + numsN op) = readsS (writeTs as) 0 := by
         rw [hN]; show readsS _ 1 = _
         simp only [readsS]
       rw [if_neg (by rw [hR]; simp),g0,hof]
       simp only [hn,hs,ih]
       rw [if_neg (by simp)]
       have hx := widE_any 0 0 w 0 (as.map T.width) h1 h4 h2 h3 h5 (fun e => h6 (.inl e)) (fun e => h6 (.inr e))
       simp only [nodeR,T.norms_width,hx,v3,v4,T.norms_isEmpty]
       rw [if_neg (by simp)]; rfl
theorem reads_writes : ∀ as : List T,T.wfs as → T.valids as = true → readsS (writeTs as) 0 = .ok (T.norms as)
 | [],_,_ => rfl
 | t :: r,hw,hv => by
   simp only [T.wfs] at hw
   simp only [T.valids,Bool.and_eq_true] at hv
   simp only [writeTs,readsS,read_write t hw.1 hv.1,reads_writes r hw.2 hv.2,TRs.cons,T.norms]
end
end Go.Proofs.YtkofimhnehkdoaaGreatDoor.Rf
end
section
namespace Go.Proofs.YtkofimhnehkdoaaGreatDoor.Rf
theorem insE_all {as:List Int} (h:¬ as.all insE = false) (i:Nat) : 0 ≤ as.getD i 0 ∧ as.getD i 0 ≤ 64 := by
 have h : as.all insE = true := by cases hh : as.all insE <;> simp_all
 by_cases hi : i < as.length
 · have e : as.getD i 0 = as[i] := by simp [List.getD,hi]
   have := List.all_eq_true.1 h as[i] (List.getElem_mem hi)
   simp only [insE,Bool.and_eq_true,decide_eq_true_eq] at this
   rw [e]; exact this
 · have e : as.getD i 0 = 0 := by simp [List.getD,hi]
   rw [e]; omega
theorem widE_idem {op w v:Int} {as:List Int} (h:(widE op w v as).2 = 0) : opOk op = true ∧ (as.length : Int) = arE op ∧ 0 ≤ (widE op w v as).1 ∧ (widE op w v as).1 ≤ 64 ∧ widE op (widE op w v as).1 v as = ((widE op w v as).1,0) := by
 by_cases c1 : opOk op = false ∨ (as.length : Int) ≠ arE op
 · unfold widE at h; rw [if_pos c1] at h; simp at h
 by_cases c2 : as.all insE = false
 · unfold widE at h; rw [if_neg c1,if_pos c2] at h; simp at h
 have hop : opOk op = true := by cases hh : opOk op <;> simp_all
 have hlen : (as.length : Int) = arE op := by
   by_cases e : (as.length : Int) = arE op
   · exact e
   · exact absurd (.inr e) c1
 refine ⟨hop,hlen,?_⟩
 have g := insE_all c2
 have g0 := g 0
 have g1 := g 1
 unfold widE at h ⊢
 simp only [if_neg c1,if_neg c2] at h ⊢
 by_cases k1 : op = 1 ∨ op = 2 ∨ op = 24 ∨ op = 25
 · simp only [if_pos k1] at h ⊢
   unfold leafE at h ⊢
   by_cases k : insE w = false ∨ (op = 2 ∧ 0 < w ∧ 2 ^ w.toNat ≤ v)
   · rw [if_pos k] at h; simp at h
   · simp only [if_neg k]
     have : insE w = true := by cases hh : insE w <;> simp_all
     simp only [insE,Bool.and_eq_true,decide_eq_true_eq] at this
     exact ⟨this.1,this.2,trivial⟩
 simp only [if_neg k1] at h ⊢
 by_cases k2 : op = 3 ∨ op = 4 ∨ op = 26
 · simp only [if_pos k2]; exact ⟨g0.1,g0.2,trivial⟩
 simp only [if_neg k2] at h ⊢
 by_cases k3 : op = 21 ∨ op = 22 ∨ op = 23
 · simp only [if_pos k3] at h ⊢
   unfold resE at h ⊢
   by_cases k : w < 1 ∨ 64 < w ∨ as.getD 0 0 < 1
   · rw [if_pos k] at h; simp at h
   · simp only [if_neg k] at h ⊢
     by_cases k' : (op ≠ 21 ∧ w < as.getD 0 0) ∨ (op = 21 ∧ (as.getD 0 0 < w ∨ as.getD 0 0 - w < v))
     · rw [if_pos k'] at h; simp at h
     · simp only [if_neg k']
       rw [if_neg k]
       exact ⟨by omega,by omega,rfl⟩
 simp only [if_neg k3] at h ⊢
 by_cases k4 : op = 19
 · simp only [if_pos k4] at h ⊢
   by_cases k : as.getD 0 0 = 1 ∧ as.getD 1 0 = as.getD 2 0
   · simp only [if_pos k]; exact ⟨g1.1,g1.2,trivial⟩
   · rw [if_neg k] at h; simp at h
 simp only [if_neg k4] at h ⊢
 by_cases k5 : op = 20
 · simp only [if_pos k5] at h ⊢
   by_cases k : 1 ≤ as.getD 0 0 ∧ 1 ≤ as.getD 1 0 ∧ as.getD 0 0 + as.getD 1 0 ≤ 64
   · simp only [if_pos k]; exact ⟨by omega,by omega,trivial⟩
   · rw [if_neg k] at h; simp at h
 simp only [if_neg k5] at h ⊢
 by_cases k6 : op = 16 ∨ op = 17 ∨ op = 18
 · simp only [if_pos k6] at h ⊢
   by_cases k : as.getD 0 0 = as.getD 1 0
   · simp only [if_pos k]; exact ⟨by omega,by omega,trivial⟩
   · rw [if_neg k] at h; simp at h
 simp only [if_neg k6] at h ⊢
 by_cases k : as.getD 0 0 = as.getD 1 0
 · simp only [if_pos k]; exact ⟨g0.1,g0.2,trivial⟩
 · rw [if_neg k] at h; simp at h
theorem i64_wf {n:Int} (h0:0 ≤ n) (h1:n ≤ 1000) : (Lit.int .i64 n).wf = true := by simp [Lit.wf,IntKind.min,IntKind.max,IntKind.signed,IntKind.bits]; omega
theorem u64_wf {n:Int} (h0:0 ≤ n) (h1:n < 18446744073709551616) : (Lit.int .u64 n).wf = true := by simp [Lit.wf,IntKind.min,IntKind.max,IntKind.signed,IntKind.bits]; omega
theorem constR_valid {l:List UInt8} {w e:Int} {t:T} (hw:0 ≤ w) (h:constR l w e = .ok t) : t.valid = true ∧ t.wf := by
 have hb := numE_bd l
 unfold constR at h
 split at h
 · cases h
 · split at h
   · cases h
   · rename_i k
     have k : e = 0 ∧ (numE l).2 = 0 ∧ w ≤ 64 := Decidable.not_not.1 k
     split at h
     · cases h
     · rename_i k2
       have k2 : (widE 2 w (numE l).1 []).2 = 0 := Decidable.not_not.1 k2
       cases h
       obtain ⟨i1,i2,i3,i4,i5⟩ := widE_idem k2
       have i6 : (widE 2 w (numE l).1 []).1 = w := by
         unfold widE at k2 ⊢
         rw [if_neg (by decide),if_neg (by decide),if_pos (by decide)] at k2 ⊢
         unfold leafE at k2 ⊢
         split at k2
         · simp at k2
         · rename_i k3; rw [if_neg k3]
       refine ⟨?_,?_⟩
       · simp only [T.valid,T.valids,List.map_nil,k2,i6]
         simp [notE_mk,hw,k.2.2]; rfl
       · simp only [T.wf,T.wfs]
         exact ⟨by decide,i64_wf hw (by omega),u64_wf hb.1 hb.2,by simp,by simp,by simp,trivial⟩
theorem leafOp_cases (l:List UInt8) : leafOp l = 1 ∨ leafOp l = 24 ∨ leafOp l = 25 := by
 unfold leafOp; split
 · simp
 · split <;> simp
theorem name_valid {op w:Int} {n:List UInt8} (h:op = 1 ∨ op = 24 ∨ op = 25) (h0:0 ≤ w) (h1:w ≤ 64) (hn:nameOk n = true) : (T.mk op w 0 n true []).valid = true ∧ (T.mk op w 0 n true []).wf := by
 have ins : insE w = true := by simp [insE,h0,h1]
 have hm := nameOk_mem hn
 refine ⟨?_,?_⟩
 · have hw : widE op w 0 [] = (w,0) := by
     have h2 : op ≠ 2 := by omega
     have h3 : op = 1 ∨ op = 2 ∨ op = 24 ∨ op = 25 := by omega
     have h4 : opOk op = true := by simp [opOk]; omega
     have h5 : arE op = 0 := by rcases h with rfl | rfl | rfl <;> rfl
     unfold widE
     rw [if_neg (by simp [h4,h5]),if_neg (by simp),if_pos h3]
     unfold leafE
     rw [if_neg (by simp [ins,h2])]
   have h5 : arE op = 0 := by rcases h with rfl | rfl | rfl <;> rfl
   simp only [T.valid,T.valids,List.map_nil,hw,notE_mk]
   rw [if_pos h]
   simp [h0,h1,hn,h5]
 · simp only [T.wf,T.wfs]
   exact ⟨i64_wf (by omega) (by omega),i64_wf h0 (by omega),by decide,by omega,by simp,by simp,trivial⟩
theorem leafR_valid {s:List UInt8} {t:T} (h:leafR s = .ok t) : t.valid = true ∧ t.wf := by
 unfold leafR at h
 have hb := numE_bd (cutB s 58).2.1
 split at h
 · cases h
 · split at h
   · exact constR_valid hb.1 h
   · split at h
     · cases h
     · rename_i k
       split at h
       · cases h
       · rename_i k2
         have k2 := Decidable.not_not.1 k2
         cases h
         exact name_valid (leafOp_cases _) hb.1 k2.2 (by simpa using k)
theorem nodeR_valid {op v w:Int} {ts:List T} {t:T} (h1:op ≠ 1) (h2:op ≠ 2) (h3:op ≠ 24) (h4:op ≠ 25) (hv0:op ≠ 21 → v = 0) (hvr:0 ≤ v ∧ v < 18446744073709551616) (hts:T.valids ts = true) (hwf:T.wfs ts) (h:nodeR op v w (.ok ts) = .ok t) : t.valid = true ∧ t.wf := by
 simp only [nodeR] at h
 split at h
 · cases h
 · rename_i k
   have k := Decidable.not_not.1 k
   cases h
   obtain ⟨i1,i2,i3,i4,i5⟩ := widE_idem k
   have i1' : 1 ≤ op ∧ op ≤ 26 := by simpa [opOk] using i1
   have i2' : (ts.length : Int) = arE op := by simpa using i2
   have i6 : arE op ≤ 3 := by
     unfold arE; split
     · omega
     · split
       · omega
       · split
         · omega
         · split <;> omega
   refine ⟨?_,?_⟩
   · simp only [T.valid,hts,i5,Bool.true_and]
     have : notE (.mk op (widE op w v (ts.map T.width)).1 v [] ts.isEmpty ts) = true := by
       rw [notE_mk]
       rw [if_neg (by omega)]
       by_cases h21 : op = 21
       · rw [if_pos (.inr h21)]; simp [i3,i4,i2']
       · rw [if_neg (by omega),hv0 h21]; rw [hv0 h21] at i3 i4; simp [i3,i4,i2']
     simp [this]
   · simp only [T.wf]
     exact ⟨i64_wf (by omega) (by omega),i64_wf i3 (by omega),u64_wf hvr.1 hvr.2,by simp,by omega,by simp,hwf⟩
theorem numsR_val (op:Int) (l:List S) : (op ≠ 21 → (numsR op l).1 = 0) ∧ 0 ≤ (numsR op l).1 ∧ (numsR op l).1 < 18446744073709551616 := by
 have hb := numR_bd (l.getD 1 S.z).atom 18446744073709551615 (by omega)
 unfold numsR
 by_cases h : op = 21
 · rw [if_pos h]
   refine ⟨fun e => absurd h e,?_⟩
   split
   · simp
   · split
     · simp
     · simp only; omega
 · rw [if_neg h]
   split
   · split <;> simp
   · simp
mutual
theorem readS_valid : ∀ (e:S) (t:T),readS e = .ok t → t.valid = true ∧ t.wf
 | .mk a o l,t,h => by
   rw [readS] at h
   split at h
   · exact leafR_valid h
   · split at h
     · cases h
     · rename_i hh
       split at h
       · cases h
       · cases hs : readsS l (1 + numsN (ofE (l.getD 0 S.z).atom).1) with
         | err e => rw [hs] at h; simp [nodeR] at h
         | ok ts =>
           rw [hs] at h
           have hv := readsS_valid l _ ts hs
           have hn := numsR_val (ofE (l.getD 0 S.z).atom).1 l
           have hR : headR l = true := by cases hx : headR l <;> simp_all
           simp only [headR,Bool.and_eq_true,Bool.not_eq_true',decide_eq_false_iff_not] at hR
           have ha := hR.2.2.1
           exact nodeR_valid (fun e => ha (by rw [e]; rfl)) (fun e => ha (by rw [e]; rfl)) (fun e => ha (by rw [e]; rfl)) (fun e => ha (by rw [e]; rfl)) hn.1 hn.2 hv.1 hv.2 h
theorem readsS_valid : ∀ (l:List S) (k:Nat) (ts:List T),readsS l k = .ok ts → T.valids ts = true ∧ T.wfs ts
 | [],k,ts,h => by simp [readsS] at h; subst h; exact ⟨rfl,trivial⟩
 | x :: r,k + 1,ts,h => by rw [readsS] at h; exact readsS_valid r k ts h
 | x :: r,0,ts,h => by
   rw [readsS] at h
   cases hx : readS x with
   | err e => rw [hx] at h; simp [TRs.cons] at h
   | ok t =>
     cases hr : readsS r 0 with
     | err e => rw [hx,hr] at h; simp [TRs.cons] at h
     | ok us =>
       rw [hx,hr] at h; simp [TRs.cons] at h; subst h
       have a := readS_valid x t hx
       have b := readsS_valid r 0 us hr
       exact ⟨by simp [T.valids,a.1,b.1],a.2,b.2⟩
end
theorem same_atoms : ∀ (l l' : List S),S.sames l l' = true → l.length = l'.length ∧ ∀ i,(l.getD i S.z).atom = (l'.getD i S.z).atom
 | [],[],_ => ⟨rfl,fun _ => rfl⟩
 | x :: r,y :: s,h => by
   simp only [S.sames,Bool.and_eq_true] at h
   obtain ⟨h1,h2⟩ := same_atoms r s h.2
   refine ⟨by simp [h1],fun i => ?_⟩
   cases i with
   | zero =>
     have := h.1
     rw [S.same_eq] at this
     simp only [Bool.and_eq_true,beq_iff_eq] at this
     simpa using this.1
   | succ i => simpa using h2 i
 | [],_ :: _,h => by simp [S.sames] at h
 | _ :: _,[],h => by simp [S.sames] at h
theorem headR_same {l l' : List S} (h:S.sames l l' = true) : headR l = headR l' := by
 obtain ⟨h1,h2⟩ := same_atoms l l' h
 unfold headR
 rw [h2 0,h1]
 have : decide (l ≠ []) = decide (l' ≠ []) := by
   cases l <;> cases l' <;> simp_all
 rw [this]
theorem numsR_same {l l' : List S} (h:S.sames l l' = true) (op:Int) : numsR op l = numsR op l' := by
 obtain ⟨h1,h2⟩ := same_atoms l l' h
 unfold numsR
 rw [h2 1,h2 2]
mutual
theorem readS_same : ∀ (x y:S),x.same y = true → readS x = readS y
 | .mk a o l,.mk a' o' l',h => by
   simp only [S.same,Bool.and_eq_true,beq_iff_eq] at h
   obtain ⟨rfl,h⟩ := h
   have e0 := (same_atoms l l' h).2 0
   rw [readS,readS,headR_same h,e0,numsR_same h,readsS_same l l' _ h]
theorem readsS_same : ∀ (l l' : List S) (k:Nat),S.sames l l' = true → readsS l k = readsS l' k
 | [],[],_,_ => rfl
 | x :: r,y :: s,k + 1,h => by
   simp only [S.sames,Bool.and_eq_true] at h
   rw [readsS,readsS]; exact readsS_same r s k h.2
 | x :: r,y :: s,0,h => by
   simp only [S.sames,Bool.and_eq_true] at h
   rw [readsS,readsS,readS_same x y h.1,readsS_same r s 0 h.2]
 | [],_ :: _,_,h => by simp [S.sames] at h
 | _ :: _,[],_,h => by simp [S.sames] at h
end
end Go.Proofs.YtkofimhnehkdoaaGreatDoor.Rf
end
section
namespace Go.Proofs.YtkofimhnehkdoaaGreatDoor.Rf
theorem tup_err (hp:List HObj) (c:Int) : (TR.err c).tup hp = .ret (.tup [.agg [.int .i64 0,.int .i64 0,.int .u64 0,.str [],.list [] .nil],.int .i64 c]) hp := rfl
theorem tup_ok (hp:List HObj) (t:T) : (TR.ok t).tup hp = .ret (.tup [t.av,.int .i64 0]) hp := rfl
theorem arE_ge {op:Int} (h:opOk op = true) : 0 ≤ arE op := by
 unfold arE; rw [if_neg (by simp [h])]; split
 · omega
 · split
   · omega
   · split <;> omega
theorem readsS_len : ∀ (l:List S) (k:Nat) (ts:List T),readsS l k = .ok ts → ts.length ≤ l.length
 | [],k,ts,h => by simp [readsS] at h; subst h; simp
 | x :: r,k + 1,ts,h => by rw [readsS] at h; have := readsS_len r k ts h; simp; omega
 | x :: r,0,ts,h => by
   rw [readsS] at h
   cases hx : readS x with
   | err e => rw [hx] at h; simp [TRs.cons] at h
   | ok t =>
     cases hr : readsS r 0 with
     | err e => rw [hx,hr] at h; simp [TRs.cons] at h
     | ok us =>
       rw [hx,hr] at h; simp [TRs.cons] at h; subst h
       have := readsS_len r 0 us hr
       simp; omega
section
variable {hp:List HObj} {lo:Nat} (q:Bool)
end
end Go.Proofs.YtkofimhnehkdoaaGreatDoor.Rf
end
section
namespace Go.Proofs.YtkofimhnehkdoaaGreatDoor.Rf
inductive SbR where
 | ok (l:List Sb) | err (e:Int)
def subsS : List S → SbR
 | [] => .ok []
 | x :: r => match readS (x.list.getD 1 zS) with
   | .err e => .err e
   | .ok t => match subsS r with
     | .err e => .err e
     | .ok l => .ok (⟨(x.list.getD 0 zS).atom,t⟩ :: l)
inductive StR where
 | ok (s:St7) | err (e:Int)
def ownSb (acc:List Sb) : Own := if acc.isEmpty then .nil else .own 6 0
@[simp] theorem ownSb_cp (acc:List Sb) : (ownSb acc).cp = ownB acc.isEmpty := by cases acc <;> rfl
@[simp] theorem ownSb_app (acc:List Sb) (x:Sb) : ownSb (acc ++ [x]) = .own 6 0 := by cases acc <;> rfl
@[simp] theorem sbs_nil : sbs [] = [] := rfl
@[simp] theorem okSize_sbs (l:List Sb) : okSize 6 (sbs l) = true := by cases l <;> simp [sbs,Sb.av_eq]
abbrev boxZ14 : AV := .box [.int .i64 0,.list [] .nil,.int .i64 0,.list [] .nil,.int .i64 0,.int .i64 0,.int .u64 0,.str [],.list [] .nil,.int .i64 0,.int .i64 0,.int .u64 0,.str [],.list [] .nil]
theorem pairB_two {x:S} (h:pairB x = true) : ∃ n u,x.list = [n,u] := by
 simp only [pairB,Bool.and_eq_true,decide_eq_true_eq] at h
 match hl : x.list,h.1 with
 | [n,u],_ => exact ⟨n,u,rfl⟩
theorem S.sm_of_fit (t:S) : t.fit → t.sm := by
 induction t using S.ind with | h t ih =>
 intro h
 have := (S.fit_eq t).1 h
 rw [S.sm_eq]
 exact ⟨by omega,fun u hu => ih u hu (this.2.2.2 u hu)⟩
section
variable {hp:List HObj} {lo:Nat}
end
end Go.Proofs.YtkofimhnehkdoaaGreatDoor.Rf
end
section
namespace Go.Proofs.YtkofimhnehkdoaaGreatDoor.Rf
mutual
theorem T.av_closed (n:Nat) : ∀ t : T,AV.closed n t.av = true
 | .mk a b c d o l => by simp [T.av,AV.closed,AV.closedL,T.avs_closed n l]
theorem T.avs_closed (n:Nat) : ∀ l : List T,AV.closedL n (T.avs l) = true
 | [] => rfl
 | t :: r => by simp [T.avs,AV.closedL,T.av_closed n t,T.avs_closed n r]
end
end Go.Proofs.YtkofimhnehkdoaaGreatDoor.Rf
end
section
namespace Go.Proofs.YtkofimhnehkdoaaGreatDoor.Rf
def stepR (e:S) : StR :=
 if shapeB e = false then .err 6 else
 if lineK e.list = 5 then (match subsS (e.list.getD 3 zS).list with | .err c => .err c | .ok sb => .ok ⟨(shapeS e).kind,(shapeS e).ro,(shapeS e).refs,(shapeS e).rule,sb.isEmpty,sb,T.z,T.z⟩) else
 if lineK e.list = 1 ∨ lineK e.list = 6 ∨ lineK e.list = 7 ∨ lineK e.list = 8 then (match readS (e.list.getD 2 zS) with | .err c => .err c | .ok t => .ok ⟨(shapeS e).kind,(shapeS e).ro,(shapeS e).refs,(shapeS e).rule,true,[],t,T.z⟩) else
 if lineK e.list = 4 then (match readS (e.list.getD 2 zS) with | .err c => .err c | .ok t => (match readS (e.list.getD 3 zS) with | .err c => .err c | .ok u => .ok ⟨(shapeS e).kind,(shapeS e).ro,(shapeS e).refs,(shapeS e).rule,true,[],t,u⟩)) else
 .ok (shapeS e)
def St7.z : St7 := ⟨0,true,[],0,true,[],T.z,T.z⟩
def StR.tup (hp:List HObj) : StR → COut
 | .ok s => .ret (.tup [s.av,.int .i64 0]) hp
 | .err c => .ret (.tup [St7.z.av,.int .i64 c]) hp
theorem stz_av : St7.z.av = .agg [.int .i64 0,.list [] .nil,.int .i64 0,.list [] .nil,.int .i64 0,.int .i64 0,.int .u64 0,.str [],.list [] .nil,.int .i64 0,.int .i64 0,.int .u64 0,.str [],.list [] .nil] := rfl
theorem st_av (s:St7) : s.av = .agg s.cells := rfl
theorem sbs_closed (n:Nat) : ∀ l : List Sb,AV.closedL n (sbs l) = true
 | [] => rfl
 | x :: r => by have := sbs_closed n r; simp only [sbs] at this; simp [sbs,AV.closedL,AV.closed,this,Sb.av_eq,T.avs_closed]
section
variable {hp:List HObj} {lo:Nat}
end
end Go.Proofs.YtkofimhnehkdoaaGreatDoor.Rf
end
section
namespace Go.Proofs.YtkofimhnehkdoaaGreatDoor.Rf
def rfE (k:Int) : Int × Int := if k < 1 ∨ 12 < k then (-1,-1) else if k = 1 ∨ k = 6 ∨ k = 7 ∨ k = 12 then (0,0) else if k = 2 ∨ k = 11 then (1,1) else if k = 3 ∨ k = 9 ∨ k = 10 then (2,2) else if k = 4 ∨ k = 8 then (0,3) else (0,12)
def refB (i:Int) (x:Int) : Bool := decide (0 ≤ x) && decide (x < i)
def rightB (s:St7) (i:Int) : Bool := (if s.kind = 4 ∨ s.kind = 8 then decide (s.refs.length = s.a.args.length) && decide (s.refs.length ≤ 3) else
 decide (0 ≤ (rfE s.kind).1) && (decide ((rfE s.kind).1 ≤ s.refs.length) && decide ((s.refs.length : Int) ≤ (rfE s.kind).2))) && s.refs.all (refB i)
theorem all_range {α:Type} (l:List α) (d:α) (p:α → Bool) : ((List.range l.length).any fun i => !p (l.getD i d)) = !(l.all p) := by
 induction l with
 | nil => rfl
 | cons x r ih => rw [List.length_cons,List.range_succ_eq_map]; simp only [List.any_cons,List.any_map,Function.comp_def,List.all_cons]; simp only [List.getD_cons_zero,List.getD_cons_succ]; rw [ih]; cases p x <;> simp
section
variable {hp:List HObj} {lo:Nat}
theorem prefs_D (k:Int) (hp:List HObj) (lo:Nat) (q:Bool) : callD G0 IP n_proof_Refs [.int .i64 k] hp lo q = some (.ret (.tup [.int .i64 (rfE k).1,.int .i64 (rfE k).2]) hp) := by
 rw [callD_eq]
 by_cases h1 : k < 1
 · simp [IP_proof_Refs,i_proof_Refs,h1,rfE]
 · by_cases h2 : 12 < k
   · simp [IP_proof_Refs,i_proof_Refs,h1,h2,rfE]
   · rcases kind_cases (k := k) (by omega) with rfl | rfl | rfl | rfl | rfl | rfl | rfl | rfl | rfl | rfl | rfl | rfl
     all_goals simp [IP_proof_Refs,i_proof_Refs,rfE,G0_1,g_1]
theorem right_L (l:List Int) (hl:l.length ≤ 9223372036854775807) (o:Own) (i:Int) (hp:List HObj) (lo:Nat) : loopD G0 IP lo l_proof_right_0 ⟨[(1,.int .i64 i),(47,.list (i64s l) o),(48,.int .i64 l.length),(49,.int .i64 0)],hp⟩ =
   some (if l.all (refB i) then (.exit 0,⟨[(1,.int .i64 i),(47,.list (i64s l) o),(48,.int .i64 l.length),(49,.int .i64 l.length),(50,.bool false)],hp⟩) else (.ret,⟨[(4,.bool false)],hp⟩)) := by
 have hloop := loop_find (G := G0) (IP := IP) (lo := lo) (b := l_proof_right_0)
   (fun j => ⟨[(1,.int .i64 i),(47,.list (i64s l) o),(48,.int .i64 l.length),(49,.int .i64 j)],hp⟩) l.length (fun j => !refB i (l.getD j 0))
   (.ret,⟨[(4,.bool false)],hp⟩) (.exit 0,⟨[(1,.int .i64 i),(47,.list (i64s l) o),(48,.int .i64 l.length),(49,.int .i64 l.length),(50,.bool false)],hp⟩)
   (fun j hj hp1 => by
     have hI : (j:Int) < (l.length : Int) := by omega
     have hw : IntKind.wrap .i64 ((j:Int) + 1) = (j:Int) + 1 := wrap_small (by omega) (by omega)
     have hb : refB i l[j] = true := by simpa [hj] using hp1
     simp only [refB,Bool.and_eq_true,decide_eq_true_eq] at hb
     have c1 : ¬ l[j] < 0 := by omega
     have c2 : ¬ i ≤ l[j] := by omega
     simp [l_proof_right_0,hj,hI,c1,c2,hw])
   (fun j hj hp1 => by
     have hI : (j:Int) < (l.length : Int) := by omega
     have hb : refB i l[j] = false := by simpa [hj] using hp1
     by_cases c1 : l[j] < 0
     · simp [l_proof_right_0,hj,hI,c1]
     · have c2 : i ≤ l[j] := by
         simp only [refB,Bool.and_eq_false_iff,decide_eq_false_iff_not] at hb
         omega
       simp [l_proof_right_0,hj,hI,c1,c2])
   (fun s => by simp) (by simp [l_proof_right_0]) (fun s => by simp)
 rw [all_range l 0 (refB i)] at hloop
 simp only [Int.natCast_zero] at hloop
 rw [hloop]
 cases l.all (refB i) <;> simp
end
end Go.Proofs.YtkofimhnehkdoaaGreatDoor.Rf
end
section
namespace Go.Proofs.YtkofimhnehkdoaaGreatDoor.Rf
section
variable {hp:List HObj} {lo:Nat}
set_option maxHeartbeats 2000000 in
theorem right_D (s:St7) (hl:s.refs.length ≤ 9223372036854775807) (i:Int) (hp:List HObj) (lo:Nat) (q:Bool) : callD G0 IP n_proof_right [s.av,.int .i64 i] hp lo q = some (.ret (.bool (rightB s i)) hp) := by
 have e1 := fun hp lo q => prefs_D s.kind hp lo q
 have e2 := fun (o:Own) => right_L (lo := hp.length) s.refs hl o i hp
 rw [callD_eq,st_av,St7.cells]
 by_cases h48 : s.kind = 4 ∨ s.kind = 8
 · have hR : rightB s i = (decide (s.refs.length = s.a.args.length) && decide (s.refs.length ≤ 3) && s.refs.all (refB i)) := by
     unfold rightB; rw [if_pos h48]
   have hrf : rfE s.kind = (0,3) := by rcases h48 with h | h <;> rw [h] <;> rfl
   rw [hR]
   rw [hrf] at e1
   have hn : ¬ (s.a.args.length : Int) < 0 := by omega
   by_cases c1 : (s.refs.length : Int) < (s.a.args.length : Int)
   · have hx : ¬ s.refs.length = s.a.args.length := by omega
     rcases h48 with h | h <;> rw [h] at e1 <;> simp [IP_proof_right,i_proof_right,e1,h,hn,c1,hx]
   · by_cases c3 : (s.a.args.length : Int) < 3
     · by_cases c2 : (s.a.args.length : Int) < (s.refs.length : Int)
       · have hx : ¬ s.refs.length = s.a.args.length := by omega
         rcases h48 with h | h <;> rw [h] at e1 <;> simp [IP_proof_right,i_proof_right,e1,h,hn,c1,c2,c3,hx]
       · have hx : s.refs.length = s.a.args.length := by omega
         have hx3 : s.a.args.length ≤ 3 := by omega
         rw [show decide (s.refs.length = s.a.args.length) = true by simp [hx],show decide (s.refs.length ≤ 3) = true by rw [hx]; simp [hx3]]
         cases ha : s.refs.all (refB i) with
         | false =>
           rw [ha] at e2
           simp only [Bool.false_eq_true,if_false] at e2
           rcases h48 with h | h <;> rw [h] at e1 <;> simp [IP_proof_right,i_proof_right,e1,h,hn,c1,c2,c3,e2]
         | true =>
           rw [ha] at e2
           simp only [if_true] at e2
           rcases h48 with h | h <;> rw [h] at e1 <;> simp [IP_proof_right,i_proof_right,e1,h,hn,c1,c2,c3,e2]
     · by_cases c2 : (3:Int) < (s.refs.length : Int)
       · have hx : ¬ s.refs.length ≤ 3 := by omega
         rcases h48 with h | h <;> rw [h] at e1 <;> simp [IP_proof_right,i_proof_right,e1,h,hn,c1,c2,c3,hx]
       · have hx : s.refs.length = s.a.args.length := by omega
         have hx3 : s.a.args.length ≤ 3 := by omega
         rw [show decide (s.refs.length = s.a.args.length) = true by simp [hx],show decide (s.refs.length ≤ 3) = true by rw [hx]; simp [hx3]]
         cases ha : s.refs.all (refB i) with
         | false =>
           rw [ha] at e2
           simp only [Bool.false_eq_true,if_false] at e2
           rcases h48 with h | h <;> rw [h] at e1 <;> simp [IP_proof_right,i_proof_right,e1,h,hn,c1,c2,c3,e2]
         | true =>
           rw [ha] at e2
           simp only [if_true] at e2
           rcases h48 with h | h <;> rw [h] at e1 <;> simp [IP_proof_right,i_proof_right,e1,h,hn,c1,c2,c3,e2]
 · have n4 : ¬ s.kind = 4 := fun h => h48 (.inl h)
   have n8 : ¬ s.kind = 8 := fun h => h48 (.inr h)
   have hR : rightB s i = (decide (0 ≤ (rfE s.kind).1) && (decide ((rfE s.kind).1 ≤ s.refs.length) && decide ((s.refs.length : Int) ≤ (rfE s.kind).2)) && s.refs.all (refB i)) := by
     unfold rightB; rw [if_neg h48]
   rw [hR]
   generalize (rfE s.kind).1 = a at *
   generalize (rfE s.kind).2 = b at *
   by_cases c0 : a < 0
   · have hx : ¬ 0 ≤ a := by omega
     simp [IP_proof_right,i_proof_right,e1,n4,n8,c0,hx]
   · have hx : 0 ≤ a := by omega
     by_cases c1 : (s.refs.length : Int) < a
     · have hx1 : ¬ a ≤ (s.refs.length : Int) := by omega
       simp [IP_proof_right,i_proof_right,e1,n4,n8,c0,c1,hx,hx1]
     · have hx1 : a ≤ (s.refs.length : Int) := by omega
       by_cases c2 : b < (s.refs.length : Int)
       · have hx2 : ¬ (s.refs.length : Int) ≤ b := by omega
         simp [IP_proof_right,i_proof_right,e1,n4,n8,c0,c1,c2,hx,hx1,hx2]
       · have hx2 : (s.refs.length : Int) ≤ b := by omega
         cases ha : s.refs.all (refB i) with
         | false =>
           rw [ha] at e2
           simp only [Bool.false_eq_true,if_false] at e2
           simp [IP_proof_right,i_proof_right,e1,n4,n8,c0,c1,c2,hx,hx1,hx2,e2]
         | true =>
           rw [ha] at e2
           simp only [if_true] at e2
           simp [IP_proof_right,i_proof_right,e1,n4,n8,c0,c1,c2,hx,hx1,hx2,e2]
end
end Go.Proofs.YtkofimhnehkdoaaGreatDoor.Rf
end
section
namespace Go.Proofs.YtkofimhnehkdoaaGreatDoor.Rf
def checkE (l:List St7) : Int × Int := if 65536 < l.length then (0,7) else if l = [] then (0,8) else
 match (List.range l.length).find? (fun i => !rightB (l.getD i St7.z) (i:Int)) with | some i => ((i:Int),14) | none => (0,0)
section
variable {hp:List HObj} {lo:Nat}
set_option maxHeartbeats 2000000 in
theorem check_D (l:List St7) (hl:∀ s,s ∈ l → s.refs.length ≤ 9223372036854775807) (o:Bool) (hp:List HObj) (lo:Nat) (q:Bool) : callD G0 IP n_proof_Check [.list (St7.avs l) (ownB o)] hp lo q = some (.ret (.tup [.int .i64 (checkE l).1,.int .i64 (checkE l).2]) hp) := by
 rw [callD_eq]
 by_cases h1 : 65536 < l.length
 · have hI : (65536:Int) < (l.length : Int) := by omega
   simp [IP_proof_Check,i_proof_Check,hI,checkE,h1]
 by_cases h2 : l = []
 · subst h2
   simp [IP_proof_Check,i_proof_Check,checkE]
 have hI : ¬ (65536:Int) < (l.length : Int) := by omega
 have hl0 : ¬ l.length = 0 := by simpa using h2
 have hI0 : ¬ (l.length : Int) = 0 := by omega
 have hr := fun (s:St7) (hs:s ∈ l) (i:Int) (hp:List HObj) (lo:Nat) (q:Bool) => right_D s (hl s hs) i hp lo q
 have hloop := loop_some (G := G0) (IP := IP) (lo := hp.length) (b := l_proof_Check_0)
   (fun i => ⟨[(14,.list (St7.avs l) (ownB o)),(15,.int .i64 l.length),(16,.int .i64 i)],hp⟩) l.length (fun i => !rightB (l.getD i St7.z) (i:Int)) (fun i => (.ret,⟨[(2,.int .i64 i),(3,.int .i64 14)],hp⟩))
   (.exit 1,⟨[(14,.list (St7.avs l) (ownB o)),(15,.int .i64 l.length),(16,.int .i64 l.length),(17,.bool false)],hp⟩)
   (fun i hi hp1 => by
     have e1 : (i:Int) < (l.length : Int) := by omega
     have e5 : IntKind.wrap .i64 ((i:Int) + 1) = (i:Int) + 1 := wrap_small (by omega) (by omega)
     have hb : rightB l[i] i = true := by simpa [hi] using hp1
     have hc := fun hp lo q => hr l[i] (List.getElem_mem hi) i hp lo q
     rw [hb,st_av,St7.cells] at hc
     simp [l_proof_Check_0,e1,e5,hi,st_av,hc])
   (fun i hi hp1 => by
     have e1 : (i:Int) < (l.length : Int) := by omega
     have hb : rightB l[i] i = false := by simpa [hi] using hp1
     have hc := fun hp lo q => hr l[i] (List.getElem_mem hi) i hp lo q
     rw [hb,st_av,St7.cells] at hc
     simp [l_proof_Check_0,e1,hi,st_av,hc])
   (fun i s => by simp) (by simp [l_proof_Check_0]) (by simp)
 simp only [Int.natCast_zero] at hloop
 rcases hloop with ⟨m,hm,hp1,hp2,hlp⟩ | ⟨hno,hlp⟩
 · have hf : (List.range l.length).find? (fun i => !rightB (l.getD i St7.z) (i:Int)) = some m := by
     rw [List.find?_range_eq_some]
     exact ⟨hp1,by simpa using hm,fun j hj => by simpa using hp2 j hj⟩
   have he : checkE l = ((m:Int),14) := by unfold checkE; rw [if_neg h1,if_neg h2,hf]
   rw [he]
   simp [IP_proof_Check,i_proof_Check,hlp,hI,hI0,h2]
 · have hf : (List.range l.length).find? (fun i => !rightB (l.getD i St7.z) (i:Int)) = none := by
     rw [List.find?_eq_none]
     intro i hi; simp at hi; have := hno i hi; simpa using this
   have he : checkE l = (0,0) := by unfold checkE; rw [if_neg h1,if_neg h2,hf]
   rw [he]
   simp [IP_proof_Check,i_proof_Check,hlp,hI,hI0,h2]
end
end Go.Proofs.YtkofimhnehkdoaaGreatDoor.Rf
end
section
namespace Go.Proofs.YtkofimhnehkdoaaGreatDoor.Rf
inductive PrR where
 | ok (l:List St7) | err (i:Int) (e:Int)
def stepsR : Int → List S → PrR
 | _,[] => .ok []
 | i, x :: r => match stepR x with
   | .err c => .err i c
   | .ok s => match stepsR (i + 1) r with
     | .err j c => .err j c
     | .ok l => .ok (s :: l)
def proofR (s:List UInt8) : PrR := match pAll s with
 | .err at' e => .err at' e
 | .ok l _ => match stepsR 0 l with
   | .err i c => .err i c
   | .ok p => if (checkE p).2 = 0 then .ok p else .err (checkE p).1 (checkE p).2
def ownSt (acc:List St7) : Own := if acc.isEmpty then .nil else .own 14 0
@[simp] theorem ownSt_cp (acc:List St7) : (ownSt acc).cp = ownB acc.isEmpty := by cases acc <;> rfl
@[simp] theorem ownSt_app (acc:List St7) (x:St7) : ownSt (acc ++ [x]) = .own 14 0 := by cases acc <;> rfl
theorem ownSt_ok (acc:List St7) : ownSt acc = .nil ∨ ownSt acc = .own 14 0 := by cases acc <;> simp [ownSt]
theorem avs7_app (a b:List St7) : St7.avs (a ++ b) = St7.avs a ++ St7.avs b := by simp [St7.avs]
@[simp] theorem avs7_nil : St7.avs [] = [] := rfl
@[simp] theorem okSize_avs7 (l:List St7) : okSize 14 (St7.avs l) = true := by cases l <;> simp [St7.avs,st_av]
theorem avs7_closed (n:Nat) : ∀ l : List St7,AV.closedL n (St7.avs l) = true
 | [] => rfl
 | x :: r => by
   have := avs7_closed n r
   simp only [St7.avs] at this
   simp [St7.avs,AV.closedL,AV.closed,this,st_av,T.avs_closed,i64s_closed,sbs_closed]
theorem refsS_len : ∀ (l:List S) (r:List Int),refsS l = some r → r.length = l.length
 | [],r,h => by simp [refsS] at h; subst h; rfl
 | x :: l,r,h => by
   rw [refsS] at h
   split at h
   · split at h
     · rename_i r' hr
       cases h
       simp [refsS_len l r' hr]
     · cases h
   · cases h
theorem shapeS_len (e:S) (he:e.fit) : (shapeS e).refs.length ≤ 65536 := by
 have hf := (S.fit_eq e).1 he
 have : ((refsE (e.list.getD 1 zS)).getD []).length ≤ 65536 := by
   have hx : (e.list.getD 1 zS).fit := by
     rw [List.getD_eq_getElem?_getD]
     cases hg : e.list[1]? with
     | none => simp [S.fit,S.fits]
     | some x => exact hf.2.2.2 x (List.mem_of_getElem? hg)
   have hxf := (S.fit_eq _).1 hx
   unfold refsE
   split
   · simp
   · cases hr : refsS (e.list.getD 1 zS).list with
     | none => simp
     | some r => have := refsS_len _ _ hr; simp; omega
 exact this
theorem stepR_refs (e:S) (s:St7) (h:stepR e = .ok s) : s.refs = (shapeS e).refs := by
 unfold stepR at h
 split at h
 · cases h
 · split at h
   · split at h
     · cases h
     · cases h; rfl
   · split at h
     · split at h
       · cases h
       · cases h; rfl
     · split at h
       · split at h
         · cases h
         · split at h
           · cases h
           · cases h; rfl
       · cases h; rfl
theorem stepR_len {e:S} (he:e.fit) {s:St7} (h:stepR e = .ok s) : s.refs.length ≤ 65536 := by rw [stepR_refs e s h]; exact shapeS_len e he
theorem subsS_ne : ∀ (l:List S) (c:Int),subsS l = .err c → ¬ c = 0
 | [],c,h => by cases h
 | x :: r,c,h => by
   rw [subsS] at h
   split at h
   · rename_i hr
     cases h; exact readS_ne _ _ hr
   · split at h
     · rename_i hr
       cases h; exact subsS_ne r _ hr
     · cases h
theorem stepR_ne (e:S) (c:Int) (h:stepR e = .err c) : ¬ c = 0 := by
 unfold stepR at h
 split at h
 · cases h; decide
 · split at h
   · split at h
     · rename_i hr
       cases h; exact subsS_ne _ _ hr
     · cases h
   · split at h
     · split at h
       · rename_i hr
         cases h; exact readS_ne _ _ hr
       · cases h
     · split at h
       · split at h
         · rename_i hr
           cases h; exact readS_ne _ _ hr
         · split at h
           · rename_i hr
             cases h; exact readS_ne _ _ hr
           · cases h
       · cases h
theorem stepsR_len : ∀ (l:List S) (i:Int) (p:List St7),stepsR i l = .ok p → p.length = l.length
 | [],i,p,h => by simp [stepsR] at h; subst h; rfl
 | x :: r,i,p,h => by
   rw [stepsR] at h
   split at h
   · cases h
   · split at h
     · cases h
     · rename_i l' hl
       cases h
       simp [stepsR_len r _ _ hl]
theorem stepsR_mem : ∀ (l:List S) (i:Int) (p:List St7),stepsR i l = .ok p → ∀ s,s ∈ p → ∃ e,e ∈ l ∧ stepR e = .ok s
 | [],i,p,h,s,hs => by simp [stepsR] at h; subst h; simp at hs
 | x :: r,i,p,h,s,hs => by
   rw [stepsR] at h
   split at h
   · cases h
   · rename_i s' hs'
     split at h
     · cases h
     · rename_i l' hl
       cases h
       rcases List.mem_cons.1 hs with rfl | hs
       · exact ⟨x,by simp,hs'⟩
       · obtain ⟨e,he,h2⟩ := stepsR_mem r _ _ hl s hs
         exact ⟨e,by simp [he],h2⟩
def outQ (own:List St7 → Own) : PrR → AV
 | .ok l => .tup [.list (St7.avs l) (own l),.int .i64 0,.int .i64 0]
 | .err i e => .tup [.list [] .nil,.int .i64 i,.int .i64 e]
section
variable {hp:List HObj} {lo:Nat}
end
end Go.Proofs.YtkofimhnehkdoaaGreatDoor.Rf
end
