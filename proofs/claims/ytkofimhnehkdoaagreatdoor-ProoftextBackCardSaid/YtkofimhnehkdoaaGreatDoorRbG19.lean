/- A part of the proof: see the last text. -/
import Derived.Test.YtkofimhnehkdoaaGreatDoorRbG18
import Derived.Test.YtkofimhnehkdoaaGreatDoorRbG17
import Derived.Test.YtkofimhnehkdoaaGreatDoorRbG15
set_option linter.unusedVariables false
set_option linter.unusedSimpArgs false
section
namespace Go.Proofs.YtkofimhnehkdoaaGreatDoor.Rf
section
variable {hp:List HObj} {lo:Nat} (q:Bool)
def wfr4 (op w v:Int) (as:List Int) (o:Own) (i:Nat) : Fr := [(0,.int .i64 op),(1,.int .i64 w),(2,.int .u64 v),(3,.list (as.map (AV.int .i64)) o),(22,.int .i64 as.length),(23,.int .i64 i)]
theorem width4_loop (op w v:Int) (as:List Int) (o:Own) (ha:as.length ≤ 9223372036854775807) (hp:List HObj) (lo:Nat) : loopD G0 IP lo l_sr04_Width_0 ⟨wfr4 op w v as o 0,hp⟩ =
   some (if as.all insE = false then (.ret,⟨[(8,.int .i64 0),(9,.int .i64 3)],hp⟩) else (.exit 0,⟨wfr4 op w v as o as.length ++ [(24,.bool false)],hp⟩)) := by
 have hloop := loop_find (G := G0) (IP := IP) (lo := lo) (b := l_sr04_Width_0)
   (fun i => ⟨wfr4 op w v as o i,hp⟩) as.length (fun i => !insE (as.getD i 0))
   (.ret,⟨[(8,.int .i64 0),(9,.int .i64 3)],hp⟩)
   (.exit 0,⟨wfr4 op w v as o as.length ++ [(24,.bool false)],hp⟩)
   (fun i hi hp => by
     have hw := wrap_succ hi ha
     simp [List.getD,hi] at hp
     simp only [wfr4]
     rw [← hw]
     simp [l_sr04_Width_0,hi,wid4_D,hp])
   (fun i hi hp => by
     simp [List.getD,hi] at hp
     simp [l_sr04_Width_0,wfr4,hi,wid4_D,hp])
   (by simp) (by simp [l_sr04_Width_0,wfr4]) (by simp)
 rw [any_ins] at hloop
 rw [hloop]
 cases as.all insE <;> rfl
theorem width4_bad (op w v:Int) (as:List Int) (o:Own) (h:opOk op = false ∨ (as.length : Int) ≠ arE op) : callD G0 IP n_sr04_Width [.int .i64 op,.int .i64 w,.int .u64 v,.list (as.map (AV.int .i64)) o] hp lo q = some (.ret (.tup [.int .i64 0,.int .i64 4]) hp) := by
 rw [callD_eq]
 by_cases hl : arE op < 0
 · simp [IP_sr04_Width,i_sr04_Width,arity4_D,hl]
 · have hl2 : ¬ (as.length : Int) = arE op := by
     rcases h with h | h
     · exact absurd (by simp [arE,h]) hl
     · exact h
   simp [IP_sr04_Width,i_sr04_Width,arity4_D,hl,hl2]
theorem width4_out (op w v:Int) (as:List Int) (o:Own) (ha:as.length ≤ 9223372036854775807) (hl:(as.length : Int) = arE op) (hall:as.all insE = false) : callD G0 IP n_sr04_Width [.int .i64 op,.int .i64 w,.int .u64 v,.list (as.map (AV.int .i64)) o] hp lo q = some (.ret (.tup [.int .i64 0,.int .i64 3]) hp) := by
 rw [callD_eq]
 have hloop := width4_loop op w v as o ha hp hp.length
 rw [if_pos hall] at hloop
 simp only [wfr4,Int.natCast_zero,hl] at hloop
 have hn : ¬ arE op < 0 := by omega
 simp [IP_sr04_Width,i_sr04_Width,arity4_D,hl,hn,hloop]
theorem width4_1 (w v:Int) (hv:v < 18446744073709551616)  (o:Own) (hall:List.all ([] : List Int) insE = true) : callD G0 IP n_sr04_Width [.int .i64 1,.int .i64 w,.int .u64 v,.list (([] : List Int).map (AV.int .i64)) o] hp lo q =
   some (.ret (.tup [.int .i64 (leafE 1 w v).1,.int .i64 (leafE 1 w v).2]) hp) := by
 rw [callD_eq]
 have hloop := width4_loop 1 w v [] o (by simp) hp hp.length
 rw [if_neg (by simp [hall])] at hloop
 simp [wfr4] at hloop
 have hb : arE 1 = 0 := rfl
 have hL : leafB 1 = true := rfl
 have e := fun hp lo q => leafW4_D (hp := hp) (lo := lo) q 1 w v hv
 simp [IP_sr04_Width,i_sr04_Width,arity4_D,leaf4_D,hb,hL,hloop,e]
theorem width4_2 (w v:Int) (hv:v < 18446744073709551616)  (o:Own) (hall:List.all ([] : List Int) insE = true) : callD G0 IP n_sr04_Width [.int .i64 2,.int .i64 w,.int .u64 v,.list (([] : List Int).map (AV.int .i64)) o] hp lo q =
   some (.ret (.tup [.int .i64 (leafE 2 w v).1,.int .i64 (leafE 2 w v).2]) hp) := by
 rw [callD_eq]
 have hloop := width4_loop 2 w v [] o (by simp) hp hp.length
 rw [if_neg (by simp [hall])] at hloop
 simp [wfr4] at hloop
 have hb : arE 2 = 0 := rfl
 have hL : leafB 2 = true := rfl
 have e := fun hp lo q => leafW4_D (hp := hp) (lo := lo) q 2 w v hv
 simp [IP_sr04_Width,i_sr04_Width,arity4_D,leaf4_D,hb,hL,hloop,e]
theorem width4_24 (w v:Int) (hv:v < 18446744073709551616)  (o:Own) (hall:List.all ([] : List Int) insE = true) : callD G0 IP n_sr04_Width [.int .i64 24,.int .i64 w,.int .u64 v,.list (([] : List Int).map (AV.int .i64)) o] hp lo q =
   some (.ret (.tup [.int .i64 (leafE 24 w v).1,.int .i64 (leafE 24 w v).2]) hp) := by
 rw [callD_eq]
 have hloop := width4_loop 24 w v [] o (by simp) hp hp.length
 rw [if_neg (by simp [hall])] at hloop
 simp [wfr4] at hloop
 have hb : arE 24 = 0 := rfl
 have hL : leafB 24 = true := rfl
 have e := fun hp lo q => leafW4_D (hp := hp) (lo := lo) q 24 w v hv
 simp [IP_sr04_Width,i_sr04_Width,arity4_D,leaf4_D,hb,hL,hloop,e]
theorem width4_25 (w v:Int) (hv:v < 18446744073709551616)  (o:Own) (hall:List.all ([] : List Int) insE = true) : callD G0 IP n_sr04_Width [.int .i64 25,.int .i64 w,.int .u64 v,.list (([] : List Int).map (AV.int .i64)) o] hp lo q =
   some (.ret (.tup [.int .i64 (leafE 25 w v).1,.int .i64 (leafE 25 w v).2]) hp) := by
 rw [callD_eq]
 have hloop := width4_loop 25 w v [] o (by simp) hp hp.length
 rw [if_neg (by simp [hall])] at hloop
 simp [wfr4] at hloop
 have hb : arE 25 = 0 := rfl
 have hL : leafB 25 = true := rfl
 have e := fun hp lo q => leafW4_D (hp := hp) (lo := lo) q 25 w v hv
 simp [IP_sr04_Width,i_sr04_Width,arity4_D,leaf4_D,hb,hL,hloop,e]
theorem width4_21 (w v:Int) (hv:v < 18446744073709551616) (a:Int) (o:Own) (hall:List.all ([a] : List Int) insE = true) : callD G0 IP n_sr04_Width [.int .i64 21,.int .i64 w,.int .u64 v,.list (([a] : List Int).map (AV.int .i64)) o] hp lo q =
   some (.ret (.tup [.int .i64 (resE 21 w v a).1,.int .i64 (resE 21 w v a).2]) hp) := by
 rw [callD_eq]
 have hloop := width4_loop 21 w v [a] o (by simp) hp hp.length
 rw [if_neg (by simp [hall])] at hloop
 simp [wfr4] at hloop
 have hb : arE 21 = 1 := rfl
 have hL : leafB 21 = false := rfl
 have ha : a ≤ 64 := by simp [insE] at hall; omega
 have e := fun hp lo q => parts4_D (hp := hp) (lo := lo) q 21 w v a ha
 simp [IP_sr04_Width,i_sr04_Width,arity4_D,leaf4_D,hb,hL,hloop,e]
theorem width4_22 (w v:Int) (hv:v < 18446744073709551616) (a:Int) (o:Own) (hall:List.all ([a] : List Int) insE = true) : callD G0 IP n_sr04_Width [.int .i64 22,.int .i64 w,.int .u64 v,.list (([a] : List Int).map (AV.int .i64)) o] hp lo q =
   some (.ret (.tup [.int .i64 (resE 22 w v a).1,.int .i64 (resE 22 w v a).2]) hp) := by
 rw [callD_eq]
 have hloop := width4_loop 22 w v [a] o (by simp) hp hp.length
 rw [if_neg (by simp [hall])] at hloop
 simp [wfr4] at hloop
 have hb : arE 22 = 1 := rfl
 have hL : leafB 22 = false := rfl
 have ha : a ≤ 64 := by simp [insE] at hall; omega
 have e := fun hp lo q => parts4_D (hp := hp) (lo := lo) q 22 w v a ha
 simp [IP_sr04_Width,i_sr04_Width,arity4_D,leaf4_D,hb,hL,hloop,e]
theorem width4_23 (w v:Int) (hv:v < 18446744073709551616) (a:Int) (o:Own) (hall:List.all ([a] : List Int) insE = true) : callD G0 IP n_sr04_Width [.int .i64 23,.int .i64 w,.int .u64 v,.list (([a] : List Int).map (AV.int .i64)) o] hp lo q =
   some (.ret (.tup [.int .i64 (resE 23 w v a).1,.int .i64 (resE 23 w v a).2]) hp) := by
 rw [callD_eq]
 have hloop := width4_loop 23 w v [a] o (by simp) hp hp.length
 rw [if_neg (by simp [hall])] at hloop
 simp [wfr4] at hloop
 have hb : arE 23 = 1 := rfl
 have hL : leafB 23 = false := rfl
 have ha : a ≤ 64 := by simp [insE] at hall; omega
 have e := fun hp lo q => parts4_D (hp := hp) (lo := lo) q 23 w v a ha
 simp [IP_sr04_Width,i_sr04_Width,arity4_D,leaf4_D,hb,hL,hloop,e]
theorem width4_one (op:Int) (w v:Int) (hv:v < 18446744073709551616) (a:Int) (o:Own) (hall:List.all ([a] : List Int) insE = true) (hb:arE op = 1) (hL:leafB op = false) (h21:¬ op = 21) (h22:¬ op = 22) (h23:¬ op = 23) : callD G0 IP n_sr04_Width [.int .i64 op,.int .i64 w,.int .u64 v,.list (([a] : List Int).map (AV.int .i64)) o] hp lo q =
   some (.ret (.tup [.int .i64 (((a,0) : Int × Int)).1,.int .i64 (((a,0) : Int × Int)).2]) hp) := by
 rw [callD_eq]
 have hloop := width4_loop op w v [a] o (by simp) hp hp.length
 rw [if_neg (by simp [hall])] at hloop
 simp [wfr4] at hloop
 simp [IP_sr04_Width,i_sr04_Width,arity4_D,leaf4_D,hb,hL,hloop,h21,h22,h23]
theorem width4_20 (w v:Int) (hv:v < 18446744073709551616) (a:Int) (b:Int) (o:Own) (hall:List.all ([a,b] : List Int) insE = true) : callD G0 IP n_sr04_Width [.int .i64 20,.int .i64 w,.int .u64 v,.list (([a,b] : List Int).map (AV.int .i64)) o] hp lo q =
   some (.ret (.tup [.int .i64 (if 1 ≤ a ∧ 1 ≤ b ∧ a + b ≤ 64 then ((a + b,0) : Int × Int) else (0,3)).1,.int .i64 (if 1 ≤ a ∧ 1 ≤ b ∧ a + b ≤ 64 then ((a + b,0) : Int × Int) else (0,3)).2]) hp) := by
 rw [callD_eq]
 have hloop := width4_loop 20 w v [a,b] o (by simp) hp hp.length
 rw [if_neg (by simp [hall])] at hloop
 simp [wfr4] at hloop
 have hb : arE 20 = 2 := rfl
 have hL : leafB 20 = false := rfl
 have ha : 0 ≤ a ∧ a ≤ 64 ∧ 0 ≤ b ∧ b ≤ 64 := by simp [insE] at hall; omega
 have e1 : IntKind.wrap .i64 (a + b) = a + b := wrap_small (by omega) (by omega)
 by_cases h1 : a < 1
 · have g : ¬ (1 ≤ a ∧ 1 ≤ b ∧ a + b ≤ 64) := by omega
   simp only [if_neg g]
   simp [IP_sr04_Width,i_sr04_Width,arity4_D,leaf4_D,hb,hL,hloop,h1]
 · by_cases h2 : b < 1
   · have g : ¬ (1 ≤ a ∧ 1 ≤ b ∧ a + b ≤ 64) := by omega
     simp only [if_neg g]
     simp [IP_sr04_Width,i_sr04_Width,arity4_D,leaf4_D,hb,hL,hloop,h1,h2]
   · by_cases h3 : 64 < a + b
     · have g : ¬ (1 ≤ a ∧ 1 ≤ b ∧ a + b ≤ 64) := by omega
       simp only [if_neg g]
       simp [IP_sr04_Width,i_sr04_Width,arity4_D,leaf4_D,hb,hL,hloop,h1,h2,h3,e1]
     · have g : 1 ≤ a ∧ 1 ≤ b ∧ a + b ≤ 64 := by omega
       simp only [if_pos g]
       simp [IP_sr04_Width,i_sr04_Width,arity4_D,leaf4_D,hb,hL,hloop,h1,h2,h3,e1]
theorem width4_19 (w v:Int) (hv:v < 18446744073709551616) (a:Int) (b:Int) (c:Int) (o:Own) (hall:List.all ([a,b,c] : List Int) insE = true) : callD G0 IP n_sr04_Width [.int .i64 19,.int .i64 w,.int .u64 v,.list (([a,b,c] : List Int).map (AV.int .i64)) o] hp lo q =
   some (.ret (.tup [.int .i64 (if a = 1 ∧ b = c then ((b,0) : Int × Int) else (0,3)).1,.int .i64 (if a = 1 ∧ b = c then ((b,0) : Int × Int) else (0,3)).2]) hp) := by
 rw [callD_eq]
 have hloop := width4_loop 19 w v [a,b,c] o (by simp) hp hp.length
 rw [if_neg (by simp [hall])] at hloop
 simp [wfr4] at hloop
 have hb : arE 19 = 3 := rfl
 have hL : leafB 19 = false := rfl
 by_cases h1 : a = 1
 · subst h1
   by_cases h2 : b = c
   · subst h2
     simp [IP_sr04_Width,i_sr04_Width,arity4_D,leaf4_D,hb,hL,hloop]
   · simp [IP_sr04_Width,i_sr04_Width,arity4_D,leaf4_D,hb,hL,hloop,h2]
 · simp [IP_sr04_Width,i_sr04_Width,arity4_D,leaf4_D,hb,hL,hloop,h1]
theorem width4_16 (w v:Int) (hv:v < 18446744073709551616) (a:Int) (b:Int) (o:Own) (hall:List.all ([a,b] : List Int) insE = true) : callD G0 IP n_sr04_Width [.int .i64 16,.int .i64 w,.int .u64 v,.list (([a,b] : List Int).map (AV.int .i64)) o] hp lo q =
   some (.ret (.tup [.int .i64 (if a = b then ((1,0) : Int × Int) else (0,3)).1,.int .i64 (if a = b then ((1,0) : Int × Int) else (0,3)).2]) hp) := by
 rw [callD_eq]
 have hloop := width4_loop 16 w v [a,b] o (by simp) hp hp.length
 rw [if_neg (by simp [hall])] at hloop
 simp [wfr4] at hloop
 have hb : arE 16 = 2 := rfl
 have hL : leafB 16 = false := rfl
 by_cases h1 : a = b
 · subst h1
   simp [IP_sr04_Width,i_sr04_Width,arity4_D,leaf4_D,hb,hL,hloop]
 · simp [IP_sr04_Width,i_sr04_Width,arity4_D,leaf4_D,hb,hL,hloop,h1]
theorem width4_17 (w v:Int) (hv:v < 18446744073709551616) (a:Int) (b:Int) (o:Own) (hall:List.all ([a,b] : List Int) insE = true) : callD G0 IP n_sr04_Width [.int .i64 17,.int .i64 w,.int .u64 v,.list (([a,b] : List Int).map (AV.int .i64)) o] hp lo q =
   some (.ret (.tup [.int .i64 (if a = b then ((1,0) : Int × Int) else (0,3)).1,.int .i64 (if a = b then ((1,0) : Int × Int) else (0,3)).2]) hp) := by
 rw [callD_eq]
 have hloop := width4_loop 17 w v [a,b] o (by simp) hp hp.length
 rw [if_neg (by simp [hall])] at hloop
 simp [wfr4] at hloop
 have hb : arE 17 = 2 := rfl
 have hL : leafB 17 = false := rfl
 by_cases h1 : a = b
 · subst h1
   simp [IP_sr04_Width,i_sr04_Width,arity4_D,leaf4_D,hb,hL,hloop]
 · simp [IP_sr04_Width,i_sr04_Width,arity4_D,leaf4_D,hb,hL,hloop,h1]
theorem width4_18 (w v:Int) (hv:v < 18446744073709551616) (a:Int) (b:Int) (o:Own) (hall:List.all ([a,b] : List Int) insE = true) : callD G0 IP n_sr04_Width [.int .i64 18,.int .i64 w,.int .u64 v,.list (([a,b] : List Int).map (AV.int .i64)) o] hp lo q =
   some (.ret (.tup [.int .i64 (if a = b then ((1,0) : Int × Int) else (0,3)).1,.int .i64 (if a = b then ((1,0) : Int × Int) else (0,3)).2]) hp) := by
 rw [callD_eq]
 have hloop := width4_loop 18 w v [a,b] o (by simp) hp hp.length
 rw [if_neg (by simp [hall])] at hloop
 simp [wfr4] at hloop
 have hb : arE 18 = 2 := rfl
 have hL : leafB 18 = false := rfl
 by_cases h1 : a = b
 · subst h1
   simp [IP_sr04_Width,i_sr04_Width,arity4_D,leaf4_D,hb,hL,hloop]
 · simp [IP_sr04_Width,i_sr04_Width,arity4_D,leaf4_D,hb,hL,hloop,h1]
theorem width4_two (op:Int) (w v:Int) (hv:v < 18446744073709551616) (a:Int) (b:Int) (o:Own) (hall:List.all ([a,b] : List Int) insE = true) (hb:arE op = 2) (hL:leafB op = false) (h21:¬ op = 21) (h22:¬ op = 22) (h23:¬ op = 23) (h20:¬ op = 20) (h19:¬ op = 19) (h16:¬ op = 16) (h17:¬ op = 17) (h18:¬ op = 18) : callD G0 IP n_sr04_Width [.int .i64 op,.int .i64 w,.int .u64 v,.list (([a,b] : List Int).map (AV.int .i64)) o] hp lo q =
   some (.ret (.tup [.int .i64 (if a = b then ((a,0) : Int × Int) else (0,3)).1,.int .i64 (if a = b then ((a,0) : Int × Int) else (0,3)).2]) hp) := by
 rw [callD_eq]
 have hloop := width4_loop op w v [a,b] o (by simp) hp hp.length
 rw [if_neg (by simp [hall])] at hloop
 simp [wfr4] at hloop
 by_cases h1 : a = b
 · subst h1
   simp [IP_sr04_Width,i_sr04_Width,arity4_D,leaf4_D,hb,hL,hloop,h21,h22,h23,h20,h19,h16,h17,h18]
 · simp [IP_sr04_Width,i_sr04_Width,arity4_D,leaf4_D,hb,hL,hloop,h21,h22,h23,h20,h19,h16,h17,h18,h1]
theorem width4_D (op w v:Int) (hv:v < 18446744073709551616) (as:List Int) (o:Own) (ha:as.length ≤ 9223372036854775807) : callD G0 IP n_sr04_Width [.int .i64 op,.int .i64 w,.int .u64 v,.list (as.map (AV.int .i64)) o] hp lo q =
   some (.ret (.tup [.int .i64 (widE op w v as).1,.int .i64 (widE op w v as).2]) hp) := by
 by_cases h : opOk op = false ∨ (as.length : Int) ≠ arE op
 · rw [width4_bad q op w v as o h,widE,if_pos h]
 · have hk : opOk op = true := by cases hk : opOk op <;> simp_all
   have hl : (as.length : Int) = arE op := Decidable.byContradiction fun e => h (.inr e)
   cases hall : as.all insE with
   | false => rw [width4_out q op w v as o ha hl hall,widE,if_neg h,if_pos hall]
   | true =>
     rw [widE_in h hall]
     rcases opOk_cases hk with rfl | rfl | rfl | rfl | rfl | rfl | rfl | rfl | rfl | rfl | rfl | rfl | rfl | rfl | rfl | rfl | rfl | rfl | rfl | rfl | rfl | rfl | rfl | rfl | rfl | rfl
     · obtain rfl := len0 hl; exact width4_1 q w v hv o hall
     · obtain rfl := len0 hl; exact width4_2 q w v hv o hall
     · obtain ⟨a,rfl⟩ := len1 hl; exact width4_one q 3 w v hv a o hall rfl rfl (by decide) (by decide) (by decide)
     · obtain ⟨a,rfl⟩ := len1 hl; exact width4_one q 4 w v hv a o hall rfl rfl (by decide) (by decide) (by decide)
     · obtain ⟨a,b,rfl⟩ := len2 hl; exact width4_two q 5 w v hv a b o hall rfl rfl (by decide) (by decide) (by decide) (by decide) (by decide) (by decide) (by decide) (by decide)
     · obtain ⟨a,b,rfl⟩ := len2 hl; exact width4_two q 6 w v hv a b o hall rfl rfl (by decide) (by decide) (by decide) (by decide) (by decide) (by decide) (by decide) (by decide)
     · obtain ⟨a,b,rfl⟩ := len2 hl; exact width4_two q 7 w v hv a b o hall rfl rfl (by decide) (by decide) (by decide) (by decide) (by decide) (by decide) (by decide) (by decide)
     · obtain ⟨a,b,rfl⟩ := len2 hl; exact width4_two q 8 w v hv a b o hall rfl rfl (by decide) (by decide) (by decide) (by decide) (by decide) (by decide) (by decide) (by decide)
     · obtain ⟨a,b,rfl⟩ := len2 hl; exact width4_two q 9 w v hv a b o hall rfl rfl (by decide) (by decide) (by decide) (by decide) (by decide) (by decide) (by decide) (by decide)
     · obtain ⟨a,b,rfl⟩ := len2 hl; exact width4_two q 10 w v hv a b o hall rfl rfl (by decide) (by decide) (by decide) (by decide) (by decide) (by decide) (by decide) (by decide)
     · obtain ⟨a,b,rfl⟩ := len2 hl; exact width4_two q 11 w v hv a b o hall rfl rfl (by decide) (by decide) (by decide) (by decide) (by decide) (by decide) (by decide) (by decide)
     · obtain ⟨a,b,rfl⟩ := len2 hl; exact width4_two q 12 w v hv a b o hall rfl rfl (by decide) (by decide) (by decide) (by decide) (by decide) (by decide) (by decide) (by decide)
     · obtain ⟨a,b,rfl⟩ := len2 hl; exact width4_two q 13 w v hv a b o hall rfl rfl (by decide) (by decide) (by decide) (by decide) (by decide) (by decide) (by decide) (by decide)
     · obtain ⟨a,b,rfl⟩ := len2 hl; exact width4_two q 14 w v hv a b o hall rfl rfl (by decide) (by decide) (by decide) (by decide) (by decide) (by decide) (by decide) (by decide)
     · obtain ⟨a,b,rfl⟩ := len2 hl; exact width4_two q 15 w v hv a b o hall rfl rfl (by decide) (by decide) (by decide) (by decide) (by decide) (by decide) (by decide) (by decide)
     · obtain ⟨a,b,rfl⟩ := len2 hl; exact width4_16 q w v hv a b o hall
     · obtain ⟨a,b,rfl⟩ := len2 hl; exact width4_17 q w v hv a b o hall
     · obtain ⟨a,b,rfl⟩ := len2 hl; exact width4_18 q w v hv a b o hall
     · obtain ⟨a,b,c,rfl⟩ := len3 hl; exact width4_19 q w v hv a b c o hall
     · obtain ⟨a,b,rfl⟩ := len2 hl; exact width4_20 q w v hv a b o hall
     · obtain ⟨a,rfl⟩ := len1 hl; exact width4_21 q w v hv a o hall
     · obtain ⟨a,rfl⟩ := len1 hl; exact width4_22 q w v hv a o hall
     · obtain ⟨a,rfl⟩ := len1 hl; exact width4_23 q w v hv a o hall
     · obtain rfl := len0 hl; exact width4_24 q w v hv o hall
     · obtain rfl := len0 hl; exact width4_25 q w v hv o hall
     · obtain ⟨a,rfl⟩ := len1 hl; exact width4_one q 26 w v hv a o hall rfl rfl (by decide) (by decide) (by decide)
end
end Go.Proofs.YtkofimhnehkdoaaGreatDoor.Rf
end
section
namespace Go.Proofs.YtkofimhnehkdoaaGreatDoor.Rf
section
variable {hp:List HObj} {lo:Nat} (q:Bool)
theorem bytesOf_map : ∀ s : List UInt8,bytesOf (s.map fun b => AV.int .u8 b.toNat) = some s
 | [] => rfl
 | b :: r => by
   have h := bytesOf_map r
   have h1 : (b.toNat : Int) < 256 := by have := b.toNat_lt; omega
   simp only [List.map_cons,bytesOf]
   rw [if_pos ⟨by omega,h1⟩,h]
   simp
theorem clone_D (s:List UInt8) (hs:s.length ≤ 140737488355328) : callD G0 IP n_isl_Clone [.str s] hp lo q = some (.ret (.str s) hp) := by
 rw [callD_eq]
 by_cases h0 : s = []
 · subst h0
   simp [IP_isl_Clone,i_isl_Clone]
 · have hl : s.length ≠ 0 := fun e => h0 (List.length_eq_zero_iff.1 e)
   have h1 : (0:Int) < (s.length : Int) := by omega
   have h2 : (s.length : Int) ≤ 9223372036854775807 := by omega
   have h3 : s.length ≤ s.length := Nat.le_refl _
   have hb := bytesOf_map s
   have htk : List.take s.length (s.map fun b => AV.int .u8 b.toNat) = s.map fun b => AV.int .u8 b.toNat := List.take_of_length_le (by simp)
   simp [IP_isl_Clone,i_isl_Clone,h0,hl,h1,h2,hs,hb,htk,Nat.pos_of_ne_zero hl]
theorem rangeError_D (f s:List UInt8) (hs:s.length ≤ 140737488355328) : callD G0 IP n_sc_rangeError [.str f,.str s] hp lo false = some (.ret (.ptr hp.length 0) (hp ++ [.cells 0 [.str f,.str s,.iface 222 .none]])) := by
 rw [callD_eq]
 have e := fun hp lo q => clone_D (hp := hp) (lo := lo) q s hs
 simp [IP_sc_rangeError,i_sc_rangeError,e,G0_7,g_7]
theorem toError_D (f s:List UInt8) (hs:s.length ≤ 140737488355328) (b c:Int) : callD G0 IP n_sc_toError [.str f,.str s,.int .i64 b,.int .i64 c,.iface 211 (.int .i64 1)] hp lo false = some (.ret (.iface 213 (.ptr hp.length 0)) (hp ++ [.cells 0 [.str f,.str s,.iface 222 .none]])) := by
 rw [callD_eq]
 have e := fun (hp:List HObj) (lo:Nat) => rangeError_D (hp := hp) (lo := lo) f s hs
 simp [IP_sc_toError,i_sc_toError,e]
theorem parseUint_D (s:List UInt8) (hs:s.length ≤ 140737488355328) (h0:s ≠ []) (hd:s.all isDig = true) : ∃ hp',callD G0 IP n_sc_ParseUint [.str s,.int .i64 10,.int .i64 64] hp lo false =
   some (.ret (if 18446744073709551616 ≤ digVal s then .tup [.int .u64 18446744073709551615,.iface 213 (.ptr hp.length 0)] else .tup [.int .u64 (digVal s),.nili]) hp') := by
 have e := fun (hp:List HObj) (lo:Nat) => parseUintI_D (hp := hp) (lo := lo) s hs h0 hd
 have e2 := fun (f:List UInt8) (hp:List HObj) (lo:Nat) (b c:Int) => toError_D (hp := hp) (lo := lo) f s hs b c
 by_cases hv : 18446744073709551616 ≤ digVal s
 · refine ⟨hp ++ [.cells 0 [.str [80,97,114,115,101,85,105,110,116],.str s,.iface 222 .none]],?_⟩
   rw [callD_eq]
   simp only [pU,if_pos hv] at e ⊢
   simp [IP_sc_ParseUint,i_sc_ParseUint,e,e2]
 · refine ⟨hp,?_⟩
   rw [callD_eq]
   simp only [pU,if_neg hv] at e ⊢
   simp [IP_sc_ParseUint,i_sc_ParseUint,e,e2]
theorem digitsParse_D (s:List UInt8) (hs:s.length ≤ 140737488355328) (hx:hasPre s [48,120] = false) : callD G0 IP n_digits_Parse [.str s] hp lo q = some (.ret (.tup [.int .u64 (numE s).1,.int .i64 (numE s).2]) hp) := by
 rw [callD_eq]
 have e1 := fun hp lo q => numeral_D (hp := hp) (lo := lo) q s (by omega)
 cases hn : numOk s with
 | false => simp [IP_digits_Parse,i_digits_Parse,cutPre_D,hx,e1,hn,numE]
 | true =>
   obtain ⟨h0,hd⟩ := numE_nonempty hn
   obtain ⟨hp',e2⟩ := parseUint_D (hp := hp) (lo := hp.length) s hs h0 hd
   by_cases hv : 18446744073709551616 ≤ digVal s
   · rw [if_pos hv] at e2
     simp [IP_digits_Parse,i_digits_Parse,cutPre_D,hx,e1,hn,numE,e2,hv]
   · rw [if_neg hv] at e2
     simp [IP_digits_Parse,i_digits_Parse,cutPre_D,hx,e1,hn,numE,e2,hv]
theorem numOk_0x {s:List UInt8} (h:hasPre s [48,120] = true) : numOk s = false := by
 simp only [hasPre,Bool.and_eq_true,decide_eq_true_eq] at h
 match s,h with
 | a :: b :: r,⟨_,h⟩ =>
   simp at h
   obtain ⟨rfl,rfl⟩ := h
   simp [numOk]
theorem ttNumeral_D (s:List UInt8) (hs:s.length ≤ 140737488355328) : callD G0 IP n_tt_numeral [.str s] hp lo q = some (.ret (.tup [.int .u64 (numE s).1,.int .i64 (numE s).2]) hp) := by
 rw [callD_eq]
 cases hx : hasPre s [48,120] with
 | true => simp [IP_tt_numeral,i_tt_numeral,hasPre_D,hx,numE,numOk_0x hx]
 | false =>
   have e := fun hp lo q => digitsParse_D (hp := hp) (lo := lo) q s hs hx
   simp [IP_tt_numeral,i_tt_numeral,hasPre_D,hx,e]
end
end Go.Proofs.YtkofimhnehkdoaaGreatDoor.Rf
end
section
namespace Go.Proofs.YtkofimhnehkdoaaGreatDoor.Rf
inductive T where
 | mk (op width val:Int) (name:List UInt8) (o:Bool) (args:List T)
namespace T
def op : T → Int | .mk a _ _ _ _ _ => a
def width : T → Int | .mk _ a _ _ _ _ => a
def val : T → Int | .mk _ _ a _ _ _ => a
def name : T → List UInt8 | .mk _ _ _ a _ _ => a
def o : T → Bool | .mk _ _ _ _ a _ => a
def args : T → List T | .mk _ _ _ _ _ a => a
end T
mutual
def T.av : T → AV
 | .mk op w v n o as => .agg [.int .i64 op,.int .i64 w,.int .u64 v,.str n,.list (T.avs as) (ownB o)]
def T.avs : List T → List AV
 | [] => []
 | t :: r => t.av :: T.avs r
end
theorem T.av_eq (t:T) : t.av = .agg [.int .i64 t.op,.int .i64 t.width,.int .u64 t.val,.str t.name,.list (T.avs t.args) (ownB t.o)] := by cases t; rfl
abbrev T.cells (t:T) : List AV := [.int .i64 t.op,.int .i64 t.width,.int .u64 t.val,.str t.name,.list (T.avs t.args) (ownB t.o)]
theorem T.avs_eq : ∀ as : List T,T.avs as = as.map T.av
 | [] => rfl
 | t :: r => by simp [T.avs,T.avs_eq r]
@[simp] theorem T.avs_len (as:List T) : (T.avs as).length = as.length := by simp [T.avs_eq]
@[simp] theorem T.avs_getElem {as:List T} {i:Nat} (h:i < (T.avs as).length) : (T.avs as)[i] = (as[i]'(by simpa using h)).av := by simp [T.avs_eq]
mutual
def T.wf : T → Prop
 | .mk op w v n o as => (Lit.int .i64 op).wf = true ∧ (Lit.int .i64 w).wf = true ∧ (Lit.int .u64 v).wf = true ∧ n.length ≤ 9223372036854775807 ∧ as.length ≤ 9223372036854775807 ∧ (o = true → as = []) ∧ T.wfs as
def T.wfs : List T → Prop
 | [] => True
 | t :: r => t.wf ∧ T.wfs r
end
theorem T.wfs_iff : ∀ as : List T,T.wfs as ↔ ∀ t,t ∈ as → t.wf
 | [] => by simp [T.wfs]
 | t :: r => by simp [T.wfs,T.wfs_iff r]
theorem T.wf_eq (t:T) : t.wf ↔ (Lit.int .i64 t.op).wf = true ∧ (Lit.int .i64 t.width).wf = true ∧ (Lit.int .u64 t.val).wf = true ∧ t.name.length ≤ 9223372036854775807 ∧ t.args.length ≤ 9223372036854775807 ∧ (t.o = true → t.args = []) ∧ ∀ u,u ∈ t.args → u.wf := by
 cases t; simp only [T.wf,T.op,T.width,T.val,T.name,T.args,T.o,T.wfs_iff]
mutual
def T.same : T → T → Bool
 | .mk a b c d _ as,.mk a' b' c' d' _ as' => a == a' && (b == b' && (c == c' && (d == d' && T.sames as as')))
def T.sames : List T → List T → Bool
 | [],[] => true
 | t :: r,u :: s => t.same u && T.sames r s
 | [],_ :: _ => false
 | _ :: _,[] => false
end
theorem T.same_eq (t u:T) : t.same u = (t.op == u.op && (t.width == u.width && (t.val == u.val && (t.name == u.name && T.sames t.args u.args)))) := by cases t; cases u; rfl
theorem T.sames_eq : ∀ (as bs:List T) (h:as.length = bs.length),T.sames as bs = !(List.range as.length).any fun i => !(as.getD i (.mk 0 0 0 [] true [])).same (bs.getD i (.mk 0 0 0 [] true []))
 | [],[],_ => rfl
 | t :: r,u :: s,h => by
   rw [T.sames,T.sames_eq r s (by simpa using h),List.length_cons,List.range_succ_eq_map]
   simp [List.any_map,Function.comp_def]
 | [],_ :: _,h => by simp at h
 | _ :: _,[],h => by simp at h
theorem T.sames_len : ∀ (as bs:List T),as.length ≠ bs.length → T.sames as bs = false
 | [],[],h => by simp at h
 | t :: r,u :: s,h => by rw [T.sames,T.sames_len r s (by simpa using h),Bool.and_false]
 | [],_ :: _,h => rfl
 | _ :: _,[],h => rfl
mutual
def T.size : T → Nat
 | .mk _ _ _ _ _ as => 1 + T.sizes as
def T.sizes : List T → Nat
 | [] => 0
 | t :: r => t.size + T.sizes r
end
theorem T.size_eq (t:T) : t.size = 1 + T.sizes t.args := by cases t; rfl
theorem T.sizes_app : ∀ a b : List T,T.sizes (a ++ b) = T.sizes a + T.sizes b
 | [],b => by simp [T.sizes]
 | t :: r,b => by simp [T.sizes,T.sizes_app r b]; omega
theorem T.ind {p:T → Prop} (h:∀ t : T,(∀ u,u ∈ t.args → p u) → p t) (t:T) : p t :=
 T.rec (motive_1 := p) (motive_2 := fun as => ∀ u,u ∈ as → p u) (fun a b c d e as ih => h _ ih) (fun u hu => by simp at hu)
   (fun t r h1 h2 u hu => by
     rcases List.mem_cons.1 hu with e | hu
     · rw [e]; exact h1
     · exact h2 u hu) t
end Go.Proofs.YtkofimhnehkdoaaGreatDoor.Rf
end
section
namespace Go.Proofs.YtkofimhnehkdoaaGreatDoor.Rf
def bt (s:List UInt8) (i:Nat) : Int := ((s.getD i 0).toNat : Int)
theorem bt_some {s:List UInt8} {i:Nat} (h:i < s.length) : ∃ c : UInt8,s[i]? = some c ∧ bt s i = (c.toNat : Int) := ⟨s[i],by simp [h],by simp [bt,h]⟩
def lowC (n:Int) : Bool := decide (97 ≤ n) && decide (n ≤ 122)
def nameC (n:Int) : Bool := lowC n || (decide (48 ≤ n) && decide (n ≤ 57)) || decide (n = 95)
def nameOk (s:List UInt8) : Bool := decide (1 ≤ s.length) && (decide (s.length ≤ 16) && (lowC (bt s 0) && s.all fun c => nameC (c.toNat : Int)))
inductive TR where
 | ok (t:T) | err (e:Int)
def T.z : T := .mk 0 0 0 [] true []
def TR.t : TR → T | .ok t => t | .err _ => T.z
def TR.e : TR → Int | .ok _ => 0 | .err e => e
def TR.out (hp:List HObj) : TR → COut
 | .ok t => .ret t.av hp
 | .err e => .pan (.iface 78 (.agg [.int .i64 e])) hp
def TR.tup (hp:List HObj) (r:TR) : COut := .ret (.tup [r.t.av,.int .i64 r.e]) hp
def constR (left:List UInt8) (w e:Int) : TR :=
 if (numE left).2 = 6 then .err 6 else
 if ¬ (e = 0 ∧ (numE left).2 = 0 ∧ w ≤ 64) then .err 2 else
 if (widE 2 w (numE left).1 []).2 ≠ 0 then .err (widE 2 w (numE left).1 []).2 else
 .ok (.mk 2 w (numE left).1 [] true [])
def leafOp (l:List UInt8) : Int := if bt l 0 = 63 then 24 else if bt l 0 = 35 then 25 else 1
def leafNm (l:List UInt8) : List UInt8 := if bt l 0 = 63 ∨ bt l 0 = 35 then l.drop 1 else l
def leafR (s:List UInt8) : TR :=
 if (cutB s 58).2.2 = false ∨ (numE (cutB s 58).2.1).2 = 6 then .err 6 else
 if 48 ≤ bt s 0 ∧ bt s 0 ≤ 57 then constR (cutB s 58).1 (numE (cutB s 58).2.1).1 (numE (cutB s 58).2.1).2 else
 if nameOk (leafNm (cutB s 58).1) = false then .err 5 else
 if ¬ ((numE (cutB s 58).2.1).2 = 0 ∧ (numE (cutB s 58).2.1).1 ≤ 64) then .err 2 else
 .ok (.mk (leafOp (cutB s 58).1) (numE (cutB s 58).2.1).1 0 (leafNm (cutB s 58).1) true [])
end Go.Proofs.YtkofimhnehkdoaaGreatDoor.Rf
end
section
namespace Go.Proofs.YtkofimhnehkdoaaGreatDoor.Rf
theorem any_names (s:List UInt8) : ((List.range s.length).any fun i => !nameC (bt s i)) = !(s.all fun c => nameC (c.toNat : Int)) := by
 induction s with
 | nil => rfl
 | cons c r ih =>
   rw [List.length_cons,List.range_succ_eq_map]
   simp [List.any_map,Function.comp_def,bt] at ih ⊢
   rw [ih]
section
variable {hp:List HObj} {lo:Nat} (q:Bool)
theorem must_D (ok:Bool) (e:Int) : callD G0 IP n_tt_must [.bool ok,.int .i64 e] hp lo false = some (if ok then .ret (.tup []) hp else .pan (.iface 78 (.agg [.int .i64 e])) hp) := by
 rw [callD_eq]
 cases ok <;> simp [IP_tt_must,i_tt_must]
theorem failT_D (e:Int) : callD G0 IP n_tt_fail [.int .i64 e] hp lo false = some (if e = 0 then .ret (.tup []) hp else .pan (.iface 78 (.agg [.int .i64 e])) hp) := by
 rw [callD_eq]
 by_cases h : e = 0 <;> simp [IP_tt_fail,i_tt_fail,h]
theorem name_D (s : List UInt8) (hs:s.length ≤ 9223372036854775807) : callD G0 IP n_term_Name [.str s] hp lo q = some (.ret (.bool (nameOk s)) hp) := by
 rw [callD_eq]
 by_cases h1 : s.length < 1
 · have h0 : ¬ 1 ≤ s.length := by omega
   have hi : (s.length : Int) < 1 := by omega
   simp [IP_term_Name,i_term_Name,nameOk,hi,h0]
 · have h1' : 1 ≤ s.length := by omega
   have hi : ¬ (s.length : Int) < 1 := by omega
   by_cases h2 : 16 < s.length
   · have h2' : (16:Int) < (s.length : Int) := by omega
     have h0 : ¬ s.length ≤ 16 := by omega
     simp [IP_term_Name,i_term_Name,nameOk,hi,h2',h0]
   · have h2' : ¬ (16 : Int) < (s.length : Int) := by omega
     obtain ⟨c,h4,hb⟩ := bt_some (s := s) (i := 0) (by omega)
     have h3 : s.length ≤ 16 := by omega
     by_cases h5 : (c.toNat : Int) < 97
     · have g : lowC (c.toNat : Int) = false := by simp [lowC]; omega
       simp [IP_term_Name,i_term_Name,nameOk,hi,h2',h4,hb,h5,g]
     · by_cases h6 : 122 < (c.toNat : Int)
       · have g : lowC (c.toNat : Int) = false := by simp [lowC]; omega
         simp [IP_term_Name,i_term_Name,nameOk,hi,h2',h4,hb,h5,h6,g]
       · have g : lowC (c.toNat : Int) = true := by simp [lowC]; omega
         have hloop := loop_find (G := G0) (IP := IP) (lo := hp.length) (b := l_term_Name_0)
           (fun i => ⟨[(0,.str s),(24,.int .i64 s.length),(25,.int .i64 i)],hp⟩) s.length (fun i => !nameC (bt s i))
           (.ret,⟨[(2,.bool false)],hp⟩) (.exit 0,⟨[(0,.str s),(24,.int .i64 s.length),(25,.int .i64 s.length),(26,.bool false)],hp⟩)
           (fun i hi hp => by
             have hw := wrap_succ hi hs
             obtain ⟨c,h4,hb⟩ := bt_some (s := s) (i := i) hi
             have h4' : s[i] = c := by simpa [hi] using h4
             rw [hb] at hp
             rw [← hw]
             by_cases a1 : (c.toNat : Int) < 97
             · by_cases a2 : (c.toNat : Int) < 48
               · simp [nameC,lowC] at hp; omega
               · by_cases a3 : 57 < (c.toNat : Int)
                 · have a4 : (c.toNat : Int) = 95 := by simp [nameC,lowC] at hp; omega
                   simp [l_term_Name_0,h4,h4',hi,a1,a2,a3,a4]
                 · simp [l_term_Name_0,h4,h4',hi,a1,a2,a3]
             · by_cases a2 : 122 < (c.toNat : Int)
               · simp [nameC,lowC] at hp; omega
               · simp [l_term_Name_0,h4,h4',hi,a1,a2])
           (fun i hi hp => by
             obtain ⟨c,h4,hb⟩ := bt_some (s := s) (i := i) hi
             have h4' : s[i] = c := by simpa [hi] using h4
             rw [hb] at hp
             have a4 : ¬ (c.toNat : Int) = 95 := by simp [nameC,lowC] at hp; omega
             by_cases a1 : (c.toNat : Int) < 97
             · by_cases a2 : (c.toNat : Int) < 48
               · simp [l_term_Name_0,h4,h4',hi,a1,a2,a4]
               · have a3 : 57 < (c.toNat : Int) := by simp [nameC,lowC] at hp; omega
                 simp [l_term_Name_0,h4,h4',hi,a1,a2,a3,a4]
             · have a2 : 122 < (c.toNat : Int) := by simp [nameC,lowC] at hp; omega
               have a3 : 57 < (c.toNat : Int) := by omega
               have a5 : ¬ (c.toNat : Int) < 48 := by omega
               simp [l_term_Name_0,h4,h4',hi,a1,a2,a3,a4,a5])
           (by simp) (by simp [l_term_Name_0]) (by simp)
         rw [any_names] at hloop
         simp only [Int.natCast_zero] at hloop
         cases h : s.all fun c => nameC (c.toNat : Int) with
         | true => rw [h] at hloop; simp only [Bool.not_true,Bool.false_eq_true,if_false] at hloop; simp [IP_term_Name,i_term_Name,hi,h2',h4,h5,h6,hloop,nameOk,hb,g,h1',h3,h]
         | false => rw [h] at hloop; simp only [Bool.not_false,if_true] at hloop; simp [IP_term_Name,i_term_Name,hi,h2',h4,h5,h6,hloop,nameOk,hb,g,h1',h3,h]
end
end Go.Proofs.YtkofimhnehkdoaaGreatDoor.Rf
end
section
namespace Go.Proofs.YtkofimhnehkdoaaGreatDoor.Rf
theorem numE_bd (s:List UInt8) : 0 ≤ (numE s).1 ∧ (numE s).1 < 18446744073709551616 := by
 unfold numE
 split
 · omega
 · split <;> omega
theorem numE_code (s:List UInt8) : (numE s).2 = 0 ∨ (numE s).2 = 2 ∨ (numE s).2 = 6 := by
 unfold numE
 split
 · simp
 · split <;> simp
mutual
@[simp] theorem T.av_clo (n:Nat) : ∀ t : T,AV.closed n t.av = true
 | .mk _ _ _ _ o as => by simp [T.av,AV.closed,AV.closedL,T.avs_clo n as]
@[simp] theorem T.avs_clo (n:Nat) : ∀ as : List T,AV.closedL n (T.avs as) = true
 | [] => rfl
 | t :: r => by simp [T.avs,AV.closedL,T.av_clo n t,T.avs_clo n r]
end
theorem leaf_kind (l:List UInt8) : (∃ r,l = 63 :: r) ∨ (∃ r,l = 35 :: r) ∨ (hasPre l [63] = false ∧ hasPre l [35] = false ∧ leafOp l = 1 ∧ leafNm l = l) := by
 rcases l with _ | ⟨c,r⟩
 · exact .inr (.inr ⟨rfl,rfl,rfl,rfl⟩)
 · by_cases h : c = 63
   · exact .inl ⟨r,by rw [h]⟩
   · by_cases h2 : c = 35
     · exact .inr (.inl ⟨r,by rw [h2]⟩)
     · have a : ¬ (c.toNat : Int) = 63 := fun e => h (UInt8.toNat_inj.1 (by simp only [show UInt8.toNat 63 = 63 from rfl,show UInt8.toNat 35 = 35 from rfl]; omega))
       have b : ¬ (c.toNat : Int) = 35 := fun e => h2 (UInt8.toNat_inj.1 (by simp only [show UInt8.toNat 63 = 63 from rfl,show UInt8.toNat 35 = 35 from rfl]; omega))
       exact .inr (.inr ⟨by simp [hasPre,h],by simp [hasPre,h2],by simp [leafOp,bt,a,b],by simp [leafNm,bt,a,b]⟩)
section
variable {hp:List HObj} {lo:Nat} (q:Bool)
theorem constant_D (left:List UInt8) (hs:left.length ≤ 140737488355328) (w e:Int) (hw:0 ≤ w) : callD G0 IP n_tt_constant [.str left,.int .u64 w,.int .i64 e] hp lo false = some ((constR left w e).out hp) := by
 rw [callD_eq]
 have hn := fun hp lo q => ttNumeral_D (hp := hp) (lo := lo) q left hs
 have hb := numE_bd left
 by_cases h1 : (numE left).2 = 6
 · simp [IP_tt_constant,i_tt_constant,hn,h1,must_D,constR,TR.out]
 · by_cases h2 : e = 0
   · by_cases h3 : (numE left).2 = 0
     · by_cases h4 : w ≤ 64
       · have e1 : IntKind.wrap .i64 w = w := wrap_small (by omega) (by omega)
         have hW := fun hp lo q => width_D (hp := hp) (lo := lo) q 2 w (numE left).1 hb.1 [] .nil (by simp)
         simp only [List.map_nil] at hW
         by_cases h5 : (widE 2 w (numE left).1 []).2 = 0
         · simp [IP_tt_constant,i_tt_constant,hn,h2,h3,h4,h5,must_D,failT_D,constR,TR.out,e1,hW,T.av,T.avs,ownB]
         · simp [IP_tt_constant,i_tt_constant,hn,h2,h3,h4,h5,must_D,failT_D,constR,TR.out,e1,hW]
       · simp [IP_tt_constant,i_tt_constant,hn,h2,h3,h4,must_D,constR,TR.out]
     · simp [IP_tt_constant,i_tt_constant,hn,h1,h2,h3,must_D,constR,TR.out]
   · simp [IP_tt_constant,i_tt_constant,hn,h1,h2,must_D,constR,TR.out]
set_option maxHeartbeats 1000000 in
theorem leafT_D (s:List UInt8) (h0:s ≠ []) (hs:s.length ≤ 140737488355328) : callD G0 IP n_tt_leaf [.str s] hp lo false = some ((leafR s).out hp) := by
 rw [callD_eq]
 have hc := fun hp lo q => cut1_D (hp := hp) (lo := lo) q s (by omega) 58
 have hl1 : (cutB s 58).1.length ≤ 140737488355328 := by
   unfold cutB; split
   · simp only [List.length_take]; omega
   · simp only; omega
 have hl2 : (cutB s 58).2.1.length ≤ 140737488355328 := by
   unfold cutB; split
   · simp only [List.length_drop]; omega
   · simp
 have hn := fun hp lo q => ttNumeral_D (hp := hp) (lo := lo) q (cutB s 58).2.1 hl2
 have hb := numE_bd (cutB s 58).2.1
 have hk := fun (hp:List HObj) (lo:Nat) => constant_D (hp := hp) (lo := lo) (cutB s 58).1 hl1 (numE (cutB s 58).2.1).1 (numE (cutB s 58).2.1).2 hb.1
 have hL : leafR s = if (cutB s 58).2.2 = false ∨ (numE (cutB s 58).2.1).2 = 6 then .err 6 else
   if 48 ≤ bt s 0 ∧ bt s 0 ≤ 57 then constR (cutB s 58).1 (numE (cutB s 58).2.1).1 (numE (cutB s 58).2.1).2 else
   if nameOk (leafNm (cutB s 58).1) = false then .err 5 else
   if ¬ ((numE (cutB s 58).2.1).2 = 0 ∧ (numE (cutB s 58).2.1).1 ≤ 64) then .err 2 else
   .ok (.mk (leafOp (cutB s 58).1) (numE (cutB s 58).2.1).1 0 (leafNm (cutB s 58).1) true []) := rfl
 obtain ⟨c,h4,hbt⟩ := bt_some (s := s) (i := 0) (by cases s; exact absurd rfl h0; simp)
 have h4' : s.head? = some c := by rw [List.head?_eq_getElem?]; exact h4
 rw [hL,hbt]
 generalize hcl : (cutB s 58).1 = l at *
 generalize hcr : (cutB s 58).2.1 = r at *
 generalize hcf : (cutB s 58).2.2 = f at *
 cases f with
 | false => simp [IP_tt_leaf,i_tt_leaf,hc,hn,must_D,TR.out]
 | true =>
   by_cases h1 : (numE r).2 = 6
   · simp [IP_tt_leaf,i_tt_leaf,hc,hn,must_D,TR.out,h1]
   · by_cases hd : 48 ≤ (c.toNat : Int) ∧ (c.toNat : Int) ≤ 57
     · rw [if_neg (by simp [h1]),if_pos hd]
       cases hx : constR l (numE r).1 (numE r).2 with
       | ok t => rw [hx] at hk; simp [TR.out] at hk; simp [IP_tt_leaf,i_tt_leaf,hc,hn,must_D,TR.out,h1,hd.1,hd.2,h4,hk,T.av_eq]
       | err e => rw [hx] at hk; simp [TR.out] at hk; simp [IP_tt_leaf,i_tt_leaf,hc,hn,must_D,TR.out,h1,hd.1,hd.2,h4,hk]
     · rw [if_neg (by simp [h1]),if_neg hd]
       have hd' : (48 ≤ (c.toNat : Int) ∧ ¬ (c.toNat : Int) ≤ 57) ∨ ¬ 48 ≤ (c.toNat : Int) := by omega
       have hr := numE_code r
       rcases leaf_kind l with ⟨l',rfl⟩ | ⟨l',rfl⟩ | ⟨k1,k2,k3,k4⟩
       · have k1 : hasPre (63 :: l') [63] = true := by simp [hasPre]
         have k3 : leafOp (63 :: l') = 24 := rfl
         have k4 : leafNm (63 :: l') = l' := rfl
         have hm := fun hp lo q => name_D (hp := hp) (lo := lo) q l' (by simp at hl1; omega)
         rw [k3,k4]
         cases hN : nameOk l' with
         | false =>
           rcases hd' with ⟨d1,d2⟩ | d1
           · simp [IP_tt_leaf,i_tt_leaf,hc,hn,must_D,hasPre_D,hm,TR.out,h1,h4,k1,d1,d2,hN]
           · simp [IP_tt_leaf,i_tt_leaf,hc,hn,must_D,hasPre_D,hm,TR.out,h1,h4,k1,d1,hN]
         | true =>
           by_cases h5 : (numE r).2 = 0
           · by_cases h6 : (numE r).1 ≤ 64
             · have e1 : IntKind.wrap .i64 (numE r).1 = (numE r).1 := wrap_small (by omega) (by omega)
               rcases hd' with ⟨d1,d2⟩ | d1
               · simp [IP_tt_leaf,i_tt_leaf,hc,hn,must_D,hasPre_D,hm,TR.out,h1,h4,k1,d1,d2,hN,h5,h6,e1,T.av,T.avs,ownB]
               · simp [IP_tt_leaf,i_tt_leaf,hc,hn,must_D,hasPre_D,hm,TR.out,h1,h4,k1,d1,hN,h5,h6,e1,T.av,T.avs,ownB]
             · rcases hd' with ⟨d1,d2⟩ | d1
               · simp [IP_tt_leaf,i_tt_leaf,hc,hn,must_D,hasPre_D,hm,TR.out,h1,h4,k1,d1,d2,hN,h5,h6]
               · simp [IP_tt_leaf,i_tt_leaf,hc,hn,must_D,hasPre_D,hm,TR.out,h1,h4,k1,d1,hN,h5,h6]
           · rcases hd' with ⟨d1,d2⟩ | d1
             · simp [IP_tt_leaf,i_tt_leaf,hc,hn,must_D,hasPre_D,hm,TR.out,h1,h4,k1,d1,d2,hN,h5]
             · simp [IP_tt_leaf,i_tt_leaf,hc,hn,must_D,hasPre_D,hm,TR.out,h1,h4,k1,d1,hN,h5]
       · have k1 : hasPre (35 :: l') [63] = false := by simp [hasPre]
         have k2 : hasPre (35 :: l') [35] = true := by simp [hasPre]
         have k3 : leafOp (35 :: l') = 25 := rfl
         have k4 : leafNm (35 :: l') = l' := rfl
         have hm := fun hp lo q => name_D (hp := hp) (lo := lo) q l' (by simp at hl1; omega)
         rw [k3,k4]
         cases hN : nameOk l' with
         | false =>
           rcases hd' with ⟨d1,d2⟩ | d1
           · simp [IP_tt_leaf,i_tt_leaf,hc,hn,must_D,hasPre_D,hm,TR.out,h1,h4,k1,k2,d1,d2,hN]
           · simp [IP_tt_leaf,i_tt_leaf,hc,hn,must_D,hasPre_D,hm,TR.out,h1,h4,k1,k2,d1,hN]
         | true =>
           by_cases h5 : (numE r).2 = 0
           · by_cases h6 : (numE r).1 ≤ 64
             · have e1 : IntKind.wrap .i64 (numE r).1 = (numE r).1 := wrap_small (by omega) (by omega)
               rcases hd' with ⟨d1,d2⟩ | d1
               · simp [IP_tt_leaf,i_tt_leaf,hc,hn,must_D,hasPre_D,hm,TR.out,h1,h4,k1,k2,d1,d2,hN,h5,h6,e1,T.av,T.avs,ownB]
               · simp [IP_tt_leaf,i_tt_leaf,hc,hn,must_D,hasPre_D,hm,TR.out,h1,h4,k1,k2,d1,hN,h5,h6,e1,T.av,T.avs,ownB]
             · rcases hd' with ⟨d1,d2⟩ | d1
               · simp [IP_tt_leaf,i_tt_leaf,hc,hn,must_D,hasPre_D,hm,TR.out,h1,h4,k1,k2,d1,d2,hN,h5,h6]
               · simp [IP_tt_leaf,i_tt_leaf,hc,hn,must_D,hasPre_D,hm,TR.out,h1,h4,k1,k2,d1,hN,h5,h6]
           · rcases hd' with ⟨d1,d2⟩ | d1
             · simp [IP_tt_leaf,i_tt_leaf,hc,hn,must_D,hasPre_D,hm,TR.out,h1,h4,k1,k2,d1,d2,hN,h5]
             · simp [IP_tt_leaf,i_tt_leaf,hc,hn,must_D,hasPre_D,hm,TR.out,h1,h4,k1,k2,d1,hN,h5]
       · have hm := fun (hp:List HObj) (lo:Nat) (q:Bool) => name_D (hp := hp) (lo := lo) q l (by omega)
         rw [k3,k4]
         cases hN : nameOk l with
         | false =>
           rcases hd' with ⟨d1,d2⟩ | d1
           · simp [IP_tt_leaf,i_tt_leaf,hc,hn,must_D,hasPre_D,hm,TR.out,h1,h4,k1,k2,d1,d2,hN]
           · simp [IP_tt_leaf,i_tt_leaf,hc,hn,must_D,hasPre_D,hm,TR.out,h1,h4,k1,k2,d1,hN]
         | true =>
           by_cases h5 : (numE r).2 = 0
           · by_cases h6 : (numE r).1 ≤ 64
             · have e1 : IntKind.wrap .i64 (numE r).1 = (numE r).1 := wrap_small (by omega) (by omega)
               rcases hd' with ⟨d1,d2⟩ | d1
               · simp [IP_tt_leaf,i_tt_leaf,hc,hn,must_D,hasPre_D,hm,TR.out,h1,h4,k1,k2,d1,d2,hN,h5,h6,e1,T.av,T.avs,ownB]
               · simp [IP_tt_leaf,i_tt_leaf,hc,hn,must_D,hasPre_D,hm,TR.out,h1,h4,k1,k2,d1,hN,h5,h6,e1,T.av,T.avs,ownB]
             · rcases hd' with ⟨d1,d2⟩ | d1
               · simp [IP_tt_leaf,i_tt_leaf,hc,hn,must_D,hasPre_D,hm,TR.out,h1,h4,k1,k2,d1,d2,hN,h5,h6]
               · simp [IP_tt_leaf,i_tt_leaf,hc,hn,must_D,hasPre_D,hm,TR.out,h1,h4,k1,k2,d1,hN,h5,h6]
           · rcases hd' with ⟨d1,d2⟩ | d1
             · simp [IP_tt_leaf,i_tt_leaf,hc,hn,must_D,hasPre_D,hm,TR.out,h1,h4,k1,k2,d1,d2,hN,h5]
             · simp [IP_tt_leaf,i_tt_leaf,hc,hn,must_D,hasPre_D,hm,TR.out,h1,h4,k1,k2,d1,hN,h5]
end
end Go.Proofs.YtkofimhnehkdoaaGreatDoor.Rf
end
section
namespace Go.Proofs.YtkofimhnehkdoaaGreatDoor.Rf
section
variable {H:Type} {P:Program}
theorem HasTy.str {n:Nat} {t:TypeId} {cs:List AV} {d:DataW H} (hu:P.underlying t = some .string) (h:HasTy P n t cs d) : ∃ s,cs = [.str s] ∧ s.length ≤ 9223372036854775807 := by
 cases n with
 | zero => exact h.elim
 | succ n => simp only [HasTy,hu] at h; obtain ⟨m,h1,h2,_⟩ := h; exact ⟨m,h1,h2⟩
theorem HasTy.bool {n:Nat} {t:TypeId} {cs:List AV} {d:DataW H} (hu:P.underlying t = some .bool) (h:HasTy P n t cs d) : ∃ s,cs = [.bool s] := by
 cases n with
 | zero => exact h.elim
 | succ n => simp only [HasTy,hu] at h; obtain ⟨m,h1,h2⟩ := h; exact ⟨m,h1⟩
theorem HasTy.slice {α:Type} {n:Nat} {t e:TypeId} {cs:List AV} {d:DataW H} (f:α → AV) (w:α → Prop) (hu:P.underlying t = some (.slice e)) (h:HasTy P n t cs d)
   (he:∀ m,m < n → ∀ ds (d' : DataW H),HasTy P m e ds d' → ∃ x,elemAV P e ds = f x ∧ w x) :
   ∃ (o:Bool) (l:List α),cs = [.list (l.map f) (ownB o)] ∧ (o = true → l = []) ∧ l.length ≤ 9223372036854775807 ∧ ∀ x,x ∈ l → w x := by
 cases n with
 | zero => exact h.elim
 | succ n =>
   simp only [HasTy,hu] at h
   rcases h with ⟨rfl,_⟩ | ⟨xs,els,rest,rfl,_,h1,h2,h3⟩
   · exact ⟨true,[],rfl,fun _ => rfl,by simp,by simp⟩
   · have : ∀ (xs:List AV) (els:List (DataW H)),xs.length = els.length → (∀ (i:Nat) x d',xs[i]? = some x → els[i]? = some d' → ∃ ds,x = elemAV P e ds ∧ HasTy P n e ds d') → ∃ l : List α,xs = l.map f ∧ ∀ x,x ∈ l → w x := by
       intro xs
       induction xs with
       | nil => intro els _ _; exact ⟨[],rfl,by simp⟩
       | cons x xs ih =>
         intro els hl hh
         cases els with
         | nil => simp at hl
         | cons y els =>
           obtain ⟨ds,e1,e2⟩ := hh 0 x y rfl rfl
           obtain ⟨a,f1,f2⟩ := he n (by omega) ds y e2
           obtain ⟨l,l1,l2⟩ := ih els (by simpa using hl) fun i x d' a b => hh (i + 1) x d' (by simpa using a) (by simpa using b)
           exact ⟨a :: l,by simp [e1,f1,l1],fun z hz => by
             rcases List.mem_cons.1 hz with e | hz
             · rw [e]; exact f2
             · exact l2 z hz⟩
     obtain ⟨l,l1,l2⟩ := this xs els h1 h3
     subst l1
     have hm : maxLen = 9223372036854775807 := rfl
     rw [hm] at h2
     exact ⟨false,l,rfl,by simp,by simpa using h2,l2⟩
theorem HasTy.fields {n:Nat} {t:TypeId} {fs:Array Field} {cs:List AV} {d:DataW H} (hu:P.underlying t = some (.struct fs)) (h:HasTy P n t cs d) :
   ∃ parts : List (List AV),cs = parts.flatten ∧ parts.length = fs.size ∧ ∀ (i:Nat) f ds,fs[i]? = some f → parts[i]? = some ds → ∃ m,∃ d' : DataW H,m < n ∧ HasTy P m f.type ds d' := by
 cases n with
 | zero => exact h.elim
 | succ n =>
   simp only [HasTy,hu] at h
   obtain ⟨parts,els,rfl,_,h1,h2,h3⟩ := h
   refine ⟨parts,rfl,h1,fun i f ds a b => ?_⟩
   have : i < els.length := by rw [h2,← h1]; exact (List.getElem?_eq_some_iff.1 b).1
   exact ⟨n,els[i],by omega,h3 i f ds _ a b (List.getElem?_eq_getElem this)⟩
theorem HasTy.term {tt ts a b c e:TypeId} {fs:Array Field} (hu:P.underlying tt = some (.struct fs)) (hf:fs.toList.map Field.type = [a,b,c,e,ts])
   (ha:P.underlying a = some (.int .i64)) (hb:P.underlying b = some (.int .i64)) (hc:P.underlying c = some (.int .u64)) (he:P.underlying e = some .string) (hs:P.underlying ts = some (.slice tt)) :
   ∀ n cs (d:DataW H),HasTy P n tt cs d → ∃ t : T,cs = t.cells ∧ t.wf := by
 intro n
 induction n using Nat.strongRecOn with
 | _ n ih =>
   intro cs d h
   obtain ⟨parts,rfl,hl,hp⟩ := h.fields hu
   have hsz : fs.size = 5 := by have := congrArg List.length hf; simpa using this
   rw [hsz] at hl
   match parts,hl with
   | [p0,p1,p2,p3,p4],_ =>
     have g : ∀ (i:Nat) ds x,[p0,p1,p2,p3,p4][i]? = some ds → [a,b,c,e,ts][i]? = some x → ∃ m,∃ d' : DataW H,m < n ∧ HasTy P m x ds d' := by
       intro i ds x h1 h2
       rw [← hf] at h2
       simp only [List.getElem?_map,Array.getElem?_toList,Option.map_eq_some_iff] at h2
       obtain ⟨f,f1,f2⟩ := h2
       obtain ⟨m,d',m1,m2⟩ := hp i f ds f1 h1
       exact ⟨m,d',m1,f2 ▸ m2⟩
     obtain ⟨m0,d0,_,q0⟩ := g 0 _ _ rfl rfl
     obtain ⟨m1,d1,_,q1⟩ := g 1 _ _ rfl rfl
     obtain ⟨m2,d2,_,q2⟩ := g 2 _ _ rfl rfl
     obtain ⟨m3,d3,_,q3⟩ := g 3 _ _ rfl rfl
     obtain ⟨m4,d4,k4,q4⟩ := g 4 _ _ rfl rfl
     obtain ⟨x0,rfl,w0⟩ := q0.int ha
     obtain ⟨x1,rfl,w1⟩ := q1.int hb
     obtain ⟨x2,rfl,w2⟩ := q2.int hc
     obtain ⟨x3,rfl,w3⟩ := q3.str he
     obtain ⟨o,l,rfl,o1,l1,l2⟩ := q4.slice T.av T.wf hs fun m hm ds d' h => by
       obtain ⟨x,x1,x2⟩ := ih m (by omega) ds d' h
       exact ⟨x,by unfold elemAV aggTy; rw [hu,x1,T.av_eq]; rfl,x2⟩
     refine ⟨.mk x0 x1 x2 x3 o l,?_,?_⟩
     · simp [T.cells,T.op,T.width,T.val,T.name,T.o,T.args,T.avs_eq]
     · rw [T.wf_eq]; exact ⟨w0,w1,w2,w3,l1,o1,l2⟩
theorem ArgTy.term {tt ts a b c e:TypeId} {fs:Array Field} {v:AV} {d:DataW H} (hu:P.underlying tt = some (.struct fs)) (hf:fs.toList.map Field.type = [a,b,c,e,ts])
   (ha:P.underlying a = some (.int .i64)) (hb:P.underlying b = some (.int .i64)) (hc:P.underlying c = some (.int .u64)) (he:P.underlying e = some .string) (hs:P.underlying ts = some (.slice tt))
   (h:ArgTy P tt v d) : ∃ t : T,v = t.av ∧ t.wf := by
 obtain ⟨n,cs,rfl,h⟩ := h
 obtain ⟨x,x1,x2⟩ := HasTy.term hu hf ha hb hc he hs n cs d h
 exact ⟨x,by unfold elemAV aggTy; rw [hu,x1,T.av_eq]; rfl,x2⟩
theorem ArgTy.array {α:Type} {t e:TypeId} {m:Nat} {v:AV} {d:DataW H} (f:α → List AV) (w:α → Prop) (hu:P.underlying t = some (.array m e)) (h:ArgTy P t v d)
   (he:∀ n ds (d' : DataW H),HasTy P n e ds d' → ∃ x,ds = f x ∧ w x) : ∃ l : List α,l.length = m ∧ v = .agg (l.map f).flatten ∧ ∀ x,x ∈ l → w x := by
 obtain ⟨n,cs,rfl,h⟩ := h
 cases n with
 | zero => exact h.elim
 | succ n =>
   simp only [HasTy,hu] at h
   obtain ⟨parts,els,rfl,_,h1,h2,h3⟩ := h
   have : ∀ (xs:List (List AV)) (els:List (DataW H)),xs.length = els.length → (∀ (i:Nat) x d',xs[i]? = some x → els[i]? = some d' → HasTy P n e x d') → ∃ l : List α,xs = l.map f ∧ ∀ x,x ∈ l → w x := by
     intro xs
     induction xs with
     | nil => intro els _ _; exact ⟨[],rfl,by simp⟩
     | cons x xs ih =>
       intro els hl hh
       cases els with
       | nil => simp at hl
       | cons y els =>
         obtain ⟨a,f1,f2⟩ := he n x y (hh 0 x y rfl rfl)
         obtain ⟨l,l1,l2⟩ := ih els (by simpa using hl) fun i x d' a b => hh (i + 1) x d' (by simpa using a) (by simpa using b)
         exact ⟨a :: l,by simp [f1,l1],fun z hz => by
           rcases List.mem_cons.1 hz with e | hz
           · rw [e]; exact f2
           · exact l2 z hz⟩
   obtain ⟨l,l1,l2⟩ := this parts els (by omega) h3
   subst l1
   refine ⟨l,by simpa using h1,?_,l2⟩
   unfold elemAV aggTy; rw [hu]; rfl
end
end Go.Proofs.YtkofimhnehkdoaaGreatDoor.Rf
end
section
namespace Go.Proofs.YtkofimhnehkdoaaGreatDoor.Rf
inductive S where
 | mk (atom:List UInt8) (o:Bool) (list:List S)
namespace S
def atom : S → List UInt8 | .mk a _ _ => a
def o : S → Bool | .mk _ a _ => a
def list : S → List S | .mk _ _ a => a
end S
mutual
def S.av : S → AV
 | .mk a o l => .agg [.str a,.list (S.avs l) (ownB o)]
def S.avs : List S → List AV
 | [] => []
 | t :: r => t.av :: S.avs r
end
theorem S.av_eq (t:S) : t.av = .agg [.str t.atom,.list (S.avs t.list) (ownB t.o)] := by cases t; rfl
theorem S.avs_eq : ∀ l : List S,S.avs l = l.map S.av
 | [] => rfl
 | t :: r => by simp [S.avs,S.avs_eq r]
@[simp] theorem S.avs_len (l:List S) : (S.avs l).length = l.length := by simp [S.avs_eq]
@[simp] theorem S.avs_nil : S.avs [] = [] := rfl
@[simp] theorem S.avs_getElem {l:List S} {i:Nat} (h:i < (S.avs l).length) : (S.avs l)[i] = (l[i]'(by simpa using h)).av := by simp [S.avs_eq]
theorem S.avs_app (a b:List S) : S.avs (a ++ b) = S.avs a ++ S.avs b := by simp [S.avs_eq]
mutual
def S.wf : S → Prop
 | .mk a o l => a.length ≤ 9223372036854775807 ∧ l.length ≤ 9223372036854775807 ∧ (o = true → l = []) ∧ S.wfs l
def S.wfs : List S → Prop
 | [] => True
 | t :: r => t.wf ∧ S.wfs r
end
theorem S.wfs_iff : ∀ l : List S,S.wfs l ↔ ∀ t,t ∈ l → t.wf
 | [] => by simp [S.wfs]
 | t :: r => by simp [S.wfs,S.wfs_iff r]
theorem S.wf_eq (t:S) : t.wf ↔ t.atom.length ≤ 9223372036854775807 ∧ t.list.length ≤ 9223372036854775807 ∧ (t.o = true → t.list = []) ∧ ∀ u,u ∈ t.list → u.wf := by
 cases t; simp only [S.wf,S.atom,S.list,S.o,S.wfs_iff]
mutual
def S.same : S → S → Bool
 | .mk a _ l,.mk a' _ l' => a == a' && S.sames l l'
def S.sames : List S → List S → Bool
 | [],[] => true
 | t :: r,u :: s => t.same u && S.sames r s
 | [],_ :: _ => false
 | _ :: _,[] => false
end
theorem S.same_eq (t u:S) : t.same u = (t.atom == u.atom && S.sames t.list u.list) := by cases t; cases u; rfl
theorem S.sames_eq : ∀ (as bs:List S) (h:as.length = bs.length),S.sames as bs = !(List.range as.length).any fun i => !(as.getD i (.mk [] true [])).same (bs.getD i (.mk [] true []))
 | [],[],_ => rfl
 | t :: r,u :: s,h => by
   rw [S.sames,S.sames_eq r s (by simpa using h),List.length_cons,List.range_succ_eq_map]
   simp [List.any_map,Function.comp_def]
 | [],_ :: _,h => by simp at h
 | _ :: _,[],h => by simp at h
theorem S.sames_len : ∀ (as bs:List S),as.length ≠ bs.length → S.sames as bs = false
 | [],[],h => by simp at h
 | t :: r,u :: s,h => by rw [S.sames,S.sames_len r s (by simpa using h),Bool.and_false]
 | [],_ :: _,h => rfl
 | _ :: _,[],h => rfl
theorem S.ind {p:S → Prop} (h:∀ t : S,(∀ u,u ∈ t.list → p u) → p t) (t:S) : p t :=
 S.rec (motive_1 := p) (motive_2 := fun l => ∀ u,u ∈ l → p u) (fun a b c ih => h _ ih) (fun u hu => by simp at hu)
   (fun t r h1 h2 u hu => by
     rcases List.mem_cons.1 hu with e | hu
     · rw [e]; exact h1
     · exact h2 u hu) t
theorem S.same_refl (t:S) : t.same t = true := by
 induction t using S.ind with | h t ih =>
 have : ∀ l : List S,(∀ u,u ∈ l → u.same u = true) → S.sames l l = true := by
   intro l
   induction l with
   | nil => intro _; rfl
   | cons x r ihl => intro h; simp only [S.sames,h x (by simp),Bool.true_and]; exact ihl fun u hu => h u (by simp [hu])
 rw [S.same_eq,this t.list ih]; simp
theorem S.sames_refl (l:List S) : S.sames l l = true := by
 induction l with
 | nil => rfl
 | cons x r ih => simp only [S.sames,S.same_refl x,ih,Bool.true_and]
section
variable {H:Type} {P:Program}
theorem ArgTy.str {t:TypeId} {v:AV} {d:DataW H} (hu:P.underlying t = some .string) (h:ArgTy P t v d) : ∃ s,v = .str s ∧ s.length ≤ 9223372036854775807 := by
 obtain ⟨n,cs,rfl,h⟩ := h
 obtain ⟨m,rfl,hm⟩ := h.str hu
 exact ⟨m,by unfold elemAV aggTy; rw [hu]; rfl,hm⟩
end
end Go.Proofs.YtkofimhnehkdoaaGreatDoor.Rf
end
