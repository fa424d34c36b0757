/- A part of the proof: see the last text. -/
import Derived.Test.YtkofimhnehkdoaaGreatDoorRqG19
import Derived.Test.YtkofimhnehkdoaaGreatDoorRqG18
import Derived.Test.YtkofimhnehkdoaaGreatDoorRqG17
set_option linter.unusedVariables false
set_option linter.unusedSimpArgs false
section
namespace Go.Proofs.YtkofimhnehkdoaaGreatDoor.Rf
section
variable {hp:List HObj} {lo:Nat} (q:Bool)
def wfr (op w v:Int) (as:List Int) (o:Own) (i:Nat) : Fr := [(0,.int .i64 op),(1,.int .i64 w),(2,.int .u64 v),(3,.list (as.map (AV.int .i64)) o),(22,.list (as.map (AV.int .i64)) o.cp),(23,.int .i64 as.length),(24,.int .i64 i)]
theorem width_loop (op w v:Int) (as:List Int) (o:Own) (ha:as.length ≤ 9223372036854775807) (hp:List HObj) (lo:Nat) : loopD G0 IP lo l_oi_Width_0 ⟨wfr op w v as o 0,hp⟩ =
   some (if as.all insE = false then (.ret,⟨[(8,.int .i64 0),(9,.int .i64 3)],hp⟩) else (.exit 0,⟨wfr op w v as o as.length ++ [(25,.bool false)],hp⟩)) := by
 have hloop := loop_find (G := G0) (IP := IP) (lo := lo) (b := l_oi_Width_0)
   (fun i => ⟨wfr op w v as o i,hp⟩) as.length (fun i => !insE (as.getD i 0))
   (.ret,⟨[(8,.int .i64 0),(9,.int .i64 3)],hp⟩)
   (.exit 0,⟨wfr op w v as o as.length ++ [(25,.bool false)],hp⟩)
   (fun i hi hp => by
     have hw := wrap_succ hi ha
     simp [List.getD,hi] at hp
     simp only [wfr]
     rw [← hw]
     simp [l_oi_Width_0,hi,inside_D,hp])
   (fun i hi hp => by
     simp [List.getD,hi] at hp
     simp [l_oi_Width_0,wfr,hi,inside_D,hp])
   (by simp) (by simp [l_oi_Width_0,wfr]) (by simp)
 rw [any_ins] at hloop
 rw [hloop]
 cases as.all insE <;> rfl
theorem width_bad (op w v:Int) (as:List Int) (o:Own) (h:opOk op = false ∨ (as.length : Int) ≠ arE op) : callD G0 IP n_oi_Width [.int .i64 op,.int .i64 w,.int .u64 v,.list (as.map (AV.int .i64)) o] hp lo q = some (.ret (.tup [.int .i64 0,.int .i64 4]) hp) := by
 rw [callD_eq]
 cases hk : opOk op with
 | false => simp [IP_oi_Width,i_oi_Width,known_D,hk]
 | true =>
   have hl : ¬ (as.length : Int) = arE op := by rcases h with h | h; rw [h] at hk; cases hk; exact h
   simp [IP_oi_Width,i_oi_Width,known_D,arity_D,hk,hl]
theorem width_out (op w v:Int) (as:List Int) (o:Own) (ha:as.length ≤ 9223372036854775807) (hk:opOk op = true) (hl:(as.length : Int) = arE op) (hall:as.all insE = false) : callD G0 IP n_oi_Width [.int .i64 op,.int .i64 w,.int .u64 v,.list (as.map (AV.int .i64)) o] hp lo q = some (.ret (.tup [.int .i64 0,.int .i64 3]) hp) := by
 rw [callD_eq]
 have hloop := width_loop op w v as o ha hp hp.length
 rw [if_pos hall] at hloop
 simp only [wfr,Int.natCast_zero,hl] at hloop
 simp [IP_oi_Width,i_oi_Width,known_D,arity_D,hk,hl,hloop]
theorem width_1 (w v:Int) (hv:0 ≤ v)  (o:Own) (hall:List.all [] insE = true) : callD G0 IP n_oi_Width [.int .i64 1,.int .i64 w,.int .u64 v,.list (([] : List Int).map (AV.int .i64)) o] hp lo q =
   some (.ret (.tup [.int .i64 (leafE 1 w v).1,.int .i64 (leafE 1 w v).2]) hp) := by
 rw [callD_eq]
 have hloop := width_loop 1 w v [] o (by simp) hp hp.length
 rw [if_neg (by simp [hall])] at hloop
 simp [wfr] at hloop
 have hk : opOk 1 = true := rfl
 have hb : arE 1 = 0 := rfl
 have e := fun hp lo q => opLeafW_D (hp := hp) (lo := lo) q 1 w v hv
 simp [IP_oi_Width,i_oi_Width,known_D,arity_D,hk,hb,hloop,e]
theorem width_2 (w v:Int) (hv:0 ≤ v)  (o:Own) (hall:List.all [] insE = true) : callD G0 IP n_oi_Width [.int .i64 2,.int .i64 w,.int .u64 v,.list (([] : List Int).map (AV.int .i64)) o] hp lo q =
   some (.ret (.tup [.int .i64 (leafE 2 w v).1,.int .i64 (leafE 2 w v).2]) hp) := by
 rw [callD_eq]
 have hloop := width_loop 2 w v [] o (by simp) hp hp.length
 rw [if_neg (by simp [hall])] at hloop
 simp [wfr] at hloop
 have hk : opOk 2 = true := rfl
 have hb : arE 2 = 0 := rfl
 have e := fun hp lo q => opLeafW_D (hp := hp) (lo := lo) q 2 w v hv
 simp [IP_oi_Width,i_oi_Width,known_D,arity_D,hk,hb,hloop,e]
theorem width_24 (w v:Int) (hv:0 ≤ v)  (o:Own) (hall:List.all [] insE = true) : callD G0 IP n_oi_Width [.int .i64 24,.int .i64 w,.int .u64 v,.list (([] : List Int).map (AV.int .i64)) o] hp lo q =
   some (.ret (.tup [.int .i64 (leafE 24 w v).1,.int .i64 (leafE 24 w v).2]) hp) := by
 rw [callD_eq]
 have hloop := width_loop 24 w v [] o (by simp) hp hp.length
 rw [if_neg (by simp [hall])] at hloop
 simp [wfr] at hloop
 have hk : opOk 24 = true := rfl
 have hb : arE 24 = 0 := rfl
 have e := fun hp lo q => opLeafW_D (hp := hp) (lo := lo) q 24 w v hv
 simp [IP_oi_Width,i_oi_Width,known_D,arity_D,hk,hb,hloop,e]
theorem width_25 (w v:Int) (hv:0 ≤ v)  (o:Own) (hall:List.all [] insE = true) : callD G0 IP n_oi_Width [.int .i64 25,.int .i64 w,.int .u64 v,.list (([] : List Int).map (AV.int .i64)) o] hp lo q =
   some (.ret (.tup [.int .i64 (leafE 25 w v).1,.int .i64 (leafE 25 w v).2]) hp) := by
 rw [callD_eq]
 have hloop := width_loop 25 w v [] o (by simp) hp hp.length
 rw [if_neg (by simp [hall])] at hloop
 simp [wfr] at hloop
 have hk : opOk 25 = true := rfl
 have hb : arE 25 = 0 := rfl
 have e := fun hp lo q => opLeafW_D (hp := hp) (lo := lo) q 25 w v hv
 simp [IP_oi_Width,i_oi_Width,known_D,arity_D,hk,hb,hloop,e]
theorem width_3 (w v:Int) (hv:0 ≤ v) (a:Int) (o:Own) (hall:List.all [a] insE = true) : callD G0 IP n_oi_Width [.int .i64 3,.int .i64 w,.int .u64 v,.list (([a] : List Int).map (AV.int .i64)) o] hp lo q =
   some (.ret (.tup [.int .i64 (((a,0) : Int × Int)).1,.int .i64 (((a,0) : Int × Int)).2]) hp) := by
 rw [callD_eq]
 have hloop := width_loop 3 w v [a] o (by simp) hp hp.length
 rw [if_neg (by simp [hall])] at hloop
 simp [wfr] at hloop
 have hk : opOk 3 = true := rfl
 have hb : arE 3 = 1 := rfl
 simp [IP_oi_Width,i_oi_Width,known_D,arity_D,hk,hb,hloop]
theorem width_4 (w v:Int) (hv:0 ≤ v) (a:Int) (o:Own) (hall:List.all [a] insE = true) : callD G0 IP n_oi_Width [.int .i64 4,.int .i64 w,.int .u64 v,.list (([a] : List Int).map (AV.int .i64)) o] hp lo q =
   some (.ret (.tup [.int .i64 (((a,0) : Int × Int)).1,.int .i64 (((a,0) : Int × Int)).2]) hp) := by
 rw [callD_eq]
 have hloop := width_loop 4 w v [a] o (by simp) hp hp.length
 rw [if_neg (by simp [hall])] at hloop
 simp [wfr] at hloop
 have hk : opOk 4 = true := rfl
 have hb : arE 4 = 1 := rfl
 simp [IP_oi_Width,i_oi_Width,known_D,arity_D,hk,hb,hloop]
theorem width_26 (w v:Int) (hv:0 ≤ v) (a:Int) (o:Own) (hall:List.all [a] insE = true) : callD G0 IP n_oi_Width [.int .i64 26,.int .i64 w,.int .u64 v,.list (([a] : List Int).map (AV.int .i64)) o] hp lo q =
   some (.ret (.tup [.int .i64 (((a,0) : Int × Int)).1,.int .i64 (((a,0) : Int × Int)).2]) hp) := by
 rw [callD_eq]
 have hloop := width_loop 26 w v [a] o (by simp) hp hp.length
 rw [if_neg (by simp [hall])] at hloop
 simp [wfr] at hloop
 have hk : opOk 26 = true := rfl
 have hb : arE 26 = 1 := rfl
 simp [IP_oi_Width,i_oi_Width,known_D,arity_D,hk,hb,hloop]
theorem width_21 (w v:Int) (hv:0 ≤ v) (a:Int) (o:Own) (hall:List.all [a] insE = true) : callD G0 IP n_oi_Width [.int .i64 21,.int .i64 w,.int .u64 v,.list (([a] : List Int).map (AV.int .i64)) o] hp lo q =
   some (.ret (.tup [.int .i64 (resE 21 w v a).1,.int .i64 (resE 21 w v a).2]) hp) := by
 rw [callD_eq]
 have hloop := width_loop 21 w v [a] o (by simp) hp hp.length
 rw [if_neg (by simp [hall])] at hloop
 simp [wfr] at hloop
 have hk : opOk 21 = true := rfl
 have hb : arE 21 = 1 := rfl
 have ha64 : a ≤ 64 := by simp [insE] at hall; exact hall.2
 have e := fun hp lo q => resized_D (hp := hp) (lo := lo) q 21 w v a ha64 hv
 simp [IP_oi_Width,i_oi_Width,known_D,arity_D,hk,hb,hloop,e]
theorem width_22 (w v:Int) (hv:0 ≤ v) (a:Int) (o:Own) (hall:List.all [a] insE = true) : callD G0 IP n_oi_Width [.int .i64 22,.int .i64 w,.int .u64 v,.list (([a] : List Int).map (AV.int .i64)) o] hp lo q =
   some (.ret (.tup [.int .i64 (resE 22 w v a).1,.int .i64 (resE 22 w v a).2]) hp) := by
 rw [callD_eq]
 have hloop := width_loop 22 w v [a] o (by simp) hp hp.length
 rw [if_neg (by simp [hall])] at hloop
 simp [wfr] at hloop
 have hk : opOk 22 = true := rfl
 have hb : arE 22 = 1 := rfl
 have ha64 : a ≤ 64 := by simp [insE] at hall; exact hall.2
 have e := fun hp lo q => resized_D (hp := hp) (lo := lo) q 22 w v a ha64 hv
 simp [IP_oi_Width,i_oi_Width,known_D,arity_D,hk,hb,hloop,e]
theorem width_23 (w v:Int) (hv:0 ≤ v) (a:Int) (o:Own) (hall:List.all [a] insE = true) : callD G0 IP n_oi_Width [.int .i64 23,.int .i64 w,.int .u64 v,.list (([a] : List Int).map (AV.int .i64)) o] hp lo q =
   some (.ret (.tup [.int .i64 (resE 23 w v a).1,.int .i64 (resE 23 w v a).2]) hp) := by
 rw [callD_eq]
 have hloop := width_loop 23 w v [a] o (by simp) hp hp.length
 rw [if_neg (by simp [hall])] at hloop
 simp [wfr] at hloop
 have hk : opOk 23 = true := rfl
 have hb : arE 23 = 1 := rfl
 have ha64 : a ≤ 64 := by simp [insE] at hall; exact hall.2
 have e := fun hp lo q => resized_D (hp := hp) (lo := lo) q 23 w v a ha64 hv
 simp [IP_oi_Width,i_oi_Width,known_D,arity_D,hk,hb,hloop,e]
theorem width_19 (w v:Int) (hv:0 ≤ v) (a:Int) (b:Int) (c:Int) (o:Own) (hall:List.all [a,b,c] insE = true) : callD G0 IP n_oi_Width [.int .i64 19,.int .i64 w,.int .u64 v,.list (([a,b,c] : List Int).map (AV.int .i64)) o] hp lo q =
   some (.ret (.tup [.int .i64 (if a = 1 ∧ b = c then ((b,0) : Int × Int) else (0,3)).1,.int .i64 (if a = 1 ∧ b = c then ((b,0) : Int × Int) else (0,3)).2]) hp) := by
 rw [callD_eq]
 have hloop := width_loop 19 w v [a,b,c] o (by simp) hp hp.length
 rw [if_neg (by simp [hall])] at hloop
 simp [wfr] at hloop
 have hk : opOk 19 = true := rfl
 have hb : arE 19 = 3 := rfl
 by_cases h1 : a = 1
 · subst h1
   by_cases h2 : b = c
   · subst h2
     simp [IP_oi_Width,i_oi_Width,known_D,arity_D,hk,hb,hloop,agreed_D]
   · simp [IP_oi_Width,i_oi_Width,known_D,arity_D,hk,hb,hloop,agreed_D,h2]
 · simp [IP_oi_Width,i_oi_Width,known_D,arity_D,hk,hb,hloop,agreed_D,h1]
theorem width_20 (w v:Int) (hv:0 ≤ v) (a:Int) (b:Int) (o:Own) (hall:List.all [a,b] insE = true) : callD G0 IP n_oi_Width [.int .i64 20,.int .i64 w,.int .u64 v,.list (([a,b] : List Int).map (AV.int .i64)) o] hp lo q =
   some (.ret (.tup [.int .i64 (if 1 ≤ a ∧ 1 ≤ b ∧ a + b ≤ 64 then ((a + b,0) : Int × Int) else (0,3)).1,.int .i64 (if 1 ≤ a ∧ 1 ≤ b ∧ a + b ≤ 64 then ((a + b,0) : Int × Int) else (0,3)).2]) hp) := by
 rw [callD_eq]
 have hloop := width_loop 20 w v [a,b] o (by simp) hp hp.length
 rw [if_neg (by simp [hall])] at hloop
 simp [wfr] at hloop
 have hk : opOk 20 = true := rfl
 have hb : arE 20 = 2 := rfl
 have ha : 0 ≤ a ∧ a ≤ 64 ∧ 0 ≤ b ∧ b ≤ 64 := by simp [insE] at hall; omega
 have e1 : IntKind.wrap .i64 (a + b) = a + b := wrap_small (by omega) (by omega)
 by_cases h1 : 1 ≤ a
 · by_cases h2 : 1 ≤ b
   · by_cases h3 : a + b ≤ 64
     · simp [IP_oi_Width,i_oi_Width,known_D,arity_D,hk,hb,hloop,agreed_D,h1,h2,h3,e1]
     · simp [IP_oi_Width,i_oi_Width,known_D,arity_D,hk,hb,hloop,agreed_D,h1,h2,h3,e1]
   · simp [IP_oi_Width,i_oi_Width,known_D,arity_D,hk,hb,hloop,agreed_D,h1,h2,e1]
 · simp [IP_oi_Width,i_oi_Width,known_D,arity_D,hk,hb,hloop,agreed_D,h1,e1]
theorem width_16 (w v:Int) (hv:0 ≤ v) (a:Int) (b:Int) (o:Own) (hall:List.all [a,b] insE = true) : callD G0 IP n_oi_Width [.int .i64 16,.int .i64 w,.int .u64 v,.list (([a,b] : List Int).map (AV.int .i64)) o] hp lo q =
   some (.ret (.tup [.int .i64 (if a = b then ((1,0) : Int × Int) else (0,3)).1,.int .i64 (if a = b then ((1,0) : Int × Int) else (0,3)).2]) hp) := by
 rw [callD_eq]
 have hloop := width_loop 16 w v [a,b] o (by simp) hp hp.length
 rw [if_neg (by simp [hall])] at hloop
 simp [wfr] at hloop
 have hk : opOk 16 = true := rfl
 have hb : arE 16 = 2 := rfl
 by_cases h1 : a = b
 · subst h1
   simp [IP_oi_Width,i_oi_Width,known_D,arity_D,hk,hb,hloop,agreed_D]
 · simp [IP_oi_Width,i_oi_Width,known_D,arity_D,hk,hb,hloop,agreed_D,h1]
theorem width_17 (w v:Int) (hv:0 ≤ v) (a:Int) (b:Int) (o:Own) (hall:List.all [a,b] insE = true) : callD G0 IP n_oi_Width [.int .i64 17,.int .i64 w,.int .u64 v,.list (([a,b] : List Int).map (AV.int .i64)) o] hp lo q =
   some (.ret (.tup [.int .i64 (if a = b then ((1,0) : Int × Int) else (0,3)).1,.int .i64 (if a = b then ((1,0) : Int × Int) else (0,3)).2]) hp) := by
 rw [callD_eq]
 have hloop := width_loop 17 w v [a,b] o (by simp) hp hp.length
 rw [if_neg (by simp [hall])] at hloop
 simp [wfr] at hloop
 have hk : opOk 17 = true := rfl
 have hb : arE 17 = 2 := rfl
 by_cases h1 : a = b
 · subst h1
   simp [IP_oi_Width,i_oi_Width,known_D,arity_D,hk,hb,hloop,agreed_D]
 · simp [IP_oi_Width,i_oi_Width,known_D,arity_D,hk,hb,hloop,agreed_D,h1]
theorem width_18 (w v:Int) (hv:0 ≤ v) (a:Int) (b:Int) (o:Own) (hall:List.all [a,b] insE = true) : callD G0 IP n_oi_Width [.int .i64 18,.int .i64 w,.int .u64 v,.list (([a,b] : List Int).map (AV.int .i64)) o] hp lo q =
   some (.ret (.tup [.int .i64 (if a = b then ((1,0) : Int × Int) else (0,3)).1,.int .i64 (if a = b then ((1,0) : Int × Int) else (0,3)).2]) hp) := by
 rw [callD_eq]
 have hloop := width_loop 18 w v [a,b] o (by simp) hp hp.length
 rw [if_neg (by simp [hall])] at hloop
 simp [wfr] at hloop
 have hk : opOk 18 = true := rfl
 have hb : arE 18 = 2 := rfl
 by_cases h1 : a = b
 · subst h1
   simp [IP_oi_Width,i_oi_Width,known_D,arity_D,hk,hb,hloop,agreed_D]
 · simp [IP_oi_Width,i_oi_Width,known_D,arity_D,hk,hb,hloop,agreed_D,h1]
theorem width_5 (w v:Int) (hv:0 ≤ v) (a:Int) (b:Int) (o:Own) (hall:List.all [a,b] insE = true) : callD G0 IP n_oi_Width [.int .i64 5,.int .i64 w,.int .u64 v,.list (([a,b] : List Int).map (AV.int .i64)) o] hp lo q =
   some (.ret (.tup [.int .i64 (if a = b then ((a,0) : Int × Int) else (0,3)).1,.int .i64 (if a = b then ((a,0) : Int × Int) else (0,3)).2]) hp) := by
 rw [callD_eq]
 have hloop := width_loop 5 w v [a,b] o (by simp) hp hp.length
 rw [if_neg (by simp [hall])] at hloop
 simp [wfr] at hloop
 have hk : opOk 5 = true := rfl
 have hb : arE 5 = 2 := rfl
 by_cases h1 : a = b
 · subst h1
   simp [IP_oi_Width,i_oi_Width,known_D,arity_D,hk,hb,hloop,agreed_D]
 · simp [IP_oi_Width,i_oi_Width,known_D,arity_D,hk,hb,hloop,agreed_D,h1]
theorem width_6 (w v:Int) (hv:0 ≤ v) (a:Int) (b:Int) (o:Own) (hall:List.all [a,b] insE = true) : callD G0 IP n_oi_Width [.int .i64 6,.int .i64 w,.int .u64 v,.list (([a,b] : List Int).map (AV.int .i64)) o] hp lo q =
   some (.ret (.tup [.int .i64 (if a = b then ((a,0) : Int × Int) else (0,3)).1,.int .i64 (if a = b then ((a,0) : Int × Int) else (0,3)).2]) hp) := by
 rw [callD_eq]
 have hloop := width_loop 6 w v [a,b] o (by simp) hp hp.length
 rw [if_neg (by simp [hall])] at hloop
 simp [wfr] at hloop
 have hk : opOk 6 = true := rfl
 have hb : arE 6 = 2 := rfl
 by_cases h1 : a = b
 · subst h1
   simp [IP_oi_Width,i_oi_Width,known_D,arity_D,hk,hb,hloop,agreed_D]
 · simp [IP_oi_Width,i_oi_Width,known_D,arity_D,hk,hb,hloop,agreed_D,h1]
theorem width_7 (w v:Int) (hv:0 ≤ v) (a:Int) (b:Int) (o:Own) (hall:List.all [a,b] insE = true) : callD G0 IP n_oi_Width [.int .i64 7,.int .i64 w,.int .u64 v,.list (([a,b] : List Int).map (AV.int .i64)) o] hp lo q =
   some (.ret (.tup [.int .i64 (if a = b then ((a,0) : Int × Int) else (0,3)).1,.int .i64 (if a = b then ((a,0) : Int × Int) else (0,3)).2]) hp) := by
 rw [callD_eq]
 have hloop := width_loop 7 w v [a,b] o (by simp) hp hp.length
 rw [if_neg (by simp [hall])] at hloop
 simp [wfr] at hloop
 have hk : opOk 7 = true := rfl
 have hb : arE 7 = 2 := rfl
 by_cases h1 : a = b
 · subst h1
   simp [IP_oi_Width,i_oi_Width,known_D,arity_D,hk,hb,hloop,agreed_D]
 · simp [IP_oi_Width,i_oi_Width,known_D,arity_D,hk,hb,hloop,agreed_D,h1]
theorem width_8 (w v:Int) (hv:0 ≤ v) (a:Int) (b:Int) (o:Own) (hall:List.all [a,b] insE = true) : callD G0 IP n_oi_Width [.int .i64 8,.int .i64 w,.int .u64 v,.list (([a,b] : List Int).map (AV.int .i64)) o] hp lo q =
   some (.ret (.tup [.int .i64 (if a = b then ((a,0) : Int × Int) else (0,3)).1,.int .i64 (if a = b then ((a,0) : Int × Int) else (0,3)).2]) hp) := by
 rw [callD_eq]
 have hloop := width_loop 8 w v [a,b] o (by simp) hp hp.length
 rw [if_neg (by simp [hall])] at hloop
 simp [wfr] at hloop
 have hk : opOk 8 = true := rfl
 have hb : arE 8 = 2 := rfl
 by_cases h1 : a = b
 · subst h1
   simp [IP_oi_Width,i_oi_Width,known_D,arity_D,hk,hb,hloop,agreed_D]
 · simp [IP_oi_Width,i_oi_Width,known_D,arity_D,hk,hb,hloop,agreed_D,h1]
theorem width_9 (w v:Int) (hv:0 ≤ v) (a:Int) (b:Int) (o:Own) (hall:List.all [a,b] insE = true) : callD G0 IP n_oi_Width [.int .i64 9,.int .i64 w,.int .u64 v,.list (([a,b] : List Int).map (AV.int .i64)) o] hp lo q =
   some (.ret (.tup [.int .i64 (if a = b then ((a,0) : Int × Int) else (0,3)).1,.int .i64 (if a = b then ((a,0) : Int × Int) else (0,3)).2]) hp) := by
 rw [callD_eq]
 have hloop := width_loop 9 w v [a,b] o (by simp) hp hp.length
 rw [if_neg (by simp [hall])] at hloop
 simp [wfr] at hloop
 have hk : opOk 9 = true := rfl
 have hb : arE 9 = 2 := rfl
 by_cases h1 : a = b
 · subst h1
   simp [IP_oi_Width,i_oi_Width,known_D,arity_D,hk,hb,hloop,agreed_D]
 · simp [IP_oi_Width,i_oi_Width,known_D,arity_D,hk,hb,hloop,agreed_D,h1]
theorem width_10 (w v:Int) (hv:0 ≤ v) (a:Int) (b:Int) (o:Own) (hall:List.all [a,b] insE = true) : callD G0 IP n_oi_Width [.int .i64 10,.int .i64 w,.int .u64 v,.list (([a,b] : List Int).map (AV.int .i64)) o] hp lo q =
   some (.ret (.tup [.int .i64 (if a = b then ((a,0) : Int × Int) else (0,3)).1,.int .i64 (if a = b then ((a,0) : Int × Int) else (0,3)).2]) hp) := by
 rw [callD_eq]
 have hloop := width_loop 10 w v [a,b] o (by simp) hp hp.length
 rw [if_neg (by simp [hall])] at hloop
 simp [wfr] at hloop
 have hk : opOk 10 = true := rfl
 have hb : arE 10 = 2 := rfl
 by_cases h1 : a = b
 · subst h1
   simp [IP_oi_Width,i_oi_Width,known_D,arity_D,hk,hb,hloop,agreed_D]
 · simp [IP_oi_Width,i_oi_Width,known_D,arity_D,hk,hb,hloop,agreed_D,h1]
theorem width_11 (w v:Int) (hv:0 ≤ v) (a:Int) (b:Int) (o:Own) (hall:List.all [a,b] insE = true) : callD G0 IP n_oi_Width [.int .i64 11,.int .i64 w,.int .u64 v,.list (([a,b] : List Int).map (AV.int .i64)) o] hp lo q =
   some (.ret (.tup [.int .i64 (if a = b then ((a,0) : Int × Int) else (0,3)).1,.int .i64 (if a = b then ((a,0) : Int × Int) else (0,3)).2]) hp) := by
 rw [callD_eq]
 have hloop := width_loop 11 w v [a,b] o (by simp) hp hp.length
 rw [if_neg (by simp [hall])] at hloop
 simp [wfr] at hloop
 have hk : opOk 11 = true := rfl
 have hb : arE 11 = 2 := rfl
 by_cases h1 : a = b
 · subst h1
   simp [IP_oi_Width,i_oi_Width,known_D,arity_D,hk,hb,hloop,agreed_D]
 · simp [IP_oi_Width,i_oi_Width,known_D,arity_D,hk,hb,hloop,agreed_D,h1]
theorem width_12 (w v:Int) (hv:0 ≤ v) (a:Int) (b:Int) (o:Own) (hall:List.all [a,b] insE = true) : callD G0 IP n_oi_Width [.int .i64 12,.int .i64 w,.int .u64 v,.list (([a,b] : List Int).map (AV.int .i64)) o] hp lo q =
   some (.ret (.tup [.int .i64 (if a = b then ((a,0) : Int × Int) else (0,3)).1,.int .i64 (if a = b then ((a,0) : Int × Int) else (0,3)).2]) hp) := by
 rw [callD_eq]
 have hloop := width_loop 12 w v [a,b] o (by simp) hp hp.length
 rw [if_neg (by simp [hall])] at hloop
 simp [wfr] at hloop
 have hk : opOk 12 = true := rfl
 have hb : arE 12 = 2 := rfl
 by_cases h1 : a = b
 · subst h1
   simp [IP_oi_Width,i_oi_Width,known_D,arity_D,hk,hb,hloop,agreed_D]
 · simp [IP_oi_Width,i_oi_Width,known_D,arity_D,hk,hb,hloop,agreed_D,h1]
theorem width_13 (w v:Int) (hv:0 ≤ v) (a:Int) (b:Int) (o:Own) (hall:List.all [a,b] insE = true) : callD G0 IP n_oi_Width [.int .i64 13,.int .i64 w,.int .u64 v,.list (([a,b] : List Int).map (AV.int .i64)) o] hp lo q =
   some (.ret (.tup [.int .i64 (if a = b then ((a,0) : Int × Int) else (0,3)).1,.int .i64 (if a = b then ((a,0) : Int × Int) else (0,3)).2]) hp) := by
 rw [callD_eq]
 have hloop := width_loop 13 w v [a,b] o (by simp) hp hp.length
 rw [if_neg (by simp [hall])] at hloop
 simp [wfr] at hloop
 have hk : opOk 13 = true := rfl
 have hb : arE 13 = 2 := rfl
 by_cases h1 : a = b
 · subst h1
   simp [IP_oi_Width,i_oi_Width,known_D,arity_D,hk,hb,hloop,agreed_D]
 · simp [IP_oi_Width,i_oi_Width,known_D,arity_D,hk,hb,hloop,agreed_D,h1]
theorem width_14 (w v:Int) (hv:0 ≤ v) (a:Int) (b:Int) (o:Own) (hall:List.all [a,b] insE = true) : callD G0 IP n_oi_Width [.int .i64 14,.int .i64 w,.int .u64 v,.list (([a,b] : List Int).map (AV.int .i64)) o] hp lo q =
   some (.ret (.tup [.int .i64 (if a = b then ((a,0) : Int × Int) else (0,3)).1,.int .i64 (if a = b then ((a,0) : Int × Int) else (0,3)).2]) hp) := by
 rw [callD_eq]
 have hloop := width_loop 14 w v [a,b] o (by simp) hp hp.length
 rw [if_neg (by simp [hall])] at hloop
 simp [wfr] at hloop
 have hk : opOk 14 = true := rfl
 have hb : arE 14 = 2 := rfl
 by_cases h1 : a = b
 · subst h1
   simp [IP_oi_Width,i_oi_Width,known_D,arity_D,hk,hb,hloop,agreed_D]
 · simp [IP_oi_Width,i_oi_Width,known_D,arity_D,hk,hb,hloop,agreed_D,h1]
theorem width_15 (w v:Int) (hv:0 ≤ v) (a:Int) (b:Int) (o:Own) (hall:List.all [a,b] insE = true) : callD G0 IP n_oi_Width [.int .i64 15,.int .i64 w,.int .u64 v,.list (([a,b] : List Int).map (AV.int .i64)) o] hp lo q =
   some (.ret (.tup [.int .i64 (if a = b then ((a,0) : Int × Int) else (0,3)).1,.int .i64 (if a = b then ((a,0) : Int × Int) else (0,3)).2]) hp) := by
 rw [callD_eq]
 have hloop := width_loop 15 w v [a,b] o (by simp) hp hp.length
 rw [if_neg (by simp [hall])] at hloop
 simp [wfr] at hloop
 have hk : opOk 15 = true := rfl
 have hb : arE 15 = 2 := rfl
 by_cases h1 : a = b
 · subst h1
   simp [IP_oi_Width,i_oi_Width,known_D,arity_D,hk,hb,hloop,agreed_D]
 · simp [IP_oi_Width,i_oi_Width,known_D,arity_D,hk,hb,hloop,agreed_D,h1]
end
end Go.Proofs.YtkofimhnehkdoaaGreatDoor.Rf
end
section
namespace Go.Proofs.YtkofimhnehkdoaaGreatDoor.Rf
section
variable {hp:List HObj} {lo:Nat} (q:Bool)
end
end Go.Proofs.YtkofimhnehkdoaaGreatDoor.Rf
end
section
namespace Go.Proofs.YtkofimhnehkdoaaGreatDoor.Rf
theorem len0 {as:List Int} (h:(as.length : Int) = 0) : as = [] := List.eq_nil_of_length_eq_zero (by omega)
theorem len1 {as:List Int} (h:(as.length : Int) = 1) : ∃ a,as = [a] := by
 rcases as with _ | ⟨a,_ | ⟨b,r⟩⟩
 · simp at h
 · exact ⟨a,rfl⟩
 · simp at h; omega
theorem len2 {as:List Int} (h:(as.length : Int) = 2) : ∃ a b,as = [a,b] := by
 rcases as with _ | ⟨a,_ | ⟨b,_ | ⟨c,r⟩⟩⟩
 · simp at h
 · simp at h
 · exact ⟨a,b,rfl⟩
 · simp at h; omega
theorem len3 {as:List Int} (h:(as.length : Int) = 3) : ∃ a b c,as = [a,b,c] := by
 rcases as with _ | ⟨a,_ | ⟨b,_ | ⟨c,_ | ⟨d,r⟩⟩⟩⟩
 · simp at h
 · simp at h
 · simp at h
 · exact ⟨a,b,c,rfl⟩
 · simp at h; omega
theorem widE_in {op w v:Int} {as:List Int} (h:¬ (opOk op = false ∨ (as.length : Int) ≠ arE op)) (hall:as.all insE = true) : widE op w v as = (if op = 1 ∨ op = 2 ∨ op = 24 ∨ op = 25 then leafE op w v else
       if op = 3 ∨ op = 4 ∨ op = 26 then (as.getD 0 0,0) else
       if op = 21 ∨ op = 22 ∨ op = 23 then resE op w v (as.getD 0 0) else
       if op = 19 then (if as.getD 0 0 = 1 ∧ as.getD 1 0 = as.getD 2 0 then (as.getD 1 0,0) else (0,3)) else
       if op = 20 then (if 1 ≤ as.getD 0 0 ∧ 1 ≤ as.getD 1 0 ∧ as.getD 0 0 + as.getD 1 0 ≤ 64 then (as.getD 0 0 + as.getD 1 0,0) else (0,3)) else
       if op = 16 ∨ op = 17 ∨ op = 18 then (if as.getD 0 0 = as.getD 1 0 then (1,0) else (0,3)) else
       if as.getD 0 0 = as.getD 1 0 then (as.getD 0 0,0) else (0,3)) := by
 rw [widE,if_neg h,if_neg (by simp [hall])]
section
variable {hp:List HObj} {lo:Nat} (q:Bool)
theorem width_D (op w v:Int) (hv:0 ≤ v) (as:List Int) (o:Own) (ha:as.length ≤ 9223372036854775807) : callD G0 IP n_oi_Width [.int .i64 op,.int .i64 w,.int .u64 v,.list (as.map (AV.int .i64)) o] hp lo q =
   some (.ret (.tup [.int .i64 (widE op w v as).1,.int .i64 (widE op w v as).2]) hp) := by
 by_cases h : opOk op = false ∨ (as.length : Int) ≠ arE op
 · rw [width_bad q op w v as o h,widE,if_pos h]
 · have hk : opOk op = true := by cases hk : opOk op <;> simp_all
   have hl : (as.length : Int) = arE op := Decidable.byContradiction fun e => h (.inr e)
   cases hall : as.all insE with
   | false => rw [width_out q op w v as o ha hk hl hall,widE,if_neg h,if_pos hall]
   | true =>
     rw [widE_in h hall]
     rcases opOk_cases hk with rfl | rfl | rfl | rfl | rfl | rfl | rfl | rfl | rfl | rfl | rfl | rfl | rfl | rfl | rfl | rfl | rfl | rfl | rfl | rfl | rfl | rfl | rfl | rfl | rfl | rfl
     · obtain rfl := len0 hl; exact width_1 q w v hv o hall
     · obtain rfl := len0 hl; exact width_2 q w v hv o hall
     · obtain ⟨a,rfl⟩ := len1 hl; exact width_3 q w v hv a o hall
     · obtain ⟨a,rfl⟩ := len1 hl; exact width_4 q w v hv a o hall
     · obtain ⟨a,b,rfl⟩ := len2 hl; exact width_5 q w v hv a b o hall
     · obtain ⟨a,b,rfl⟩ := len2 hl; exact width_6 q w v hv a b o hall
     · obtain ⟨a,b,rfl⟩ := len2 hl; exact width_7 q w v hv a b o hall
     · obtain ⟨a,b,rfl⟩ := len2 hl; exact width_8 q w v hv a b o hall
     · obtain ⟨a,b,rfl⟩ := len2 hl; exact width_9 q w v hv a b o hall
     · obtain ⟨a,b,rfl⟩ := len2 hl; exact width_10 q w v hv a b o hall
     · obtain ⟨a,b,rfl⟩ := len2 hl; exact width_11 q w v hv a b o hall
     · obtain ⟨a,b,rfl⟩ := len2 hl; exact width_12 q w v hv a b o hall
     · obtain ⟨a,b,rfl⟩ := len2 hl; exact width_13 q w v hv a b o hall
     · obtain ⟨a,b,rfl⟩ := len2 hl; exact width_14 q w v hv a b o hall
     · obtain ⟨a,b,rfl⟩ := len2 hl; exact width_15 q w v hv a b o hall
     · obtain ⟨a,b,rfl⟩ := len2 hl; exact width_16 q w v hv a b o hall
     · obtain ⟨a,b,rfl⟩ := len2 hl; exact width_17 q w v hv a b o hall
     · obtain ⟨a,b,rfl⟩ := len2 hl; exact width_18 q w v hv a b o hall
     · obtain ⟨a,b,c,rfl⟩ := len3 hl; exact width_19 q w v hv a b c o hall
     · obtain ⟨a,b,rfl⟩ := len2 hl; exact width_20 q w v hv a b o hall
     · obtain ⟨a,rfl⟩ := len1 hl; exact width_21 q w v hv a o hall
     · obtain ⟨a,rfl⟩ := len1 hl; exact width_22 q w v hv a o hall
     · obtain ⟨a,rfl⟩ := len1 hl; exact width_23 q w v hv a o hall
     · obtain rfl := len0 hl; exact width_24 q w v hv o hall
     · obtain rfl := len0 hl; exact width_25 q w v hv o hall
     · obtain ⟨a,rfl⟩ := len1 hl; exact width_26 q w v hv a o hall
end
end Go.Proofs.YtkofimhnehkdoaaGreatDoor.Rf
end
section
namespace Go.Proofs.YtkofimhnehkdoaaGreatDoor.Rf
section
variable {hp:List HObj} {lo:Nat} (q:Bool)
end
end Go.Proofs.YtkofimhnehkdoaaGreatDoor.Rf
end
section
namespace Go.Proofs.YtkofimhnehkdoaaGreatDoor.Rf
section
variable {hp:List HObj} {lo:Nat} (q:Bool)
end
end Go.Proofs.YtkofimhnehkdoaaGreatDoor.Rf
end
section
namespace Go.Proofs.YtkofimhnehkdoaaGreatDoor.Rf
def bt (s:List UInt8) (i:Nat) : Int := ((s.getD i 0).toNat : Int)
theorem bt_some {s:List UInt8} {i:Nat} (h:i < s.length) : ∃ c : UInt8,s[i]? = some c ∧ bt s i = (c.toNat : Int) := ⟨s[i],by simp [h],by simp [bt,h]⟩
def lowC (n:Int) : Bool := decide (97 ≤ n) && decide (n ≤ 122)
def nameC (n:Int) : Bool := lowC n || (decide (48 ≤ n) && decide (n ≤ 57)) || decide (n = 95)
def nameOk (s:List UInt8) : Bool := decide (1 ≤ s.length) && (decide (s.length ≤ 16) && (lowC (bt s 0) && s.all fun c => nameC (c.toNat : Int)))
inductive TR where
 | ok (t:T) | err (e:Int)
def T.z : T := .mk 0 0 0 [] true []
def TR.t : TR → T | .ok t => t | .err _ => T.z
def TR.e : TR → Int | .ok _ => 0 | .err e => e
def TR.out (hp:List HObj) : TR → COut
 | .ok t => .ret t.av hp
 | .err e => .pan (.iface 78 (.agg [.int .i64 e])) hp
def TR.tup (hp:List HObj) (r:TR) : COut := .ret (.tup [r.t.av,.int .i64 r.e]) hp
def constR (left:List UInt8) (w e:Int) : TR :=
 if (numE left).2 = 6 then .err 6 else
 if ¬ (e = 0 ∧ (numE left).2 = 0 ∧ w ≤ 64) then .err 2 else
 if (widE 2 w (numE left).1 []).2 ≠ 0 then .err (widE 2 w (numE left).1 []).2 else
 .ok (.mk 2 w (numE left).1 [] true [])
def leafOp (l:List UInt8) : Int := if bt l 0 = 63 then 24 else if bt l 0 = 35 then 25 else 1
def leafNm (l:List UInt8) : List UInt8 := if bt l 0 = 63 ∨ bt l 0 = 35 then l.drop 1 else l
def leafR (s:List UInt8) : TR :=
 if (cutB s 58).2.2 = false ∨ (numE (cutB s 58).2.1).2 = 6 then .err 6 else
 if 48 ≤ bt s 0 ∧ bt s 0 ≤ 57 then constR (cutB s 58).1 (numE (cutB s 58).2.1).1 (numE (cutB s 58).2.1).2 else
 if nameOk (leafNm (cutB s 58).1) = false then .err 5 else
 if ¬ ((numE (cutB s 58).2.1).2 = 0 ∧ (numE (cutB s 58).2.1).1 ≤ 64) then .err 2 else
 .ok (.mk (leafOp (cutB s 58).1) (numE (cutB s 58).2.1).1 0 (leafNm (cutB s 58).1) true [])
end Go.Proofs.YtkofimhnehkdoaaGreatDoor.Rf
end
section
namespace Go.Proofs.YtkofimhnehkdoaaGreatDoor.Rf
abbrev zS : S := .mk [] true []
def lineK (l:List S) : Int := kindOf (l.getD 0 zS).atom
def shapeB (e:S) : Bool := decide (2 ≤ e.list.length) && ((!decide (lineK e.list = 0) && ((refsE (e.list.getD 1 zS)).isSome && decide ((e.list.length : Int) = partsE (lineK e.list)))) &&
 ((if lineK e.list = 5 ∨ lineK e.list = 12 then decide ((intE (e.list.getD 2 zS).atom).2 = 0) else true) && (!decide (lineK e.list = 5) || namedB (e.list.getD 3 zS))))
def shapeS (e:S) : St7 := ⟨lineK e.list,((refsE (e.list.getD 1 zS)).getD []).isEmpty,(refsE (e.list.getD 1 zS)).getD [],if lineK e.list = 5 ∨ lineK e.list = 12 then (intE (e.list.getD 2 zS).atom).1 else 0,true,[],T.z,T.z⟩
section
variable {hp:List HObj} {lo:Nat}
end
end Go.Proofs.YtkofimhnehkdoaaGreatDoor.Rf
end
section
namespace Go.Proofs.YtkofimhnehkdoaaGreatDoor.Rf
theorem any_names (s:List UInt8) : ((List.range s.length).any fun i => !nameC (bt s i)) = !(s.all fun c => nameC (c.toNat : Int)) := by
 induction s with
 | nil => rfl
 | cons c r ih =>
   rw [List.length_cons,List.range_succ_eq_map]
   simp [List.any_map,Function.comp_def,bt] at ih ⊢
   rw [ih]
section
variable {hp:List HObj} {lo:Nat} (q:Bool)
theorem must_D (ok:Bool) (e:Int) : callD G0 IP n_tt_must [.bool ok,.int .i64 e] hp lo false = some (if ok then .ret (.tup []) hp else .pan (.iface 78 (.agg [.int .i64 e])) hp) := by
 rw [callD_eq]
 cases ok <;> simp [IP_tt_must,i_tt_must]
theorem failT_D (e:Int) : callD G0 IP n_tt_fail [.int .i64 e] hp lo false = some (if e = 0 then .ret (.tup []) hp else .pan (.iface 78 (.agg [.int .i64 e])) hp) := by
 rw [callD_eq]
 by_cases h : e = 0 <;> simp [IP_tt_fail,i_tt_fail,h]
theorem name_D (s : List UInt8) (hs:s.length ≤ 9223372036854775807) : callD G0 IP n_term_Name [.str s] hp lo q = some (.ret (.bool (nameOk s)) hp) := by
 rw [callD_eq]
 by_cases h1 : s.length < 1
 · have h0 : ¬ 1 ≤ s.length := by omega
   have hi : (s.length : Int) < 1 := by omega
   simp [IP_term_Name,i_term_Name,nameOk,hi,h0]
 · have h1' : 1 ≤ s.length := by omega
   have hi : ¬ (s.length : Int) < 1 := by omega
   by_cases h2 : 16 < s.length
   · have h2' : (16:Int) < (s.length : Int) := by omega
     have h0 : ¬ s.length ≤ 16 := by omega
     simp [IP_term_Name,i_term_Name,nameOk,hi,h2',h0]
   · have h2' : ¬ (16 : Int) < (s.length : Int) := by omega
     obtain ⟨c,h4,hb⟩ := bt_some (s := s) (i := 0) (by omega)
     have h3 : s.length ≤ 16 := by omega
     by_cases h5 : (c.toNat : Int) < 97
     · have g : lowC (c.toNat : Int) = false := by simp [lowC]; omega
       simp [IP_term_Name,i_term_Name,nameOk,hi,h2',h4,hb,h5,g]
     · by_cases h6 : 122 < (c.toNat : Int)
       · have g : lowC (c.toNat : Int) = false := by simp [lowC]; omega
         simp [IP_term_Name,i_term_Name,nameOk,hi,h2',h4,hb,h5,h6,g]
       · have g : lowC (c.toNat : Int) = true := by simp [lowC]; omega
         have hloop := loop_find (G := G0) (IP := IP) (lo := hp.length) (b := l_term_Name_0)
           (fun i => ⟨[(0,.str s),(24,.int .i64 s.length),(25,.int .i64 i)],hp⟩) s.length (fun i => !nameC (bt s i))
           (.ret,⟨[(2,.bool false)],hp⟩) (.exit 0,⟨[(0,.str s),(24,.int .i64 s.length),(25,.int .i64 s.length),(26,.bool false)],hp⟩)
           (fun i hi hp => by
             have hw := wrap_succ hi hs
             obtain ⟨c,h4,hb⟩ := bt_some (s := s) (i := i) hi
             have h4' : s[i] = c := by simpa [hi] using h4
             rw [hb] at hp
             rw [← hw]
             by_cases a1 : (c.toNat : Int) < 97
             · by_cases a2 : (c.toNat : Int) < 48
               · simp [nameC,lowC] at hp; omega
               · by_cases a3 : 57 < (c.toNat : Int)
                 · have a4 : (c.toNat : Int) = 95 := by simp [nameC,lowC] at hp; omega
                   simp [l_term_Name_0,h4,h4',hi,a1,a2,a3,a4]
                 · simp [l_term_Name_0,h4,h4',hi,a1,a2,a3]
             · by_cases a2 : 122 < (c.toNat : Int)
               · simp [nameC,lowC] at hp; omega
               · simp [l_term_Name_0,h4,h4',hi,a1,a2])
           (fun i hi hp => by
             obtain ⟨c,h4,hb⟩ := bt_some (s := s) (i := i) hi
             have h4' : s[i] = c := by simpa [hi] using h4
             rw [hb] at hp
             have a4 : ¬ (c.toNat : Int) = 95 := by simp [nameC,lowC] at hp; omega
             by_cases a1 : (c.toNat : Int) < 97
             · by_cases a2 : (c.toNat : Int) < 48
               · simp [l_term_Name_0,h4,h4',hi,a1,a2,a4]
               · have a3 : 57 < (c.toNat : Int) := by simp [nameC,lowC] at hp; omega
                 simp [l_term_Name_0,h4,h4',hi,a1,a2,a3,a4]
             · have a2 : 122 < (c.toNat : Int) := by simp [nameC,lowC] at hp; omega
               have a3 : 57 < (c.toNat : Int) := by omega
               have a5 : ¬ (c.toNat : Int) < 48 := by omega
               simp [l_term_Name_0,h4,h4',hi,a1,a2,a3,a4,a5])
           (by simp) (by simp [l_term_Name_0]) (by simp)
         rw [any_names] at hloop
         simp only [Int.natCast_zero] at hloop
         cases h : s.all fun c => nameC (c.toNat : Int) with
         | true => rw [h] at hloop; simp only [Bool.not_true,Bool.false_eq_true,if_false] at hloop; simp [IP_term_Name,i_term_Name,hi,h2',h4,h5,h6,hloop,nameOk,hb,g,h1',h3,h]
         | false => rw [h] at hloop; simp only [Bool.not_false,if_true] at hloop; simp [IP_term_Name,i_term_Name,hi,h2',h4,h5,h6,hloop,nameOk,hb,g,h1',h3,h]
end
end Go.Proofs.YtkofimhnehkdoaaGreatDoor.Rf
end
section
namespace Go.Proofs.YtkofimhnehkdoaaGreatDoor.Rf
theorem numE_bd (s:List UInt8) : 0 ≤ (numE s).1 ∧ (numE s).1 < 18446744073709551616 := by
 unfold numE
 split
 · omega
 · split <;> omega
theorem numE_code (s:List UInt8) : (numE s).2 = 0 ∨ (numE s).2 = 2 ∨ (numE s).2 = 6 := by
 unfold numE
 split
 · simp
 · split <;> simp
mutual
@[simp] theorem T.av_clo (n:Nat) : ∀ t : T,AV.closed n t.av = true
 | .mk _ _ _ _ o as => by simp [T.av,AV.closed,AV.closedL,T.avs_clo n as]
@[simp] theorem T.avs_clo (n:Nat) : ∀ as : List T,AV.closedL n (T.avs as) = true
 | [] => rfl
 | t :: r => by simp [T.avs,AV.closedL,T.av_clo n t,T.avs_clo n r]
end
theorem leaf_kind (l:List UInt8) : (∃ r,l = 63 :: r) ∨ (∃ r,l = 35 :: r) ∨ (hasPre l [63] = false ∧ hasPre l [35] = false ∧ leafOp l = 1 ∧ leafNm l = l) := by
 rcases l with _ | ⟨c,r⟩
 · exact .inr (.inr ⟨rfl,rfl,rfl,rfl⟩)
 · by_cases h : c = 63
   · exact .inl ⟨r,by rw [h]⟩
   · by_cases h2 : c = 35
     · exact .inr (.inl ⟨r,by rw [h2]⟩)
     · have a : ¬ (c.toNat : Int) = 63 := fun e => h (UInt8.toNat_inj.1 (by simp only [show UInt8.toNat 63 = 63 from rfl,show UInt8.toNat 35 = 35 from rfl]; omega))
       have b : ¬ (c.toNat : Int) = 35 := fun e => h2 (UInt8.toNat_inj.1 (by simp only [show UInt8.toNat 63 = 63 from rfl,show UInt8.toNat 35 = 35 from rfl]; omega))
       exact .inr (.inr ⟨by simp [hasPre,h],by simp [hasPre,h2],by simp [leafOp,bt,a,b],by simp [leafNm,bt,a,b]⟩)
section
variable {hp:List HObj} {lo:Nat} (q:Bool)
theorem constant_D (left:List UInt8) (hs:left.length ≤ 140737488355328) (w e:Int) (hw:0 ≤ w) : callD G0 IP n_tt_constant [.str left,.int .u64 w,.int .i64 e] hp lo false = some ((constR left w e).out hp) := by
 rw [callD_eq]
 have hn := fun hp lo q => ttNumeral_D (hp := hp) (lo := lo) q left hs
 have hb := numE_bd left
 by_cases h1 : (numE left).2 = 6
 · simp [IP_tt_constant,i_tt_constant,hn,h1,must_D,constR,TR.out]
 · by_cases h2 : e = 0
   · by_cases h3 : (numE left).2 = 0
     · by_cases h4 : w ≤ 64
       · have e1 : IntKind.wrap .i64 w = w := wrap_small (by omega) (by omega)
         have hW := fun hp lo q => width_D (hp := hp) (lo := lo) q 2 w (numE left).1 hb.1 [] .nil (by simp)
         simp only [List.map_nil] at hW
         by_cases h5 : (widE 2 w (numE left).1 []).2 = 0
         · simp [IP_tt_constant,i_tt_constant,hn,h2,h3,h4,h5,must_D,failT_D,constR,TR.out,e1,hW,T.av,T.avs,ownB]
         · simp [IP_tt_constant,i_tt_constant,hn,h2,h3,h4,h5,must_D,failT_D,constR,TR.out,e1,hW]
       · simp [IP_tt_constant,i_tt_constant,hn,h2,h3,h4,must_D,constR,TR.out]
     · simp [IP_tt_constant,i_tt_constant,hn,h1,h2,h3,must_D,constR,TR.out]
   · simp [IP_tt_constant,i_tt_constant,hn,h1,h2,must_D,constR,TR.out]
set_option maxHeartbeats 1000000 in
theorem leafT_D (s:List UInt8) (h0:s ≠ []) (hs:s.length ≤ 140737488355328) : callD G0 IP n_tt_leaf [.str s] hp lo false = some ((leafR s).out hp) := by
 rw [callD_eq]
 have hc := fun hp lo q => cut1_D (hp := hp) (lo := lo) q s (by omega) 58
 have hl1 : (cutB s 58).1.length ≤ 140737488355328 := by
   unfold cutB; split
   · simp only [List.length_take]; omega
   · simp only; omega
 have hl2 : (cutB s 58).2.1.length ≤ 140737488355328 := by
   unfold cutB; split
   · simp only [List.length_drop]; omega
   · simp
 have hn := fun hp lo q => ttNumeral_D (hp := hp) (lo := lo) q (cutB s 58).2.1 hl2
 have hb := numE_bd (cutB s 58).2.1
 have hk := fun (hp:List HObj) (lo:Nat) => constant_D (hp := hp) (lo := lo) (cutB s 58).1 hl1 (numE (cutB s 58).2.1).1 (numE (cutB s 58).2.1).2 hb.1
 have hL : leafR s = if (cutB s 58).2.2 = false ∨ (numE (cutB s 58).2.1).2 = 6 then .err 6 else
   if 48 ≤ bt s 0 ∧ bt s 0 ≤ 57 then constR (cutB s 58).1 (numE (cutB s 58).2.1).1 (numE (cutB s 58).2.1).2 else
   if nameOk (leafNm (cutB s 58).1) = false then .err 5 else
   if ¬ ((numE (cutB s 58).2.1).2 = 0 ∧ (numE (cutB s 58).2.1).1 ≤ 64) then .err 2 else
   .ok (.mk (leafOp (cutB s 58).1) (numE (cutB s 58).2.1).1 0 (leafNm (cutB s 58).1) true []) := rfl
 obtain ⟨c,h4,hbt⟩ := bt_some (s := s) (i := 0) (by cases s; exact absurd rfl h0; simp)
 have h4' : s.head? = some c := by rw [List.head?_eq_getElem?]; exact h4
 rw [hL,hbt]
 generalize hcl : (cutB s 58).1 = l at *
 generalize hcr : (cutB s 58).2.1 = r at *
 generalize hcf : (cutB s 58).2.2 = f at *
 cases f with
 | false => simp [IP_tt_leaf,i_tt_leaf,hc,hn,must_D,TR.out]
 | true =>
   by_cases h1 : (numE r).2 = 6
   · simp [IP_tt_leaf,i_tt_leaf,hc,hn,must_D,TR.out,h1]
   · by_cases hd : 48 ≤ (c.toNat : Int) ∧ (c.toNat : Int) ≤ 57
     · rw [if_neg (by simp [h1]),if_pos hd]
       cases hx : constR l (numE r).1 (numE r).2 with
       | ok t => rw [hx] at hk; simp [TR.out] at hk; simp [IP_tt_leaf,i_tt_leaf,hc,hn,must_D,TR.out,h1,hd.1,hd.2,h4,hk,T.av_eq]
       | err e => rw [hx] at hk; simp [TR.out] at hk; simp [IP_tt_leaf,i_tt_leaf,hc,hn,must_D,TR.out,h1,hd.1,hd.2,h4,hk]
     · rw [if_neg (by simp [h1]),if_neg hd]
       have hd' : (48 ≤ (c.toNat : Int) ∧ ¬ (c.toNat : Int) ≤ 57) ∨ ¬ 48 ≤ (c.toNat : Int) := by omega
       have hr := numE_code r
       rcases leaf_kind l with ⟨l',rfl⟩ | ⟨l',rfl⟩ | ⟨k1,k2,k3,k4⟩
       · have k1 : hasPre (63 :: l') [63] = true := by simp [hasPre]
         have k3 : leafOp (63 :: l') = 24 := rfl
         have k4 : leafNm (63 :: l') = l' := rfl
         have hm := fun hp lo q => name_D (hp := hp) (lo := lo) q l' (by simp at hl1; omega)
         rw [k3,k4]
         cases hN : nameOk l' with
         | false =>
           rcases hd' with ⟨d1,d2⟩ | d1
           · simp [IP_tt_leaf,i_tt_leaf,hc,hn,must_D,hasPre_D,hm,TR.out,h1,h4,k1,d1,d2,hN]
           · simp [IP_tt_leaf,i_tt_leaf,hc,hn,must_D,hasPre_D,hm,TR.out,h1,h4,k1,d1,hN]
         | true =>
           by_cases h5 : (numE r).2 = 0
           · by_cases h6 : (numE r).1 ≤ 64
             · have e1 : IntKind.wrap .i64 (numE r).1 = (numE r).1 := wrap_small (by omega) (by omega)
               rcases hd' with ⟨d1,d2⟩ | d1
               · simp [IP_tt_leaf,i_tt_leaf,hc,hn,must_D,hasPre_D,hm,TR.out,h1,h4,k1,d1,d2,hN,h5,h6,e1,T.av,T.avs,ownB]
               · simp [IP_tt_leaf,i_tt_leaf,hc,hn,must_D,hasPre_D,hm,TR.out,h1,h4,k1,d1,hN,h5,h6,e1,T.av,T.avs,ownB]
             · rcases hd' with ⟨d1,d2⟩ | d1
               · simp [IP_tt_leaf,i_tt_leaf,hc,hn,must_D,hasPre_D,hm,TR.out,h1,h4,k1,d1,d2,hN,h5,h6]
               · simp [IP_tt_leaf,i_tt_leaf,hc,hn,must_D,hasPre_D,hm,TR.out,h1,h4,k1,d1,hN,h5,h6]
           · rcases hd' with ⟨d1,d2⟩ | d1
             · simp [IP_tt_leaf,i_tt_leaf,hc,hn,must_D,hasPre_D,hm,TR.out,h1,h4,k1,d1,d2,hN,h5]
             · simp [IP_tt_leaf,i_tt_leaf,hc,hn,must_D,hasPre_D,hm,TR.out,h1,h4,k1,d1,hN,h5]
       · have k1 : hasPre (35 :: l') [63] = false := by simp [hasPre]
         have k2 : hasPre (35 :: l') [35] = true := by simp [hasPre]
         have k3 : leafOp (35 :: l') = 25 := rfl
         have k4 : leafNm (35 :: l') = l' := rfl
         have hm := fun hp lo q => name_D (hp := hp) (lo := lo) q l' (by simp at hl1; omega)
         rw [k3,k4]
         cases hN : nameOk l' with
         | false =>
           rcases hd' with ⟨d1,d2⟩ | d1
           · simp [IP_tt_leaf,i_tt_leaf,hc,hn,must_D,hasPre_D,hm,TR.out,h1,h4,k1,k2,d1,d2,hN]
           · simp [IP_tt_leaf,i_tt_leaf,hc,hn,must_D,hasPre_D,hm,TR.out,h1,h4,k1,k2,d1,hN]
         | true =>
           by_cases h5 : (numE r).2 = 0
           · by_cases h6 : (numE r).1 ≤ 64
             · have e1 : IntKind.wrap .i64 (numE r).1 = (numE r).1 := wrap_small (by omega) (by omega)
               rcases hd' with ⟨d1,d2⟩ | d1
               · simp [IP_tt_leaf,i_tt_leaf,hc,hn,must_D,hasPre_D,hm,TR.out,h1,h4,k1,k2,d1,d2,hN,h5,h6,e1,T.av,T.avs,ownB]
               · simp [IP_tt_leaf,i_tt_leaf,hc,hn,must_D,hasPre_D,hm,TR.out,h1,h4,k1,k2,d1,hN,h5,h6,e1,T.av,T.avs,ownB]
             · rcases hd' with ⟨d1,d2⟩ | d1
               · simp [IP_tt_leaf,i_tt_leaf,hc,hn,must_D,hasPre_D,hm,TR.out,h1,h4,k1,k2,d1,d2,hN,h5,h6]
               · simp [IP_tt_leaf,i_tt_leaf,hc,hn,must_D,hasPre_D,hm,TR.out,h1,h4,k1,k2,d1,hN,h5,h6]
           · rcases hd' with ⟨d1,d2⟩ | d1
             · simp [IP_tt_leaf,i_tt_leaf,hc,hn,must_D,hasPre_D,hm,TR.out,h1,h4,k1,k2,d1,d2,hN,h5]
             · simp [IP_tt_leaf,i_tt_leaf,hc,hn,must_D,hasPre_D,hm,TR.out,h1,h4,k1,k2,d1,hN,h5]
       · have hm := fun (hp:List HObj) (lo:Nat) (q:Bool) => name_D (hp := hp) (lo := lo) q l (by omega)
         rw [k3,k4]
         cases hN : nameOk l with
         | false =>
           rcases hd' with ⟨d1,d2⟩ | d1
           · simp [IP_tt_leaf,i_tt_leaf,hc,hn,must_D,hasPre_D,hm,TR.out,h1,h4,k1,k2,d1,d2,hN]
           · simp [IP_tt_leaf,i_tt_leaf,hc,hn,must_D,hasPre_D,hm,TR.out,h1,h4,k1,k2,d1,hN]
         | true =>
           by_cases h5 : (numE r).2 = 0
           · by_cases h6 : (numE r).1 ≤ 64
             · have e1 : IntKind.wrap .i64 (numE r).1 = (numE r).1 := wrap_small (by omega) (by omega)
               rcases hd' with ⟨d1,d2⟩ | d1
               · simp [IP_tt_leaf,i_tt_leaf,hc,hn,must_D,hasPre_D,hm,TR.out,h1,h4,k1,k2,d1,d2,hN,h5,h6,e1,T.av,T.avs,ownB]
               · simp [IP_tt_leaf,i_tt_leaf,hc,hn,must_D,hasPre_D,hm,TR.out,h1,h4,k1,k2,d1,hN,h5,h6,e1,T.av,T.avs,ownB]
             · rcases hd' with ⟨d1,d2⟩ | d1
               · simp [IP_tt_leaf,i_tt_leaf,hc,hn,must_D,hasPre_D,hm,TR.out,h1,h4,k1,k2,d1,d2,hN,h5,h6]
               · simp [IP_tt_leaf,i_tt_leaf,hc,hn,must_D,hasPre_D,hm,TR.out,h1,h4,k1,k2,d1,hN,h5,h6]
           · rcases hd' with ⟨d1,d2⟩ | d1
             · simp [IP_tt_leaf,i_tt_leaf,hc,hn,must_D,hasPre_D,hm,TR.out,h1,h4,k1,k2,d1,d2,hN,h5]
             · simp [IP_tt_leaf,i_tt_leaf,hc,hn,must_D,hasPre_D,hm,TR.out,h1,h4,k1,k2,d1,hN,h5]
end
end Go.Proofs.YtkofimhnehkdoaaGreatDoor.Rf
end
section
namespace Go.Proofs.YtkofimhnehkdoaaGreatDoor.Rf
def numsN (op:Int) : Nat := if op = 21 then 2 else if op = 22 ∨ op = 23 then 1 else 0
def numR (s:List UInt8) (most:Int) : Int × Int := if (numE s).2 = 6 then (0,6) else if (numE s).2 ≠ 0 ∨ most < (numE s).1 then (0,2) else ((numE s).1,0)
def S.z : S := .mk [] true []
def numsR (op:Int) (l:List S) : Int × Int × Int :=
 if op = 21 then
   (if (numR (l.getD 1 S.z).atom 18446744073709551615).2 ≠ 0 then (0,0,(numR (l.getD 1 S.z).atom 18446744073709551615).2) else
    if (numR (l.getD 2 S.z).atom 64).2 ≠ 0 then (0,0,(numR (l.getD 2 S.z).atom 64).2) else
    ((numR (l.getD 1 S.z).atom 18446744073709551615).1,(numR (l.getD 2 S.z).atom 64).1,0))
 else if op = 22 ∨ op = 23 then
   (if (numR (l.getD 1 S.z).atom 64).2 ≠ 0 then (0,0,(numR (l.getD 1 S.z).atom 64).2) else (0,(numR (l.getD 1 S.z).atom 64).1,0))
 else (0,0,0)
inductive TRs where
 | ok (t:List T) | err (e:Int)
def TRs.cons (r:TR) (s:TRs) : TRs := match r with
 | .err e => .err e
 | .ok t => match s with
   | .err e => .err e
   | .ok ts => .ok (t :: ts)
def nodeR (op v w:Int) (s:TRs) : TR := match s with
 | .err e => .err e
 | .ok ts => if (widE op w v (ts.map T.width)).2 ≠ 0 then .err (widE op w v (ts.map T.width)).2 else .ok (.mk op (widE op w v (ts.map T.width)).1 v [] ts.isEmpty ts)
def headR (l:List S) : Bool := decide (l ≠ []) && ((ofE (l.getD 0 S.z).atom).2 && (!decide (arE (ofE (l.getD 0 S.z).atom).1 = 0) && decide ((l.length : Int) = 1 + numsN (ofE (l.getD 0 S.z).atom).1 + arE (ofE (l.getD 0 S.z).atom).1)))
mutual
def readS : S → TR
 | .mk a o l => if a ≠ [] then leafR a else
   if headR l = false then .err 6 else
   if (numsR (ofE (l.getD 0 S.z).atom).1 l).2.2 ≠ 0 then .err (numsR (ofE (l.getD 0 S.z).atom).1 l).2.2 else
   nodeR (ofE (l.getD 0 S.z).atom).1 (numsR (ofE (l.getD 0 S.z).atom).1 l).1 (numsR (ofE (l.getD 0 S.z).atom).1 l).2.1 (readsS l (1 + numsN (ofE (l.getD 0 S.z).atom).1))
def readsS : List S → Nat → TRs
 | [],_ => .ok []
 | x :: r,k + 1 => readsS r k
 | x :: r,0 => TRs.cons (readS x) (readsS r 0)
end
theorem numR_bd (s:List UInt8) (m:Int) (hm:0 ≤ m) : 0 ≤ (numR s m).1 ∧ (numR s m).1 ≤ m := by
 have := numE_bd s
 unfold numR; split
 · simp; omega
 · split
   · simp; omega
   · rename_i h; simp only; omega
end Go.Proofs.YtkofimhnehkdoaaGreatDoor.Rf
end
section
namespace Go.Proofs.YtkofimhnehkdoaaGreatDoor.Rf
section
variable {hp:List HObj} {lo:Nat} (q:Bool)
def TR1 (hp:List HObj) (k:IntKind) (r:Int × Int) : COut := if r.2 = 0 then .ret (.int k r.1) hp else .pan (.iface 78 (.agg [.int .i64 r.2])) hp
theorem ttNumerals_D (op:Int) : callD G0 IP n_tt_numerals [.int .i64 op] hp lo q = some (.ret (.int .i64 (numsN op)) hp) := by
 rw [callD_eq]
 by_cases h1 : op = 21
 · subst h1; simp [IP_tt_numerals,i_tt_numerals,numsN]
 · by_cases h2 : op = 22
   · subst h2; simp [IP_tt_numerals,i_tt_numerals,numsN]
   · by_cases h3 : op = 23
     · subst h3; simp [IP_tt_numerals,i_tt_numerals,numsN]
     · simp [IP_tt_numerals,i_tt_numerals,numsN,h1,h2,h3]
theorem number_D (a:List UInt8) (o:Own) (l:List AV) (hs:a.length ≤ 140737488355328) (m:Int) : callD G0 IP n_tt_number [.agg [.str a,.list l o],.int .u64 m] hp lo false = some (TR1 hp .u64 (numR a m)) := by
 rw [callD_eq]
 have hn := fun hp lo q => ttNumeral_D (hp := hp) (lo := lo) q a hs
 by_cases h0 : a = []
 · subst h0
   have e : numR [] m = (0,6) := by rfl
   simp [IP_tt_number,i_tt_number,must_D,e,TR1]
 · by_cases h1 : (numE a).2 = 6
   · have e : numR a m = (0,6) := by simp [numR,h1]
     simp [IP_tt_number,i_tt_number,must_D,hn,h0,h1,e,TR1]
   · by_cases h2 : (numE a).2 = 0
     · by_cases h3 : (numE a).1 ≤ m
       · have e : numR a m = ((numE a).1,0) := by simp [numR,h2]; omega
         simp [IP_tt_number,i_tt_number,must_D,hn,h0,h2,h3,e,TR1]
       · have e : numR a m = (0,2) := by simp [numR,h2]; omega
         simp [IP_tt_number,i_tt_number,must_D,hn,h0,h2,h3,e,TR1]
     · have e : numR a m = (0,2) := by simp [numR,h1,h2]
       simp [IP_tt_number,i_tt_number,must_D,hn,h0,h1,h2,e,TR1]
end
end Go.Proofs.YtkofimhnehkdoaaGreatDoor.Rf
end
section
namespace Go.Proofs.YtkofimhnehkdoaaGreatDoor.Rf
section
variable {hp:List HObj} {lo:Nat} (q:Bool)
end
end Go.Proofs.YtkofimhnehkdoaaGreatDoor.Rf
end
section
namespace Go.Proofs.YtkofimhnehkdoaaGreatDoor.Rf
section
variable {hp:List HObj} {lo:Nat} (q:Bool)
end
theorem ofE_ok {s:List UInt8} (h:(ofE s).2 = true) : opOk (ofE s).1 = true := by
 unfold ofE at h ⊢
 split at h
 · rename_i i hi
   have := List.mem_of_find?_eq_some hi
   simp at this
   simp [opOk]; omega
 · simp at h
theorem arE_bd (op:Int) : -1 ≤ arE op ∧ arE op ≤ 3 := by
 unfold arE; split
 · omega
 · split
   · omega
   · split
     · omega
     · split <;> omega
theorem numsN_bd (op:Int) : numsN op ≤ 2 := by
 unfold numsN; split
 · omega
 · split <;> omega
mutual
def S.sm : S → Prop
 | .mk a _ l => a.length ≤ 140737488355328 ∧ S.sms l
def S.sms : List S → Prop
 | [] => True
 | t :: r => t.sm ∧ S.sms r
end
theorem S.sms_iff : ∀ l : List S,S.sms l ↔ ∀ t,t ∈ l → t.sm
 | [] => by simp [S.sms]
 | t :: r => by simp [S.sms,S.sms_iff r]
theorem S.sm_eq (t:S) : t.sm ↔ t.atom.length ≤ 140737488355328 ∧ ∀ u,u ∈ t.list → u.sm := by
 cases t; simp only [S.sm,S.atom,S.list,S.sms_iff]
theorem constR_ne {l:List UInt8} {w e c:Int} (h:constR l w e = .err c) : c ≠ 0 := by
 unfold constR at h
 split at h
 · cases h; simp
 · split at h
   · cases h; simp
   · split at h
     · rename_i k; cases h; exact k
     · cases h
theorem leafR_ne {s:List UInt8} {c:Int} (h:leafR s = .err c) : c ≠ 0 := by
 unfold leafR at h
 split at h
 · cases h; simp
 · split at h
   · exact constR_ne h
   · split at h
     · cases h; simp
     · split at h
       · cases h; simp
       · cases h
mutual
theorem readS_ne : ∀ (e:S) (c:Int),readS e = .err c → c ≠ 0
 | .mk a o l,c,h => by
   rw [readS] at h
   split at h
   · exact leafR_ne h
   · split at h
     · cases h; simp
     · split at h
       · rename_i k; cases h; exact k
       · cases hs : readsS l (1 + numsN (ofE (l.getD 0 S.z).atom).1) with
         | err e => rw [hs] at h; simp only [nodeR] at h; cases h; exact readsS_ne l _ _ hs
         | ok ts =>
           rw [hs] at h; simp only [nodeR] at h
           split at h
           · rename_i k; cases h; exact k
           · cases h
theorem readsS_ne : ∀ (l:List S) (k:Nat) (c:Int),readsS l k = .err c → c ≠ 0
 | [],k,c,h => by simp [readsS] at h
 | x :: r,k + 1,c,h => by rw [readsS] at h; exact readsS_ne r k c h
 | x :: r,0,c,h => by
   rw [readsS] at h
   cases hx : readS x with
   | err e => rw [hx] at h; simp only [TRs.cons] at h; cases h; exact readS_ne x _ hx
   | ok t =>
     cases hr : readsS r 0 with
     | err e => rw [hx,hr] at h; simp only [TRs.cons] at h; cases h; exact readsS_ne r 0 _ hr
     | ok us => rw [hx,hr] at h; simp only [TRs.cons] at h; cases h
end
def ownT (acc:List T) : Own := if acc.isEmpty then .nil else .own 5 0
@[simp] theorem ownT_cp (acc:List T) : (ownT acc).cp = ownB acc.isEmpty := by cases acc <;> rfl
@[simp] theorem ownT_app (acc:List T) (x:T) : ownT (acc ++ [x]) = .own 5 0 := by cases acc <;> rfl
theorem ownT_ok (acc:List T) : ownT acc = .nil ∨ ownT acc = .own 5 0 := by cases acc <;> simp [ownT]
theorem T.avs_app (a b:List T) : T.avs (a ++ b) = T.avs a ++ T.avs b := by simp [T.avs_eq]
def wds (acc:List T) : List AV := (acc.map T.width).map (AV.int .i64)
@[simp] theorem wds_len (acc:List T) : (wds acc).length = acc.length := by simp [wds]
@[simp] theorem wds_nil : wds [] = [] := rfl
theorem wds_app (acc:List T) (t:T) : wds (acc ++ [t]) = wds acc ++ [.int .i64 t.width] := by simp [wds]
abbrev boxZ : AV := .box [.int .i64 0,.int .i64 0,.int .u64 0,.str [],.list [] .nil]
@[simp] theorem T.okSize_avs (l:List T) : okSize 5 (T.avs l) = true := by
 cases l with
 | nil => rfl
 | cons t r => simp [T.avs,T.av_eq]
@[simp] theorem okSize_wds (l:List T) : okSize 1 (wds l) = true := by
 cases l with
 | nil => rfl
 | cons t r => simp [wds]
section
variable {hp:List HObj} {lo:Nat} (q:Bool)
end
end Go.Proofs.YtkofimhnehkdoaaGreatDoor.Rf
end
section
namespace Go.Proofs.YtkofimhnehkdoaaGreatDoor.Rf
def w7 (s:List UInt8) : Int × Int := if (numE s).2 ≠ 0 then (0,(numE s).2) else if 64 < (numE s).1 then (0,2) else ((numE s).1,0)
section
variable {hp:List HObj} {lo:Nat} (q:Bool)
end
end Go.Proofs.YtkofimhnehkdoaaGreatDoor.Rf
end
section
namespace Go.Proofs.YtkofimhnehkdoaaGreatDoor.Rf
section
variable {hp:List HObj} {lo:Nat} (q:Bool)
end
end Go.Proofs.YtkofimhnehkdoaaGreatDoor.Rf
end
section
namespace Go.Proofs.YtkofimhnehkdoaaGreatDoor.Rf
section
variable {hp:List HObj} {lo:Nat} (q:Bool)
end
end Go.Proofs.YtkofimhnehkdoaaGreatDoor.Rf
end
