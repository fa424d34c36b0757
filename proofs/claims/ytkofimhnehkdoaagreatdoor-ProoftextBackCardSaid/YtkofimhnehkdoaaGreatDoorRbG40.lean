/- A part. -/
import Derived.Test.YtkofimhnehkdoaaGreatDoorRbG39
set_option linter.unusedVariables false
set_option linter.unusedSimpArgs false
section
namespace Go.Proofs.YtkofimhnehkdoaaGreatDoor.Rf
mutual
theorem cnt_dep : ∀ (t:T) (d n:Int),0 ≤ t.cnt d n → (t.dep : Int) ≤ d
 | .mk op w v nm o as,d,n,h => by
   rw [T.cnt] at h
   split at h
   · omega
   · have := cnts_dep as (d - 1) (n - 1) h
     simp only [T.dep]
     omega
theorem cnts_dep : ∀ (as:List T) (d n:Int),0 ≤ T.cnts as d n → 0 ≤ d → (T.deps as : Int) ≤ d
 | [],d,n,h,h0 => by simp [T.deps]; exact h0
 | t :: r,d,n,h,h0 => by
   rw [T.cnts] at h
   split at h
   · have hx : 0 ≤ t.cnt d n := by
       by_cases hx : 0 ≤ t.cnt d n
       · exact hx
       · rw [T.cnts_neg r _ _ (by omega)] at h; exact h
     have a := cnt_dep t d n hx
     have b := cnts_dep r d _ h h0
     simp only [T.deps]
     omega
   · omega
end
theorem rightB_kind {s:St7} {i:Int} (h:rightB s i = true) : 1 ≤ s.kind ∧ s.kind ≤ 12 := by
 unfold rightB at h
 simp only [Bool.and_eq_true] at h
 have h1 := h.1
 split at h1
 · omega
 · simp only [Bool.and_eq_true,decide_eq_true_eq] at h1
   by_cases hk : s.kind < 1 ∨ 12 < s.kind
   · have : (rfE s.kind).1 = -1 := by unfold rfE; rw [if_pos hk]
     omega
   · omega
theorem check_kinds {p:List St7} (h:(checkE p).2 = 0) : ∀ s,s ∈ p → 1 ≤ s.kind ∧ s.kind ≤ 12 := by
 intro s hs
 obtain ⟨i,hi,rfl⟩ := List.getElem_of_mem hs
 unfold checkE at h
 split at h
 · cases h
 · split at h
   · cases h
   · split at h
     · cases h
     · rename_i hf
       rw [List.find?_eq_none] at hf
       have := hf i (by simpa using hi)
       simp [hi] at this
       exact rightB_kind this
theorem nameOk_plain {n:List UInt8} (h:nameOk n = true) : allPlain n = true ∧ n ≠ [] ∧ n.length ≤ 16 := by
 obtain ⟨h1,h2,h3,h4,h5⟩ := nameOk_mem h
 refine ⟨?_,h1,h2⟩
 simp only [allPlain,List.all_eq_true]
 intro c hc
 have := h5 c hc
 simp only [nameC,lowC,Bool.or_eq_true,Bool.and_eq_true,decide_eq_true_eq] at this
 simp only [plainC,Bool.and_eq_true,decide_eq_true_eq,Bool.not_eq_true',decide_eq_false_iff_not]
 omega
theorem plain_ok {s:St7} (hw:s.wf) (hk:1 ≤ s.kind ∧ s.kind ≤ 12) (hp:plainB s = true) (hl:lightS 40 s = true) : s.ok := by
 obtain ⟨w1,w2,w3,w4,w5,w6,w7,w8⟩ := hw
 simp only [plainB,Bool.and_eq_true,Bool.not_eq_true',Bool.or_eq_false_iff,Bool.and_eq_false_iff,Bool.not_eq_false',decide_eq_true_eq,decide_eq_false_iff_not] at hp
 obtain ⟨⟨p1,p2⟩,p3,p4,p5⟩ := hp
 refine ⟨hk,fun n hn => i64B_of (w2 n hn),i64B_of w4,fun h5 h12 => ?_,fun h5 => ?_,fun x hx => ?_,fun h => ?_,fun h => ?_,fun h => ?_,fun h => ?_⟩
 · rcases p1 with p1 | p1 | p1
   · exact p1
   · exact absurd p1 h5
   · exact absurd p1 h12
 · rcases p2 with p2 | p2
   · exact List.length_eq_zero_iff.1 (by omega)
   · exact absurd p2 h5
 · have := List.all_eq_true.1 p3 x hx
   simp only [subP,Bool.and_eq_true,decide_eq_true_eq] at this
   exact ⟨(nameOk_plain this.1).2.1,(w5 x hx).2,check_valid this.2⟩
 · have hu : useA s.kind = false := by simp only [useA,Bool.or_eq_false_iff,decide_eq_false_iff_not]; omega
   rw [hu] at p4
   simp only [fitsT,Bool.false_eq_true,if_false] at p4
   rw [T.sames_comm']; exact p4
 · have hu : useA s.kind = true := by simp only [useA,Bool.or_eq_true,decide_eq_true_eq]; omega
   rw [hu] at p4
   simp only [fitsT,if_true,decide_eq_true_eq] at p4
   exact ⟨w7,check_valid p4⟩
 · have hu : decide (s.kind = 4) = false := by simpa using h
   rw [hu] at p5
   simp only [fitsT,Bool.false_eq_true,if_false] at p5
   rw [T.sames_comm']; exact p5
 · have hu : decide (s.kind = 4) = true := by simpa using h
   rw [hu] at p5
   simp only [fitsT,if_true,decide_eq_true_eq] at p5
   exact ⟨w8,check_valid p5⟩
theorem texts_bd (c:Nat) : ∀ (l:List S) (b:Bool),(∀ x,x ∈ l → x.text.length ≤ c) → (S.texts b l).length ≤ l.length * (c + 1)
 | [],b,_ => by simp [S.texts]
 | x :: r,b,h => by
   have h1 := h x (by simp)
   have h2 := texts_bd c r false fun y hy => h y (by simp [hy])
   have h3 : (if b = true then ([] : List UInt8) else [32]).length ≤ 1 := by cases b <;> simp
   simp only [S.texts,List.length_append,List.length_cons,Nat.add_mul]
   omega
theorem list_text (o:Bool) (l:List S) : (S.mk [] o l).text.length = (S.texts true l).length + 2 := by simp [S.text]
theorem depths_bd (c:Nat) : ∀ l : List S,(∀ x,x ∈ l → x.depth ≤ c) → S.depths l ≤ c
 | [],_ => by simp [S.depths]
 | x :: r,h => by
   have h1 := h x (by simp)
   have h2 := depths_bd c r fun y hy => h y (by simp [hy])
   simp only [S.depths]; omega
theorem aS_rightP {a:List UInt8} (h:allPlain a = true) (hne:a ≠ []) : (aS a).right = true := by
 simp [aS,S.right,hne,h]
theorem decZ_plain (n:Int) : allPlain (decZ n) = true := by
 have hd : ∀ k : Nat,allPlain (dec k) = true := fun k => by
   simp only [allPlain,List.all_eq_true]
   intro c hc
   have := dec_digs k c hc
   simp only [isDig,Bool.and_eq_true,decide_eq_true_eq] at this
   simp only [plainC,Bool.and_eq_true,decide_eq_true_eq,Bool.not_eq_true',decide_eq_false_iff_not]
   omega
 unfold decZ decI
 split
 · exact hd _
 · rw [allPlain,List.all_cons,Bool.and_eq_true]; exact ⟨by decide,hd _⟩
theorem kindE_plain {k:Int} (h:1 ≤ k ∧ k ≤ 12) : allPlain (kindE k) = true := by
 rcases kind_cases (k := k) (by omega) with rfl | rfl | rfl | rfl | rfl | rfl | rfl | rfl | rfl | rfl | rfl | rfl
 all_goals decide
def Pc (c d:Nat) (x:S) : Prop := x.right = true ∧ x.depth ≤ d ∧ x.text.length ≤ c
theorem Pc.atom {a:List UInt8} (h:allPlain a = true) (hne:a ≠ []) {c d:Nat} (hc:a.length ≤ c) (hd:1 ≤ d) : Pc c d (aS a) :=
 ⟨aS_rightP h hne,by simp only [aS,S.depth,if_neg hne]; exact hd,by simp only [aS,S.text,if_neg hne]; exact hc⟩
theorem Pc.list {c d n c' d' : Nat} {o:Bool} {l:List S} (h:∀ x,x ∈ l → Pc c d x) (hn:l.length ≤ n) (hc:n * (c + 1) + 2 ≤ c') (hd:d + 1 ≤ d') : Pc c' d' (.mk [] o l) := by
 refine ⟨?_,?_,?_⟩
 · simp only [S.right,if_true]; exact (S.rights_iff l).2 fun x hx => (h x hx).1
 · have := depths_bd d l fun x hx => (h x hx).2.1
   simp only [S.depth,if_true]; omega
 · have := texts_bd c l true fun x hx => (h x hx).2.2
   rw [list_text]
   have h2 : l.length * (c + 1) ≤ n * (c + 1) := Nat.mul_le_mul_right _ hn
   omega
theorem Pc.mono {c d c' d' : Nat} {x:S} (h:Pc c d x) (hc:c ≤ c') (hd:d ≤ d') : Pc c' d' x := ⟨h.1,by have := h.2.1; omega,by have := h.2.2; omega⟩
theorem Pc.term {t:T} (hw:t.wf) {n:Int} (h:0 ≤ t.cnt 40 n) (hn:n ≤ 40) : Pc 2560 40 (writeT t) := by
 have h1 := write_len t hw
 have h2 := write_depth t
 have h3 := cnt_dep t 40 n h
 have h4 := T.cnt_ge t 40 n h
 exact ⟨write_right t,by omega,by omega⟩
theorem line_small {s:St7} (hw:s.wf) (hk:1 ≤ s.kind ∧ s.kind ≤ 12) (hp:plainB s = true) (hl:lightS 40 s = true) : Pc 500000 50 (lineW s) := by
 obtain ⟨w1,w2,w3,w4,w5,w6,w7,w8⟩ := hw
 simp only [plainB,Bool.and_eq_true] at hp
 have p3 := hp.2.1
 simp only [lightS,Bool.and_eq_true,decide_eq_true_eq] at hl
 obtain ⟨l1,l2,l3,l4,l5⟩ := hl
 have hnum : ∀ n,i64B n → Pc 110000 43 (aS (decZ n)) := fun n hn => Pc.atom (decZ_plain n) (decZ_ne n) (by have := decZ_len hn; omega) (by omega)
 have hrefs : Pc 110000 43 (refsW s.refs) := by
   refine Pc.list (c := 21) (d := 1) (n := 20) (fun x hx => ?_) (by simpa using l3) (by omega) (by omega)
   obtain ⟨n,hn,rfl⟩ := List.mem_map.1 hx
   exact Pc.atom (decZ_plain n) (decZ_ne n) (decZ_len (i64B_of (w2 n hn))) (by omega)
 have hsubs : Pc 110000 43 (subsW s.subs) := by
   refine Pc.list (c := 5124) (d := 41) (n := 20) (fun x hx => ?_) (by simpa using l4) (by omega) (by omega)
   obtain ⟨y,hy,rfl⟩ := List.mem_map.1 hx
   have h1 := List.all_eq_true.1 p3 y hy
   simp only [subP,Bool.and_eq_true] at h1
   have h2 := List.all_eq_true.1 l5 y hy
   simp only [subL,decide_eq_true_eq] at h2
   obtain ⟨n1,n2,n3⟩ := nameOk_plain h1.1
   refine Pc.list (c := 2560) (d := 40) (n := 2) (fun z hz => ?_) (by simp) (by omega) (by omega)
   simp only [List.mem_cons,List.mem_nil_iff,or_false] at hz
   rcases hz with rfl | rfl
   · exact Pc.atom n1 n2 (by omega) (by omega)
   · exact Pc.term (w5 y hy).2 h2 (by omega)
 have hta : Pc 110000 43 (writeT s.a) := (Pc.term w7 l1 (by omega)).mono (by omega) (by omega)
 have htb : Pc 110000 43 (writeT s.b) := (Pc.term w8 l2 (by omega)).mono (by omega) (by omega)
 have hrest : ∀ x,x ∈ restW s → Pc 110000 43 x := by
   intro u hu
   unfold restW at hu
   split at hu
   · simp only [List.mem_cons,List.mem_nil_iff,or_false] at hu
     rcases hu with rfl | rfl
     · exact hnum _ (i64B_of w4)
     · exact hsubs
   · split at hu
     · simp only [List.mem_cons,List.mem_nil_iff,or_false] at hu
       subst hu; exact hnum _ (i64B_of w4)
     · split at hu
       · simp only [List.mem_cons,List.mem_nil_iff,or_false] at hu
         subst hu; exact hta
       · split at hu
         · simp only [List.mem_cons,List.mem_nil_iff,or_false] at hu
           rcases hu with rfl | rfl
           · exact hta
           · exact htb
         · simp at hu
 have hrl : (restW s).length ≤ 2 := by
   unfold restW
   split
   · simp
   · split
     · simp
     · split
       · simp
       · split <;> simp
 refine Pc.list (c := 110000) (d := 43) (n := 4) (fun x hx => ?_) (by simp; omega) (by omega) (by omega)
 simp only [List.mem_cons] at hx
 rcases hx with rfl | rfl | hx
 · exact Pc.atom (kindE_plain hk) (kindE_ne hk) (by have := kindE_len s.kind; omega) (by omega)
 · exact hrefs
 · exact hrest x hx
theorem allText_bd (c:Nat) : ∀ l : List S,(∀ x,x ∈ l → x.text.length ≤ c) → (allText l).length ≤ l.length * (c + 1)
 | [],_ => by simp [allText]
 | x :: r,h => by
   have h1 := h x (by simp)
   have h2 := allText_bd c r fun y hy => h y (by simp [hy])
   simp only [allText,List.length_append,List.length_cons,Nat.add_mul]; omega
end Go.Proofs.YtkofimhnehkdoaaGreatDoor.Rf
end
section
namespace Go.Proofs.YtkofimhnehkdoaaGreatDoor.Rf
theorem allText_bd2 (c n:Nat) (l:List S) (h:l.length ≤ n) (hx:∀ x,x ∈ l → x.text.length ≤ c) : (allText l).length ≤ n * (c + 1) := Nat.le_trans (allText_bd c l hx) (Nat.mul_le_mul_right _ h)
set_option maxHeartbeats 2000000 in
set_option maxRecDepth 20000 in
theorem prooftextBack_D (p:List St7) (o:Bool) (hw:∀ s,s ∈ p → s.wf) (hl:p.length ≤ 9223372036854775807) (q:Bool) : callD G0 IP n_sl36_ProoftextBack [.list (St7.avs p) (ownB o)] [] 0 q = some (.ret (.bool true) []) := by
 have e1 := fun (o:Bool) (hp:List HObj) (lo:Nat) (q:Bool) => check34_D p (fun s hs => (hw s hs).2.2.1) o hp lo q
 have e2 := fun (o:Own) (hp:List HObj) (lo:Nat) (q:Bool) => light36_D p hw hl o 20 40 (by omega) (by omega) (by omega) hp lo q
 rw [callD_eq]
 cases hL : lightB p 20 40 with
 | false =>
   rw [hL] at e2
   simp [IP_sl36_ProoftextBack,i_sl36_ProoftextBack,e1,e2,live36_D]
 | true =>
   rw [hL] at e2
   by_cases hc : (checkE p).2 = 0
   · rw [hc] at e1
     simp only [lightB,Bool.and_eq_true,decide_eq_true_eq] at hL
     obtain ⟨hL1,hL2⟩ := hL
     have hkind := check_kinds hc
     have hloop := fun (o:Own) => loop_find (G := G0) (IP := IP) (lo := 0) (b := l_sl36_ProoftextBack_0)
       (fun i => ⟨[(0,.list (St7.avs p) o),(5,.int .i64 i)],[]⟩) p.length (fun i => !plainB (p.getD i St7.z))
       (.ret,⟨[(2,.bool true)],[]⟩) (.exit 0,⟨[(0,.list (St7.avs p) o),(5,.int .i64 p.length),(26,.bool false)],[]⟩)
       (fun i hi hp1 => by
         have hI : (i:Int) < (p.length : Int) := by omega
         have hw1 := wrap_succ hi (n := p.length) hl
         have hb : plainB p[i] = true := by simpa [hi] using hp1
         have e3 := plain36_D p[i] (hw _ (List.getElem_mem hi)) [] 0 false
         rw [hb,st_av,St7.cells] at e3
         rw [← hw1]
         simp [l_sl36_ProoftextBack_0,hi,hI,st_av,e3])
       (fun i hi hp1 => by
         have hI : (i:Int) < (p.length : Int) := by omega
         have hb : plainB p[i] = false := by simpa [hi] using hp1
         have e3 := plain36_D p[i] (hw _ (List.getElem_mem hi)) [] 0 false
         rw [hb,st_av,St7.cells] at e3
         simp [l_sl36_ProoftextBack_0,hi,hI,st_av,e3,live36_D])
       (by simp) (by simp [l_sl36_ProoftextBack_0]) (by simp)
     rw [all_range p St7.z plainB] at hloop
     simp only [Int.natCast_zero] at hloop
     cases hP : p.all plainB with
     | false =>
       simp only [hP,Bool.not_false,if_true] at hloop
       simp [IP_sl36_ProoftextBack,i_sl36_ProoftextBack,e1,e2,live36_D,hloop]
     | true =>
       simp only [hP,Bool.not_true,Bool.false_eq_true,if_false] at hloop
       have hpl := List.all_eq_true.1 hP
       have hli := List.all_eq_true.1 hL2
       have hok : ∀ s,s ∈ p → s.ok := fun s hs => plain_ok (hw s hs) (hkind s hs) (hpl s hs) (hli s hs)
       have hsm : ∀ s,s ∈ p → Pc 500000 50 (lineW s) := fun s hs => line_small (hw s hs) (hkind s hs) (hpl s hs) (hli s hs)
       have hlen : (allText (p.map lineW)).length ≤ 10000020 := Nat.le_trans (allText_bd2 500000 20 (p.map lineW) (by rw [List.length_map]; omega) fun x hx => by
           obtain ⟨s,hs,rfl⟩ := List.mem_map.1 hx
           exact (hsm s hs).2.2) (by decide)
       have e4 := fun (o:Own) => printP_D p (fun s hs => by
         have := hli s hs
         simp only [lightS,Bool.and_eq_true,decide_eq_true_eq] at this
         exact ⟨hw s hs,by omega,by omega,kindE_ne (hkind s hs)⟩) (by omega) (by omega) o [] 0 false
       by_cases hT : (65536:Int) < ((allText (p.map lineW)).length : Int)
       · generalize allText (p.map lineW) = tx at *
         simp [IP_sl36_ProoftextBack,i_sl36_ProoftextBack,e1,e2,live36_D,hloop,e4,hT]
       · have e5 := parseP_D (allText (p.map lineW)) [] 0 false
         rw [parse_lines hok (fun s hs => ⟨(hsm s hs).1,by have := (hsm s hs).2.1; omega⟩) (by omega) hc] at e5
         simp only [outQ] at e5
         have e6 := fun (o1 o2:Own) => same34_D p (p.map St7.norm) hl hw o1 o2 [] 0 false
         rw [(norms_same p hok).2] at e6
         generalize allText (p.map lineW) = tx at *
         generalize St7.avs (p.map St7.norm) = L2 at *
         generalize ownSt (p.map St7.norm) = o2 at *
         simp [IP_sl36_ProoftextBack,i_sl36_ProoftextBack,e1,e2,live36_D,hloop,e4,hT,e5,e6]
   · simp [IP_sl36_ProoftextBack,i_sl36_ProoftextBack,e1,e2,hc,live36_D]
end Go.Proofs.YtkofimhnehkdoaaGreatDoor.Rf
end
