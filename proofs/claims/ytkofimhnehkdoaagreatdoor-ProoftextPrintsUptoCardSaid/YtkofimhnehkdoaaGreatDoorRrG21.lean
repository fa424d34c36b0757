/- A part of the proof: see the last text. -/
import Derived.Test.YtkofimhnehkdoaaGreatDoorRrG20
import Derived.Test.YtkofimhnehkdoaaGreatDoorRrG19
import Derived.Test.YtkofimhnehkdoaaGreatDoorRrG17
import Derived.Test.YtkofimhnehkdoaaGreatDoorRrG18
import Derived.Test.YtkofimhnehkdoaaGreatDoorRrG15
import Derived.Test.YtkofimhnehkdoaaGreatDoorRrG16
set_option linter.unusedVariables false
set_option linter.unusedSimpArgs false
section
namespace Go.Proofs.YtkofimhnehkdoaaGreatDoor.Rf
section
variable {hp:List HObj} {lo:Nat}
theorem B0_fold (hp:List HObj) : hp ++ [.cells 110 [.nilp,.list [] .nil]] = BH hp [] := rfl
theorem print2_D {t:S} (hw:t.wf) (hb:t.text.length ≤ 140737488355328) (q:Bool) : callD G0 IP n_sx_Print [t.av] hp lo q = some (.ret (.str t.text) hp) := by
 rw [callD_eq]
 have e1 := write_D t hw (hp := hp) (lo := hp.length) (Nat.le_refl _) [] (by simpa using hb)
 have e2 := bstr_D (hp := hp) (lo := hp.length) (Nat.le_refl _) t.text hb
 rw [S.av_eq] at e1
 simp at e1
 rw [S.av_eq]
 simp [IP_sx_Print,i_sx_Print,B0_fold,e1,e2]
theorem print1_D (t:S) : t.wf → t.text.length ≤ 140737488355328 → ∀ (hp:List HObj) (lo:Nat) (q:Bool),callD G0 IP n_sr05_Print [t.av] hp lo q = some (.ret (.str t.text) hp) := by
 induction t using S.ind with | h t ih =>
 intro hw hb hp lo q
 rw [S.wf_eq] at hw
 obtain ⟨_,hl,_,hws⟩ := hw
 rw [callD_eq]
 have ht := S.text_eq t
 by_cases ha : t.atom = []
 · rw [if_pos ha] at ht
   rw [ht] at hb ⊢
   simp only [List.length_cons,List.length_append,List.length_nil] at hb
   have hloop := loop_iter (G := G0) (IP := IP) (lo := hp.length) (b := l_sr05_Print_0)
     (fun i => ⟨[(1,.box [.str t.atom,.list (S.avs t.list) (ownB t.o)]),(3,.str (40 :: S.texts true (t.list.take i))),(4,.int .i64 i)],hp⟩) t.list.length
     (r := (.exit 0,⟨[(1,.box [.str t.atom,.list (S.avs t.list) (ownB t.o)]),(3,.str (40 :: S.texts true t.list)),(4,.int .i64 t.list.length),(14,.bool false)],hp⟩)) (fun i hi => by
       have hle := texts_le (b := true) t.list (i + 1)
       rw [texts_take_len hi] at hle
       simp only [List.length_append] at hle
       have hw := wrap_succ hi hl
       have hiI : (i:Int) < (t.list.length : Int) := by omega
       have e3 := ih t.list[i] (List.getElem_mem hi) (hws _ (List.getElem_mem hi)) (by omega) hp hp.length false
       rw [S.av_eq] at e3
       by_cases h0 : i = 0
       · subst h0
         rw [texts_take_len hi]
         have hb1 : t.list[0].text.length + 1 ≤ 9223372036854775807 := by omega
         have hb2 : 1 + t.list[0].text.length ≤ 9223372036854775807 := by omega
         simp [l_sr05_Print_0,hi,S.av_eq t.list[0],S.texts,e3,hb1,hb2,show IntKind.wrap .i64 1 = 1 from rfl]
       · have h0' : 0 < i := by omega
         have hle2 : ((if true && decide (i = 0) then ([] : List UInt8) else [32])).length = 1 := by simp [h0]
         rw [hle2] at hle
         rw [texts_take_len hi,← hw]
         have hb1 : (S.texts true (List.take i t.list)).length + 1 + 1 ≤ 9223372036854775807 := by omega
         have hb2 : (S.texts true (List.take i t.list)).length + 1 + 1 + t.list[i].text.length ≤ 9223372036854775807 := by omega
         simp [l_sr05_Print_0,hi,hiI,h0,h0',S.av_eq t.list[i],e3,hb1,hb2])
     (by simp [l_sr05_Print_0]) (by simp)
   simp [S.texts,ha] at hloop
   have hb3 : (S.texts true t.list).length + 1 + 1 ≤ 9223372036854775807 := by omega
   rw [S.av_eq t]
   simp [IP_sr05_Print,i_sr05_Print,ha,hloop,hb3]
 · rw [if_neg ha] at ht
   rw [ht]
   rw [S.av_eq t]
   simp [IP_sr05_Print,i_sr05_Print,ha]
end
section
variable {lo:Nat}
end
end Go.Proofs.YtkofimhnehkdoaaGreatDoor.Rf
end
section
namespace Go.Proofs.YtkofimhnehkdoaaGreatDoor.Rf
def tokC (c:UInt8) : Bool := !blankC (c.toNat : Int) && !decide ((c.toNat : Int) = 59)
def Gp (g:List UInt8) : Prop := ∀ pre post,skipN (pre ++ (g ++ post)) pre.length = skipN (pre ++ (g ++ post)) (pre.length + g.length)
theorem Gp.nil : Gp [] := fun pre post => by simp
theorem Gp.app {a b:List UInt8} (ha:Gp a) (hb:Gp b) : Gp (a ++ b) := fun pre post => by
 have h1 := ha pre (b ++ post)
 have h2 := hb (pre ++ a) post
 simp only [List.append_assoc,List.length_append] at h1 h2 ⊢
 rw [h1,h2]; congr 1; omega
theorem plain_tok {c:UInt8} (h:plainC (c.toNat : Int) = true) : tokC c = true ∧ ¬ (c.toNat : Int) = 40 ∧ ¬ (c.toNat : Int) = 41 := by
 simp only [plainC,Bool.and_eq_true,decide_eq_true_eq,Bool.not_eq_true',decide_eq_false_iff_not] at h
 obtain ⟨h1,h2,h3,h4,h5⟩ := h
 refine ⟨?_,h3,h4⟩
 simp only [tokC,blankC,Bool.and_eq_true,Bool.not_eq_true',decide_eq_false_iff_not,Bool.or_eq_false_iff]
 exact ⟨⟨by omega,by omega,by omega,by omega⟩,h5⟩
mutual
inductive Enc : S → List UInt8 → Prop
 | atom {a:List UInt8} {o:Bool} : a ≠ [] → (∀ c,c ∈ a → plainC (c.toNat : Int) = true) → Enc (.mk a o []) a
 | list {o:Bool} {l:List S} {b:List UInt8} : EncL l b → Enc (.mk [] o l) (40 :: (b ++ [41]))
inductive EncL : List S → List UInt8 → Prop
 | nil {g:List UInt8} : Gp g → EncL [] g
 | cons {g e b:List UInt8} {t:S} {r:List S} : Gp g → Enc t e → EncL r b → (t.atom ≠ [] → ∀ c r,b = c :: r → plainC (c.toNat : Int) = false) → EncL (t :: r) (g ++ (e ++ b))
end
mutual
def S.depth : S → Nat
 | .mk a _ l => if a = [] then S.depths l + 1 else 1
def S.depths : List S → Nat
 | [] => 0
 | t :: r => max t.depth (S.depths r)
end
theorem S.depth_eq (t:S) : t.depth = if t.atom = [] then S.depths t.list + 1 else 1 := by cases t; rfl
theorem Enc.head {t:S} {e:List UInt8} (h:Enc t e) : ∃ c r,e = c :: r ∧ tokC c = true ∧ ¬ (c.toNat : Int) = 41 := by
 cases h with
 | atom h1 h2 =>
   cases e with
   | nil => exact absurd rfl h1
   | cons c r => exact ⟨c,r,rfl,(plain_tok (h2 c (by simp))).1,(plain_tok (h2 c (by simp))).2.2⟩
 | list h1 => exact ⟨40,_,rfl,by decide,by decide⟩
end Go.Proofs.YtkofimhnehkdoaaGreatDoor.Rf
end
section
namespace Go.Proofs.YtkofimhnehkdoaaGreatDoor.Rf
def allPlain (a:List UInt8) : Bool := a.all fun c => plainC (c.toNat : Int)
mutual
def S.right : S → Bool
 | .mk a _ l => if a = [] then S.rights l else l.isEmpty && allPlain a
def S.rights : List S → Bool
 | [] => true
 | t :: r => t.right && S.rights r
end
mutual
def S.valid : S → Nat → Bool
 | .mk a _ l,d => decide (d < 64) && (if a = [] then S.valids l (d + 1) else allPlain a && l.isEmpty)
def S.valids : List S → Nat → Bool
 | [],_ => true
 | t :: r,d => t.valid d && S.valids r d
end
theorem S.right_eq (t:S) : t.right = if t.atom = [] then S.rights t.list else t.list.isEmpty && allPlain t.atom := by cases t; rfl
theorem S.rights_iff : ∀ l : List S,S.rights l = true ↔ ∀ t,t ∈ l → t.right = true
 | [] => by simp [S.rights]
 | t :: r => by simp [S.rights,S.rights_iff r]
section
variable {hp:List HObj} {lo:Nat}
end
end Go.Proofs.YtkofimhnehkdoaaGreatDoor.Rf
end
section
namespace Go.Proofs.YtkofimhnehkdoaaGreatDoor.Rf
section
variable {hp:List HObj} {lo:Nat}
end
end Go.Proofs.YtkofimhnehkdoaaGreatDoor.Rf
end
section
namespace Go.Proofs.YtkofimhnehkdoaaGreatDoor.Rf
end Go.Proofs.YtkofimhnehkdoaaGreatDoor.Rf
end
section
namespace Go.Proofs.YtkofimhnehkdoaaGreatDoor.Rf
def ownW (acc:List T) : Own := if acc.isEmpty then .nil else .own 1 0
@[simp] theorem ownW_cp (acc:List T) : (ownW acc).cp = ownB acc.isEmpty := by cases acc <;> rfl
@[simp] theorem ownW_app (acc:List T) (x:T) : ownW (acc ++ [x]) = .own 1 0 := by cases acc <;> rfl
section
variable {hp:List HObj} {lo:Nat} (q:Bool)
end
end Go.Proofs.YtkofimhnehkdoaaGreatDoor.Rf
end
section
namespace Go.Proofs.YtkofimhnehkdoaaGreatDoor.Rf
section
variable {hp:List HObj} {lo:Nat} (q:Bool)
end
end Go.Proofs.YtkofimhnehkdoaaGreatDoor.Rf
end
section
namespace Go.Proofs.YtkofimhnehkdoaaGreatDoor.Rf
section
variable {hp:List HObj} {lo:Nat}
end
end Go.Proofs.YtkofimhnehkdoaaGreatDoor.Rf
end
section
namespace Go.Proofs.YtkofimhnehkdoaaGreatDoor.Rf
mutual
def T.cnt : T → Int → Int → Int
 | .mk _ _ _ _ _ as,d,n => if d < 1 ∨ n < 1 then -1 else T.cnts as (d - 1) (n - 1)
def T.cnts : List T → Int → Int → Int
 | [],_,n => n
 | t :: r,d,n => if 0 ≤ n then T.cnts r d (t.cnt d n) else n
end
theorem T.cnt_eq (t:T) (d n:Int) : t.cnt d n = if d < 1 ∨ n < 1 then -1 else T.cnts t.args (d - 1) (n - 1) := by cases t; rfl
theorem T.cnts_neg : ∀ (l:List T) (d n:Int),n < 0 → T.cnts l d n = n
 | [],d,n,_ => rfl
 | t :: r,d,n,h => by simp only [T.cnts]; rw [if_neg (by omega)]
theorem T.cnt_le (t:T) : ∀ d n : Int,0 ≤ n → -1 ≤ t.cnt d n ∧ t.cnt d n ≤ n := by
 induction t using T.ind with | h t ih =>
 have hl : ∀ (l:List T),(∀ u,u ∈ l → ∀ d n : Int,0 ≤ n → -1 ≤ u.cnt d n ∧ u.cnt d n ≤ n) → ∀ d n : Int,-1 ≤ n → -1 ≤ T.cnts l d n ∧ T.cnts l d n ≤ n := by
   intro l
   induction l with
   | nil => intro _ d n h; simp only [T.cnts]; omega
   | cons x r ihr =>
     intro h d n hn
     simp only [T.cnts]
     split
     · rename_i h0
       have h1 := h x (by simp) d n h0
       have h2 := ihr (fun u hu => h u (by simp [hu])) d (x.cnt d n) h1.1
       omega
     · omega
 intro d n hn
 rw [T.cnt_eq]
 split
 · omega
 · have := hl t.args ih (d - 1) (n - 1) (by omega); omega
theorem T.cnt_ge (t:T) : ∀ d n : Int,0 ≤ t.cnt d n → t.cnt d n = n - t.size := by
 induction t using T.ind with | h t ih =>
 have hl : ∀ (l:List T),(∀ u,u ∈ l → ∀ d n : Int,0 ≤ u.cnt d n → u.cnt d n = n - u.size) → ∀ d n : Int,0 ≤ T.cnts l d n → T.cnts l d n = n - T.sizes l := by
   intro l
   induction l with
   | nil => intro _ d n _; simp [T.cnts,T.sizes]
   | cons x r ihr =>
     intro h d n hn
     simp only [T.cnts] at hn ⊢
     split
     · rename_i h0
       rw [if_pos h0] at hn
       by_cases hx : 0 ≤ x.cnt d n
       · rw [ihr (fun u hu => h u (by simp [hu])) _ _ hn,h x (by simp) d n hx]; simp only [T.sizes]; omega
       · rw [T.cnts_neg r _ _ (by omega)] at hn; exact absurd hn hx
     · rename_i h0; rw [if_neg h0] at hn; exact absurd hn h0
 intro d n hn
 rw [T.cnt_eq] at hn ⊢
 split at hn
 · omega
 · rename_i h; rw [if_neg h,hl t.args ih _ _ hn,T.size_eq]; omega
end Go.Proofs.YtkofimhnehkdoaaGreatDoor.Rf
end
section
namespace Go.Proofs.YtkofimhnehkdoaaGreatDoor.Rf
section
variable {hp:List HObj} {lo:Nat}
theorem count_D (t:T) : t.wf → ∀ (d n:Int),-1000 ≤ d → d ≤ 1000 → 0 ≤ n → n ≤ 10000 → ∀ (hp:List HObj) (lo:Nat) (q:Bool),callD G0 IP n_sr06_count [t.av,.int .i64 d,.int .i64 n] hp lo q = some (.ret (.int .i64 (t.cnt d n)) hp) := by
 induction t using T.ind with | h t ih =>
 intro hw d n hd0 hd1 h0 h1 hp lo q
 rw [T.wf_eq] at hw
 obtain ⟨_,_,_,_,hl,_,hws⟩ := hw
 have hloop : ∀ (k i:Nat) (n:Int),i + k = t.args.length → -1 ≤ n → n ≤ 10000 → 1 ≤ d → ∃ j : Int,loopD G0 IP hp.length l_sr06_count_0 ⟨[(1,.int .i64 d),(2,.int .i64 n),(3,.box t.cells),(7,.int .i64 i)],hp⟩ =
     some (.exit 0,⟨[(1,.int .i64 d),(2,.int .i64 (T.cnts (t.args.drop i) (d - 1) n)),(3,.box t.cells),(7,.int .i64 j),(24,.bool false)],hp⟩) := by
   intro k
   induction k with
   | zero =>
     intro i n hi _ _ _
     have hI : ¬ (i:Int) < (t.args.length : Int) := by omega
     refine ⟨i,?_⟩
     rw [loopD_eq,loopBody,List.drop_eq_nil_of_le (by omega)]
     simp [l_sr06_count_0,hI,T.cnts]
   | succ k ihk =>
     intro i n hi hn0 hn hd
     have hlt : i < t.args.length := by omega
     have hI : (i:Int) < (t.args.length : Int) := by omega
     rw [List.drop_eq_getElem_cons hlt]
     simp only [T.cnts]
     by_cases hneg : 0 ≤ n
     · have e1 := ih t.args[i] (List.getElem_mem hlt) (hws _ (List.getElem_mem hlt)) (d - 1) n (by omega) (by omega) hneg hn hp hp.length false
       have hle := T.cnt_le t.args[i] (d - 1) n hneg
       obtain ⟨j,e2⟩ := ihk (i + 1) (t.args[i].cnt (d - 1) n) (by omega) hle.1 (by omega) hd
       have hw1 := wrap_succ hlt hl
       have hw2 : IntKind.wrap .i64 (d - 1) = d - 1 := wrap_small (by omega) (by omega)
       rw [T.av_eq] at e1
       refine ⟨j,?_⟩
       rw [loopD_eq,loopBody,if_pos hneg]
       simp [l_sr06_count_0,hI,hlt,hneg,T.av_eq t.args[i],hw2,e1,hw1]
       exact e2
     · refine ⟨i,?_⟩
       rw [loopD_eq,loopBody,if_neg hneg]
       simp [l_sr06_count_0,hI,hlt,hneg]
 rw [callD_eq,T.cnt_eq,T.av_eq]
 by_cases hd : d < 1
 · simp [IP_sr06_count,i_sr06_count,hd]
 · by_cases hn : n < 1
   · simp [IP_sr06_count,i_sr06_count,hd,hn]
   · obtain ⟨j,e2⟩ := hloop t.args.length 0 (n - 1) (by omega) (by omega) (by omega) (by omega)
     have hw2 : IntKind.wrap .i64 (n - 1) = n - 1 := wrap_small (by omega) (by omega)
     simp at e2
     simp [IP_sr06_count,i_sr06_count,hd,hn,hw2,e2]
theorem light_D (t:T) (hw:t.wf) (d n:Int) (hd0:-1000 ≤ d) (hd1:d ≤ 1000) (h0:0 ≤ n) (h1:n ≤ 10000) (hp:List HObj) (lo:Nat) (q:Bool) : ∃ v : T,callD G0 IP n_sr06_Light [t.av,.int .i64 d,.int .i64 n] hp lo q = some (.ret (.tup [v.av,.bool (decide (0 ≤ t.cnt d n))]) hp) := by
 have e1 := count_D t hw d n hd0 hd1 h0 h1
 rw [callD_eq]
 rw [T.av_eq] at e1 ⊢
 by_cases h : 0 ≤ t.cnt d n
 · have h' : ¬ t.cnt d n < 0 := by omega
   exact ⟨t,by simp [IP_sr06_Light,i_sr06_Light,e1,h,h',T.av_eq,T.avs_closed]⟩
 · have h' : t.cnt d n < 0 := by omega
   exact ⟨.mk 0 0 0 [] true [],by simp [IP_sr06_Light,i_sr06_Light,e1,h,h']; rfl⟩
end
end Go.Proofs.YtkofimhnehkdoaaGreatDoor.Rf
end
section
namespace Go.Proofs.YtkofimhnehkdoaaGreatDoor.Rf
def same2 {α:Type} (p:α → α → Bool) : List α → List α → Bool
 | [],[] => true
 | a :: r,b :: r' => p a b && same2 p r r'
 | _,_ => false
def eqI (a b:Int) : Bool := decide (a = b)
def Sb.same (s t:Sb) : Bool := decide (s.name = t.name) && s.t.same t.t
def St7.same (s t:St7) : Bool := decide (s.kind = t.kind) && (same2 eqI s.refs t.refs && (decide (s.rule = t.rule) && (same2 Sb.same s.subs t.subs && (s.a.same t.a && s.b.same t.b))))
section
variable {hp:List HObj} {lo:Nat}
set_option maxHeartbeats 4000000 in
set_option maxRecDepth 8192 in
end
end Go.Proofs.YtkofimhnehkdoaaGreatDoor.Rf
end
section
namespace Go.Proofs.YtkofimhnehkdoaaGreatDoor.Rf
theorem same_parts {x y:S} (h:x.same y = true) : x.atom = y.atom ∧ S.sames x.list y.list = true := by
 rw [S.same_eq] at h
 simpa using h
def refsW (l:List Int) : S := .mk [] l.isEmpty (l.map fun n => aS (decZ n))
def pairW (x:Sb) : S := .mk [] false [aS x.name,writeT x.t]
def subsW (l:List Sb) : S := .mk [] l.isEmpty (l.map pairW)
def restW (s:St7) : List S := if s.kind = 5 then [aS (decZ s.rule),subsW s.subs] else if s.kind = 12 then [aS (decZ s.rule)] else
 if s.kind = 1 ∨ s.kind = 6 ∨ s.kind = 7 ∨ s.kind = 8 then [writeT s.a] else if s.kind = 4 then [writeT s.a,writeT s.b] else []
def lineW (s:St7) : S := .mk [] false (aS (kindE s.kind) :: refsW s.refs :: restW s)
def i64B (n:Int) : Prop := -9223372036854775808 ≤ n ∧ n ≤ 9223372036854775807
structure St7.ok (s:St7) : Prop where
 kind : 1 ≤ s.kind ∧ s.kind ≤ 12
 refs : ∀ n,n ∈ s.refs → i64B n
 rule : i64B s.rule
 rule0 : s.kind ≠ 5 → s.kind ≠ 12 → s.rule = 0
 subs0 : s.kind ≠ 5 → s.subs = []
 subs : ∀ x,x ∈ s.subs → x.name ≠ [] ∧ x.t.wf ∧ x.t.valid = true
 a0 : ¬ (s.kind = 1 ∨ s.kind = 6 ∨ s.kind = 7 ∨ s.kind = 8 ∨ s.kind = 4) → T.z.same s.a = true
 a1 : (s.kind = 1 ∨ s.kind = 6 ∨ s.kind = 7 ∨ s.kind = 8 ∨ s.kind = 4) → s.a.wf ∧ s.a.valid = true
 b0 : s.kind ≠ 4 → T.z.same s.b = true
 b1 : s.kind = 4 → s.b.wf ∧ s.b.valid = true
end Go.Proofs.YtkofimhnehkdoaaGreatDoor.Rf
end
section
namespace Go.Proofs.YtkofimhnehkdoaaGreatDoor.Rf
theorem arE_ne0 {op:Int} (h1:op ≠ 1) (h2:op ≠ 2) (h3:op ≠ 24) (h4:op ≠ 25) : arE op ≠ 0 := by
 unfold arE
 split
 · omega
 · rw [if_neg (by omega)]; split
   · omega
   · split <;> omega
section
variable {hp:List HObj} {lo:Nat}
set_option maxHeartbeats 4000000 in
theorem notable_D (t:T) (hw:t.wf) (hp:List HObj) (lo:Nat) (q:Bool) : callD G0 IP n_tt_notable [t.av] hp lo q = some (.ret (.bool (notE t)) hp) := by
 rw [callD_eq]
 have hwf := (T.wf_eq t).1 hw
 cases t with | mk op w v n o as =>
 rw [notE_mk,T.av_eq]
 simp only [T.op,T.width,T.val,T.name,T.o,T.args] at hwf ⊢
 have en := fun hp lo q => name_D (hp := hp) (lo := lo) q n hwf.2.2.2.1
 by_cases h1 : w < 0
 · have h1' : ¬ 0 ≤ w := by omega
   simp [IP_tt_notable,i_tt_notable,h1,h1']
 have h1' : 0 ≤ w := by omega
 by_cases h2 : 64 < w
 · have h2' : ¬ w ≤ 64 := by omega
   simp [IP_tt_notable,i_tt_notable,h1,h1',h2,h2']
 have h2' : w ≤ 64 := by omega
 by_cases h3 : (as.length : Int) = arE op
 · by_cases k1 : op = 1
   · subst k1
     simp [IP_tt_notable,i_tt_notable,arity_D,h1,h1',h2,h2',h3,en]
     cases nameOk n <;> simp
   by_cases k2 : op = 24
   · subst k2
     simp [IP_tt_notable,i_tt_notable,arity_D,h1,h1',h2,h2',h3,en]
     cases nameOk n <;> simp
   by_cases k3 : op = 25
   · subst k3
     simp [IP_tt_notable,i_tt_notable,arity_D,h1,h1',h2,h2',h3,en]
     cases nameOk n <;> simp
   by_cases k4 : op = 2
   · subst k4
     simp [IP_tt_notable,i_tt_notable,arity_D,h1,h1',h2,h2',h3]
     cases n <;> simp
   by_cases k5 : op = 21
   · subst k5
     simp [IP_tt_notable,i_tt_notable,arity_D,h1,h1',h2,h2',h3]
     cases n <;> simp
   rcases n with _ | ⟨c,n'⟩
   · simp [IP_tt_notable,i_tt_notable,arity_D,h1,h1',h2,h2',h3,k1,k2,k3,k4,k5]
   · simp [IP_tt_notable,i_tt_notable,arity_D,h1,h1',h2,h2',h3,k1,k2,k3,k4,k5]
 · simp [IP_tt_notable,i_tt_notable,arity_D,h1,h1',h2,h2',h3]
set_option maxHeartbeats 4000000 in
theorem notable7_D (t:T) (hw:t.wf) (hp:List HObj) (lo:Nat) (q:Bool) : callD G0 IP n_sr07_Notable [t.av] hp lo q = some (.ret (.bool (notE t)) hp) := by
 rw [callD_eq]
 have hwf := (T.wf_eq t).1 hw
 cases t with | mk op w v n o as =>
 rw [notE_mk,T.av_eq]
 simp only [T.op,T.width,T.val,T.name,T.o,T.args] at hwf ⊢
 have en := fun hp lo q => name7_D (hp := hp) (lo := lo) q n hwf.2.2.2.1
 by_cases h1 : w < 0
 · have h1' : ¬ 0 ≤ w := by omega
   simp [IP_sr07_Notable,i_sr07_Notable,h1,h1']
 have h1' : 0 ≤ w := by omega
 by_cases h2 : 64 < w
 · have h2' : ¬ w ≤ 64 := by omega
   simp [IP_sr07_Notable,i_sr07_Notable,h1,h1',h2,h2']
 have h2' : w ≤ 64 := by omega
 by_cases k1 : op = 1
 · subst k1
   have e : arE 1 = 0 := rfl
   by_cases k : v = 0
   · simp [IP_sr07_Notable,i_sr07_Notable,h1,h1',h2,h2',en,e,k]
     cases nameOk n <;> simp
   · simp [IP_sr07_Notable,i_sr07_Notable,h1,h1',h2,h2',en,e,k]
     cases nameOk n <;> simp
 by_cases k2 : op = 24
 · subst k2
   have e : arE 24 = 0 := rfl
   by_cases k : v = 0
   · simp [IP_sr07_Notable,i_sr07_Notable,h1,h1',h2,h2',en,e,k]
     cases nameOk n <;> simp
   · simp [IP_sr07_Notable,i_sr07_Notable,h1,h1',h2,h2',en,e,k]
     cases nameOk n <;> simp
 by_cases k3 : op = 25
 · subst k3
   have e : arE 25 = 0 := rfl
   by_cases k : v = 0
   · simp [IP_sr07_Notable,i_sr07_Notable,h1,h1',h2,h2',en,e,k]
     cases nameOk n <;> simp
   · simp [IP_sr07_Notable,i_sr07_Notable,h1,h1',h2,h2',en,e,k]
     cases nameOk n <;> simp
 by_cases k4 : op = 2
 · subst k4
   have e : arE 2 = 0 := rfl
   rcases n with _ | ⟨c,n'⟩
   · simp [IP_sr07_Notable,i_sr07_Notable,h1,h1',h2,h2',e]
   · simp [IP_sr07_Notable,i_sr07_Notable,h1,h1',h2,h2',e]
 have hne := arE_ne0 k1 k4 k2 k3
 have hor : ¬ (op = 1 ∨ op = 24 ∨ op = 25) := by omega
 rw [if_neg hor]
 rcases n with _ | ⟨c,n'⟩
 · by_cases k5 : op = 21
   · rw [if_pos (.inr k5)]
     subst k5
     by_cases k8 : as = []
     · subst k8
       have e : ¬ (0:Int) = arE 21 := fun e => hne e.symm
       by_cases k7 : v = 0
       · simp [IP_sr07_Notable,i_sr07_Notable,arity4_D,h1,h1',h2,h2',k7,e]
       · simp [IP_sr07_Notable,i_sr07_Notable,arity4_D,h1,h1',h2,h2',k7,e]
     · have kl : 0 < as.length := List.length_pos_iff.2 k8
       by_cases k7 : v = 0
       · simp [IP_sr07_Notable,i_sr07_Notable,arity4_D,h1,h1',h2,h2',k7,kl]
       · simp [IP_sr07_Notable,i_sr07_Notable,arity4_D,h1,h1',h2,h2',k7,kl]
   · rw [if_neg (by omega)]
     by_cases k7 : v = 0
     · by_cases k8 : as = []
       · subst k8
         have e : ¬ (0:Int) = arE op := fun e => hne e.symm
         simp [IP_sr07_Notable,i_sr07_Notable,arity4_D,h1,h1',h2,h2',k1,k2,k3,k4,k5,k7,e]
       · have kl : 0 < as.length := List.length_pos_iff.2 k8
         simp [IP_sr07_Notable,i_sr07_Notable,arity4_D,h1,h1',h2,h2',k1,k2,k3,k4,k5,k7,kl]
     · simp [IP_sr07_Notable,i_sr07_Notable,arity4_D,h1,h1',h2,h2',k1,k2,k3,k4,k5,k7]
 · simp [IP_sr07_Notable,i_sr07_Notable,arity4_D,h1,h1',h2,h2',k1,k2,k3,k4]
theorem atom_D (s:List UInt8) (hp:List HObj) (lo:Nat) (q:Bool) : callD G0 IP n_tt_atom [.str s] hp lo q = some (.ret (.agg [.str s,.list [] .nil]) hp) := by
 rw [callD_eq]
 simp [IP_tt_atom,i_tt_atom]
end
end Go.Proofs.YtkofimhnehkdoaaGreatDoor.Rf
end
section
namespace Go.Proofs.YtkofimhnehkdoaaGreatDoor.Rf
theorem right_atom {t:S} (h:t.right = true) (ha:t.atom ≠ []) : t.list = [] ∧ ∀ c,c ∈ t.atom → plainC (c.toNat : Int) = true := by
 rw [S.right_eq,if_neg ha] at h
 simp only [Bool.and_eq_true,List.isEmpty_iff,allPlain,List.all_eq_true] at h
 exact h
theorem plain_name {n:Int} (h:nameC n = true) : plainC n = true := by
 simp only [nameC,lowC,Bool.or_eq_true,Bool.and_eq_true,decide_eq_true_eq] at h
 simp only [plainC,Bool.and_eq_true,decide_eq_true_eq,Bool.not_eq_true',decide_eq_false_iff_not]
 omega
theorem plain_dig {c:UInt8} (h:isDig c = true) : plainC (c.toNat : Int) = true := by
 simp only [isDig,Bool.and_eq_true,decide_eq_true_eq] at h
 simp only [plainC,Bool.and_eq_true,decide_eq_true_eq,Bool.not_eq_true',decide_eq_false_iff_not]
 omega
theorem decI_plain (n:Int) : ∀ c,c ∈ decI n → plainC (c.toNat : Int) = true := fun c hc => plain_dig (decI_digs n c hc)
theorem name_plain {n:List UInt8} (h:nameOk n = true) : ∀ c,c ∈ n → plainC (c.toNat : Int) = true := fun c hc => plain_name ((nameOk_mem h).2.2.2.2 c hc)
theorem aS_right {a:List UInt8} (h:a ≠ []) (hp:∀ c,c ∈ a → plainC (c.toNat : Int) = true) : (aS a).right = true := by
 rw [aS,S.right,if_neg h]
 simp only [List.isEmpty_nil,Bool.true_and,allPlain,List.all_eq_true]
 exact hp
theorem nameE_plain {op:Int} (h:opOk op = true) : nameE op ≠ [] ∧ (nameE op).length ≤ 7 ∧ ∀ c,c ∈ nameE op → plainC (c.toNat : Int) = true := by
 rcases opOk_cases h with rfl | rfl | rfl | rfl | rfl | rfl | rfl | rfl | rfl | rfl | rfl | rfl | rfl | rfl | rfl | rfl | rfl | rfl | rfl | rfl | rfl | rfl | rfl | rfl | rfl | rfl
 all_goals decide +kernel
theorem S.rights_app : ∀ (a b:List S),S.rights (a ++ b) = (S.rights a && S.rights b)
 | [],b => rfl
 | t :: r,b => by simp [S.rights,S.rights_app r b,Bool.and_assoc]
theorem headW_right {op:Int} (h:opOk op = true) (w v:Int) : S.rights (headW op w v) = true := by
 have hn := nameE_plain h
 unfold headW
 simp only [S.rights,aS_right hn.1 hn.2.2,Bool.true_and,S.rights_app]
 have hd : ∀ n,(aS (decI n)).right = true := fun n => aS_right (dec_ne _) (decI_plain n)
 split <;> split <;> simp [S.rights,hd]
mutual
theorem write_right : ∀ t : T,(writeT t).right = true
 | .mk op w v n o as => by
   rw [writeT]
   by_cases h : notE (.mk op w v n o as) = false
   · rw [if_pos h]; rfl
   rw [if_neg h]
   have hN : notE (.mk op w v n o as) = true := by cases hh : notE (.mk op w v n o as) <;> simp_all
   rw [notE_mk] at hN
   simp only [Bool.and_eq_true,decide_eq_true_eq] at hN
   obtain ⟨n0,n1,n2,n3⟩ := hN
   have hop : opOk op = true := arE_ok (by omega)
   have h58 : plainC ((58:UInt8).toNat : Int) = true := by decide
   have nm1 : (op = 1 ∨ op = 24 ∨ op = 25) → ∀ c,c ∈ n ++ 58 :: decI w → plainC (c.toNat : Int) = true := fun e c hc => by
     rw [if_pos e] at n3
     simp only [Bool.and_eq_true,decide_eq_true_eq] at n3
     simp only [List.mem_append,List.mem_cons] at hc
     rcases hc with hc | rfl | hc
     · exact name_plain n3.1 c hc
     · exact h58
     · exact decI_plain w c hc
   by_cases h1 : op = 1
   · rw [if_pos h1]; exact aS_right (by simp) (nm1 (.inl h1))
   rw [if_neg h1]
   by_cases h2 : op = 24
   · rw [if_pos h2]; refine aS_right (by simp) fun c hc => ?_
     rcases List.mem_cons.1 hc with rfl | hc
     · decide
     · exact nm1 (.inr (.inl h2)) c hc
   rw [if_neg h2]
   by_cases h3 : op = 25
   · rw [if_pos h3]; refine aS_right (by simp) fun c hc => ?_
     rcases List.mem_cons.1 hc with rfl | hc
     · decide
     · exact nm1 (.inr (.inr h3)) c hc
   rw [if_neg h3]
   by_cases h4 : op = 2
   · rw [if_pos h4]; refine aS_right (by simp) fun c hc => ?_
     simp only [List.mem_append,List.mem_cons] at hc
     rcases hc with hc | rfl | hc
     · exact decI_plain v c hc
     · exact h58
     · exact decI_plain w c hc
   rw [if_neg h4,S.right,if_pos rfl,S.rights_app,headW_right hop,writes_right as]; rfl
theorem writes_right : ∀ as : List T,S.rights (writeTs as) = true
 | [] => rfl
 | t :: r => by simp [writeTs,S.rights,write_right t,writes_right r]
end
mutual
def T.dep : T → Nat
 | .mk _ _ _ _ _ as => 1 + T.deps as
def T.deps : List T → Nat
 | [] => 0
 | t :: r => max t.dep (T.deps r)
end
theorem T.dep_pos (t:T) : 1 ≤ t.dep := by cases t; simp [T.dep]
theorem aS_depth {a:List UInt8} (h:a ≠ []) : (aS a).depth = 1 := by simp [aS,S.depth,h]
theorem S.depths_app2 : ∀ (a b:List S),S.depths (a ++ b) = max (S.depths a) (S.depths b)
 | [],b => by simp [S.depths]
 | t :: r,b => by simp [S.depths,S.depths_app2 r b]
theorem headW_depth {op:Int} (h:opOk op = true) (w v:Int) : S.depths (headW op w v) = 1 := by
 have hn := nameE_plain h
 have hd : ∀ n,(aS (decI n)).depth = 1 := fun n => aS_depth (dec_ne _)
 unfold headW
 simp only [S.depths,aS_depth hn.1,S.depths_app2]
 split <;> split <;> simp [S.depths,hd]
mutual
theorem write_depth : ∀ t : T,(writeT t).depth ≤ t.dep
 | .mk op w v n o as => by
   have hp := T.dep_pos (.mk op w v n o as)
   rw [writeT]
   by_cases h : notE (.mk op w v n o as) = false
   · rw [if_pos h,aS_depth (by simp)]; exact hp
   rw [if_neg h]
   have hN : notE (.mk op w v n o as) = true := by cases hh : notE (.mk op w v n o as) <;> simp_all
   rw [notE_mk] at hN
   simp only [Bool.and_eq_true,decide_eq_true_eq] at hN
   obtain ⟨n0,n1,n2,n3⟩ := hN
   have hop : opOk op = true := arE_ok (by omega)
   by_cases h1 : op = 1
   · rw [if_pos h1,aS_depth (by simp)]; exact hp
   rw [if_neg h1]
   by_cases h2 : op = 24
   · rw [if_pos h2,aS_depth (by simp)]; exact hp
   rw [if_neg h2]
   by_cases h3 : op = 25
   · rw [if_pos h3,aS_depth (by simp)]; exact hp
   rw [if_neg h3]
   by_cases h4 : op = 2
   · rw [if_pos h4,aS_depth (by simp)]; exact hp
   rw [if_neg h4,S.depth,if_pos rfl,S.depths_app2,headW_depth hop]
   have hne := arE_ne hop h1 h4 h2 h3
   have ih := writes_depth as
   have : 1 ≤ T.deps as := by
     cases as with
     | nil => simp at n2; exact absurd n2.symm hne
     | cons t r => have := T.dep_pos t; simp only [T.deps]; omega
   simp only [T.dep]; omega
theorem writes_depth : ∀ as : List T,S.depths (writeTs as) ≤ T.deps as
 | [] => by simp [writeTs,S.depths,T.deps]
 | t :: r => by
   have a := write_depth t
   have b := writes_depth r
   simp only [writeTs,S.depths,T.deps]; omega
end
theorem decI_len {n:Int} (h:n < 18446744073709551616) : (decI n).length ≤ 20 := dec_len20 (by omega)
theorem aS_text (a:List UInt8) (h:a ≠ []) : (aS a).text = a := by simp [aS,S.text,h]
theorem texts_app2 : ∀ (a b:List S),a ≠ [] → S.texts true (a ++ b) = S.texts true a ++ S.texts false b := by
 have h0 : ∀ (a b:List S),S.texts false (a ++ b) = S.texts false a ++ S.texts false b := by
   intro a
   induction a with
   | nil => intro b; rfl
   | cons x r ih => intro b; simp [S.texts,ih b]
 intro a b h
 cases a with
 | nil => exact absurd rfl h
 | cons x r => simp [S.texts,h0 r b]
theorem headW_len {op w v:Int} (h:opOk op = true) (hw:w < 18446744073709551616) (hv:v < 18446744073709551616) : (S.texts true (headW op w v)).length ≤ 50 := by
 have hn := nameE_plain h
 have l1 := decI_len hw
 have l2 := decI_len hv
 have t1 := aS_text (decI w) (dec_ne _)
 have t2 := aS_text (decI v) (dec_ne _)
 unfold headW
 simp only [S.texts,aS_text _ hn.1]
 by_cases h1 : op = 21
 · simp [h1,S.texts,t1,t2]; rw [h1] at hn; omega
 · by_cases h2 : op = 22 ∨ op = 23
   · simp [h1,h2,S.texts,t1]; omega
   · simp [h1,h2,S.texts]; omega
mutual
theorem write_len : ∀ t : T,t.wf → (writeT t).text.length + 1 ≤ 64 * t.size
 | .mk op w v n o as,hw => by
   simp only [T.wf] at hw
   obtain ⟨_,w2,w3,_,_,_,w7⟩ := hw
   have wv : 0 ≤ v ∧ v < 18446744073709551616 := by simp [Lit.wf,IntKind.min,IntKind.max,IntKind.signed,IntKind.bits] at w3; omega
   have ih := writes_len as w7
   rw [writeT,T.size]
   by_cases h : notE (.mk op w v n o as) = false
   · rw [if_pos h,aS_text _ (by simp)]; simp; omega
   rw [if_neg h]
   have hN : notE (.mk op w v n o as) = true := by cases hh : notE (.mk op w v n o as) <;> simp_all
   rw [notE_mk] at hN
   simp only [Bool.and_eq_true,decide_eq_true_eq] at hN
   obtain ⟨n0,n1,n2,n3⟩ := hN
   have hop : opOk op = true := arE_ok (by omega)
   have l1 := decI_len (n := w) (by omega)
   have l2 := decI_len wv.2
   have nl : (op = 1 ∨ op = 24 ∨ op = 25) → n.length ≤ 16 := fun e => by
     rw [if_pos e] at n3
     simp only [Bool.and_eq_true,decide_eq_true_eq] at n3
     exact (nameOk_mem n3.1).2.1
   by_cases h1 : op = 1
   · have := nl (.inl h1)
     rw [if_pos h1,aS_text _ (by simp)]; simp; omega
   rw [if_neg h1]
   by_cases h2 : op = 24
   · have := nl (.inr (.inl h2))
     rw [if_pos h2,aS_text _ (by simp)]; simp; omega
   rw [if_neg h2]
   by_cases h3 : op = 25
   · have := nl (.inr (.inr h3))
     rw [if_pos h3,aS_text _ (by simp)]; simp; omega
   rw [if_neg h3]
   by_cases h4 : op = 2
   · rw [if_pos h4,aS_text _ (by simp)]; simp; omega
   rw [if_neg h4,S.text,if_pos rfl,texts_app2 _ _ (by simp [headW])]
   have l3 := headW_len (w := w) hop (by omega) wv.2
   simp; omega
theorem writes_len : ∀ as : List T,T.wfs as → (S.texts false (writeTs as)).length ≤ 64 * T.sizes as
 | [],_ => by simp [writeTs,S.texts,T.sizes]
 | t :: r,hw => by
   simp only [T.wfs] at hw
   have a := write_len t hw.1
   have b := writes_len r hw.2
   simp only [writeTs,S.texts,T.sizes,List.length_append]
   simp; omega
end
mutual
theorem write_wf : ∀ t : T,t.wf → (writeT t).wf
 | .mk op w v n o as,hw => by
   simp only [T.wf] at hw
   obtain ⟨_,w2,w3,_,wl,_,w7⟩ := hw
   have wv : 0 ≤ v ∧ v < 18446744073709551616 := by simp [Lit.wf,IntKind.min,IntKind.max,IntKind.signed,IntKind.bits] at w3; omega
   have ih := writes_wf as w7
   have hA : ∀ {a:List UInt8},a.length ≤ 1000 → (aS a).wf := fun h => by simp only [aS,S.wf,S.wfs]; exact ⟨by omega,by simp,by simp,trivial⟩
   rw [writeT]
   by_cases h : notE (.mk op w v n o as) = false
   · rw [if_pos h]; exact hA (by simp)
   rw [if_neg h]
   have hN : notE (.mk op w v n o as) = true := by cases hh : notE (.mk op w v n o as) <;> simp_all
   rw [notE_mk] at hN
   simp only [Bool.and_eq_true,decide_eq_true_eq] at hN
   obtain ⟨n0,n1,n2,n3⟩ := hN
   have hop : opOk op = true := arE_ok (by omega)
   have l1 := decI_len (n := w) (by omega)
   have l2 := decI_len wv.2
   have nl : (op = 1 ∨ op = 24 ∨ op = 25) → n.length ≤ 16 := fun e => by
     rw [if_pos e] at n3
     simp only [Bool.and_eq_true,decide_eq_true_eq] at n3
     exact (nameOk_mem n3.1).2.1
   by_cases h1 : op = 1
   · have := nl (.inl h1)
     rw [if_pos h1]; exact hA (by simp; omega)
   rw [if_neg h1]
   by_cases h2 : op = 24
   · have := nl (.inr (.inl h2))
     rw [if_pos h2]; exact hA (by simp; omega)
   rw [if_neg h2]
   by_cases h3 : op = 25
   · have := nl (.inr (.inr h3))
     rw [if_pos h3]; exact hA (by simp; omega)
   rw [if_neg h3]
   by_cases h4 : op = 2
   · rw [if_pos h4]; exact hA (by simp; omega)
   rw [if_neg h4]
   have hn := nameE_plain hop
   have k1 := hA (a := nameE op) (by omega)
   have k2 := hA (a := decI v) (by omega)
   have k3 := hA (a := decI w) (by omega)
   have hl : (headW op w v).length ≤ 3 := by unfold headW; split <;> split <;> simp
   have i6 : arE op ≤ 3 := by
     unfold arE; split
     · omega
     · split
       · omega
       · split
         · omega
         · split <;> omega
   simp only [S.wf]
   refine ⟨by simp,by rw [List.length_append,writeTs_len]; omega,by simp,?_⟩
   rw [S.wfs_iff]
   intro t ht
   rcases List.mem_append.1 ht with ht | ht
   · have : t = aS (nameE op) ∨ t = aS (decI v) ∨ t = aS (decI w) := by
       unfold headW at ht
       rcases List.mem_cons.1 ht with e | ht
       · exact .inl e
       · rcases List.mem_append.1 ht with ht | ht
         · split at ht
           · simp at ht; exact .inr (.inl ht)
           · simp at ht
         · split at ht
           · simp at ht; exact .inr (.inr ht)
           · simp at ht
     rcases this with rfl | rfl | rfl
     · exact k1
     · exact k2
     · exact k3
   · exact (S.wfs_iff _).1 ih t ht
theorem writes_wf : ∀ as : List T,T.wfs as → S.wfs (writeTs as)
 | [],_ => trivial
 | t :: r,hw => by
   simp only [T.wfs] at hw
   exact ⟨write_wf t hw.1,writes_wf r hw.2⟩
end
end Go.Proofs.YtkofimhnehkdoaaGreatDoor.Rf
end
section
namespace Go.Proofs.YtkofimhnehkdoaaGreatDoor.Rf
theorem ownB_false : ownB false = .no := rfl
theorem S.avs_cons (x:S) (l:List S) : S.avs (x :: l) = x.av :: S.avs l := rfl
theorem aS_av (a:List UInt8) : (aS a).av = .agg [.str a,.list [] .nil] := rfl
abbrev boxS : AV := .box [.str [],.list [] .nil]
section
variable {hp:List HObj} {lo:Nat}
set_option maxHeartbeats 1000000 in
theorem writeT_L (as:List T) (o:Own) (hl10:as.length ≤ 10) : ∀ (r p:List T) (acc:List S),as = p ++ r → acc.length ≤ p.length + 10 →
   (∀ x,x ∈ r → ∀ hp lo q,callD G0 IP n_tt_Write [x.av] hp lo q = some (.ret (writeT x).av hp)) →
   loopD G0 IP lo l_tt_Write_0 ⟨[(2,boxS),(4,.list (S.avs acc) (.own 2 0)),(76,.list (T.avs as) o),(77,.int .i64 as.length),(78,.int .i64 p.length)],hp⟩ =
     some (.exit 1,⟨[(2,boxS),(4,.list (S.avs (acc ++ writeTs r)) (.own 2 0)),(76,.list (T.avs as) o),(77,.int .i64 as.length),(78,.int .i64 as.length),(79,.bool false)],hp⟩)
 | [],p,acc,h,ha,_ => by
   rw [loopD_eq,loopBody]
   simp at h
   subst h
   simp [l_tt_Write_0,writeTs]
 | x :: r,p,acc,h,ha,ih => by
   rw [loopD_eq,loopBody]
   have hlen : as.length = p.length + (r.length + 1) := by rw [h]; simp
   have h1 : (p.length : Int) < (as.length : Int) := by omega
   have hl : p.length < as.length := by omega
   have h2 : as[p.length] = x := by simp [h]
   have hw : IntKind.wrap .i64 ((p.length : Int) + 1) = (p.length : Int) + 1 := wrap_small (by omega) (by omega)
   have e1 := ih x (by simp) hp lo false
   rw [T.av_eq,S.av_eq] at e1
   have e2 := writeT_L as o hl10 r (p ++ [x]) (acc ++ [writeT x]) (by rw [h]; simp) (by simp; omega) (fun y hy => ih y (by simp [hy]))
   simp only [List.length_append,List.length_cons,List.length_nil,Nat.zero_add,Int.natCast_add,Int.natCast_one] at e2
   have hb1 : (acc.length + 1) * 40 ≤ 140737488355328 := by omega
   have hb2 : acc.length + 1 ≤ 9223372036854775807 := by omega
   rw [S.avs_app,show S.avs [writeT x] = [.agg [.str (writeT x).atom,.list (S.avs (writeT x).list) (ownB (writeT x).o)]] by simp [S.avs,S.av_eq]] at e2
   simp [l_tt_Write_0,hl,h1,h2,T.av_eq x,e1,hb1,hb2,hw]
   refine Eq.trans e2 ?_
   simp [writeTs]
set_option maxHeartbeats 4000000 in
theorem writeT_D (t:T) : t.wf → ∀ (hp:List HObj) (lo:Nat) (q:Bool),callD G0 IP n_tt_Write [t.av] hp lo q = some (.ret (writeT t).av hp) := by
 induction t using T.ind with | h t ih =>
 intro hw hp lo q
 have hwf := (T.wf_eq t).1 hw
 have en := notable_D t hw
 rw [callD_eq]
 cases t with | mk op w v n o as =>
 simp only [T.op,T.width,T.val,T.name,T.o,T.args] at hwf ih
 rw [T.av_eq] at en ⊢
 simp only [T.op,T.width,T.val,T.name,T.o,T.args] at en ⊢
 rw [writeT]
 cases hN : notE (.mk op w v n o as) with
 | false =>
   rw [hN] at en
   rw [if_pos rfl]
   simp [IP_tt_Write,i_tt_Write,en,atom_D,aS_av]
 | true =>
   rw [hN] at en
   rw [if_neg (by simp)]
   have hN2 := hN
   rw [notE_mk] at hN2
   simp only [Bool.and_eq_true,decide_eq_true_eq] at hN2
   obtain ⟨n0,n1,n2,n3⟩ := hN2
   have hop : opOk op = true := arE_ok (by omega)
   have eI := intT_D w n0 n1
   have hv : 0 ≤ v ∧ v < 18446744073709551616 := by
     have := hwf.2.2.1
     simp [Lit.wf,IntKind.min,IntKind.max,IntKind.signed,IntKind.bits] at this; omega
   have eD := decT_D v hv.1 hv.2
   have lI := decI_len (n := w) (by omega)
   have lD := decI_len hv.2
   have nl : (op = 1 ∨ op = 24 ∨ op = 25) → n.length ≤ 16 := fun e => by
     rw [if_pos e] at n3
     simp only [Bool.and_eq_true,decide_eq_true_eq] at n3
     exact (nameOk_mem n3.1).2.1
   generalize hdi : decI w = dw at *
   generalize hdv : decI v = dv at *
   by_cases k1 : op = 1
   · subst k1
     have := nl (by simp)
     have b1 : n.length + 1 ≤ 9223372036854775807 := by omega
     have b2 : n.length + 1 + dw.length ≤ 9223372036854775807 := by omega
     rw [if_pos rfl]
     simp [IP_tt_Write,i_tt_Write,en,atom_D,aS_av,eI,b1,b2]
   by_cases k2 : op = 24
   · subst k2
     have := nl (by simp)
     have b1 : 1 + n.length ≤ 9223372036854775807 := by omega
     have b2 : n.length + 1 + 1 ≤ 9223372036854775807 := by omega
     have b3 : n.length + 1 + 1 + dw.length ≤ 9223372036854775807 := by omega
     rw [if_neg (by simp),if_pos rfl]
     simp [IP_tt_Write,i_tt_Write,en,atom_D,aS_av,eI,b1,b2,b3]
   by_cases k3 : op = 25
   · subst k3
     have := nl (by simp)
     have b1 : 1 + n.length ≤ 9223372036854775807 := by omega
     have b2 : n.length + 1 + 1 ≤ 9223372036854775807 := by omega
     have b3 : n.length + 1 + 1 + dw.length ≤ 9223372036854775807 := by omega
     rw [if_neg (by simp),if_neg (by simp),if_pos rfl]
     simp [IP_tt_Write,i_tt_Write,en,atom_D,aS_av,eI,b1,b2,b3]
   by_cases k4 : op = 2
   · subst k4
     have b1 : dv.length + 1 ≤ 9223372036854775807 := by omega
     have b2 : dv.length + 1 + dw.length ≤ 9223372036854775807 := by omega
     rw [if_neg (by simp),if_neg (by simp),if_neg (by simp),if_pos rfl]
     simp [IP_tt_Write,i_tt_Write,en,atom_D,aS_av,eI,eD,b1,b2]
   rw [if_neg k1,if_neg k2,if_neg k3,if_neg k4]
   have hal : as.length ≤ 10 := by have := arE_bd op; omega
   have eN := fun hp lo q => opName_D (hp := hp) (lo := lo) q op
   have eP := fun hp lo q => ttNumerals_D (hp := hp) (lo := lo) q op
   have el := fun (acc:List S) (ha:acc.length ≤ 10) (o:Own) => writeT_L (hp := hp) (lo := hp.length) as o hal as [] acc rfl (by simpa using ha) (fun x hx => ih x hx (hwf.2.2.2.2.2.2 x hx))
   by_cases k5 : op = 21
   · subst k5
     have e1 := el [aS (nameE 21),aS dv,aS dw] (by simp)
     simp [S.avs_cons,aS_av] at e1
     have h2 : (numsN 21:Int) = 2 := rfl
     simp [IP_tt_Write,i_tt_Write,en,atom_D,eI,eD,eN,eP,h2,e1,headW,hdi,hdv,S.av,S.avs_app,S.avs_cons,aS_av,ownB_false,S.avs_closed]
   by_cases k6 : op = 22 ∨ op = 23
   · have hn : numsN op = 1 := by simp [numsN,k5,k6]
     have e1 := el [aS (nameE op),aS dw] (by simp)
     simp [S.avs_cons,aS_av] at e1
     simp [IP_tt_Write,i_tt_Write,en,atom_D,eI,eD,eN,eP,hn,k1,k2,k3,k4,k5,k6,e1,headW,hdi,hdv,S.av,S.avs_app,S.avs_cons,aS_av,ownB_false,S.avs_closed]
   · have hn : numsN op = 0 := by simp [numsN,k5,k6]
     have e1 := el [aS (nameE op)] (by simp)
     simp [S.avs_cons,aS_av] at e1
     simp [IP_tt_Write,i_tt_Write,en,atom_D,eI,eD,eN,eP,hn,k1,k2,k3,k4,k5,k6,e1,headW,hdi,hdv,S.av,S.avs_app,S.avs_cons,aS_av,ownB_false,S.avs_closed]
end
end Go.Proofs.YtkofimhnehkdoaaGreatDoor.Rf
end
section
namespace Go.Proofs.YtkofimhnehkdoaaGreatDoor.Rf
def lineT (s:St7) : List UInt8 := if kindE s.kind = [] then [] else (lineW s).text
section
variable {hp:List HObj} {lo:Nat}
theorem atomP_D (a:List UInt8) (hp:List HObj) (lo:Nat) (q:Bool) : callD G0 IP n_pt_atom [.str a] hp lo q = some (.ret (.agg [.str a,.list [] .nil]) hp) := by
 rw [callD_eq]
 simp [IP_pt_atom,i_pt_atom]
theorem numberP_D (n:Int) (h:i64B n) (hp:List HObj) (lo:Nat) (q:Bool) : callD G0 IP n_pt_number [.int .i64 n] hp lo q = some (.ret (.agg [.str (decZ n),.list [] .nil]) hp) := by
 have e1 := fun hp lo q => itoa_D n h.1 h.2 hp lo q
 rw [callD_eq]
 simp [IP_pt_number,i_pt_number,e1,atomP_D]
theorem listP_D (l:List S) (hp:List HObj) (lo:Nat) (q:Bool) : callD G0 IP n_pt_list [.list (S.avs l) .tight] hp lo q = some (.ret (.agg [.str [],.list (S.avs l) .tight]) hp) := by
 have hc := fun n => S.avs_closed n l
 rw [callD_eq]
 simp [IP_pt_list,i_pt_list,hc]
theorem i64B_of {x:Int} (h:(Lit.int .i64 x).wf = true) : i64B x := by
 simp [Lit.wf,IntKind.min,IntKind.max,IntKind.signed,IntKind.bits] at h
 exact ⟨by omega,by omega⟩
theorem lineT_L0 (B:List AV) (nm:List UInt8) (l:List Int) (o:Own) (hl:l.length ≤ 65536) (hp:List HObj) (lo:Nat) : ∀ (r p:List Int) (acc:List S),l = p ++ r → acc.length = p.length → (∀ x,x ∈ r → i64B x) →
   loopD G0 IP lo l_pt_Line_0 ⟨[(1,.box B),(3,.str nm),(4,.box [.str [],.list (S.avs acc) (ownA acc)]),(17,.list (i64s l) o),(18,.int .i64 l.length),(19,.int .i64 p.length)],hp⟩ =
     some (.exit 0,⟨[(1,.box B),(3,.str nm),(4,.box [.str [],.list (S.avs (acc ++ r.map fun n => aS (decZ n))) (ownA (acc ++ r.map fun n => aS (decZ n)))]),(17,.list (i64s l) o),(18,.int .i64 l.length),(19,.int .i64 l.length),(20,.bool false)],hp⟩)
 | [],p,acc,h,ha,_ => by
   rw [loopD_eq,loopBody]
   simp at h
   subst h
   simp [l_pt_Line_0]
 | x :: r,p,acc,h,ha,hx => by
   rw [loopD_eq,loopBody]
   have hlen : l.length = p.length + (r.length + 1) := by rw [h]; simp
   have h1 : (p.length : Int) < (l.length : Int) := by omega
   have hll : p.length < l.length := by omega
   have h2 : l[p.length] = x := by simp [h]
   have hw : IntKind.wrap .i64 ((p.length : Int) + 1) = (p.length : Int) + 1 := wrap_small (by omega) (by omega)
   have e1 := numberP_D x (hx x (by simp)) hp lo true
   have ih := lineT_L0 B nm l o hl hp lo r (p ++ [x]) (acc ++ [aS (decZ x)]) (by rw [h]; simp) (by simp [ha]) (fun y hy => hx y (by simp [hy]))
   simp only [List.length_append,List.length_cons,List.length_nil,Nat.zero_add,Int.natCast_add,Int.natCast_one] at ih
   have hb1 : (acc.length + 1) * 40 ≤ 140737488355328 := by omega
   have hb2 : acc.length + 1 ≤ 9223372036854775807 := by omega
   rw [S.avs_app,ownA_app,show S.avs [aS (decZ x)] = [.agg [.str (decZ x),.list [] .nil]] from rfl] at ih
   simp [l_pt_Line_0,hll,h1,h2,e1,hb1,hb2,ownA_ok,hw]
   refine Eq.trans ih ?_
   simp
theorem lineT_L1 (B C:List AV) (l:List Sb) (o:Own) (hl:l.length ≤ 65536) (hp:List HObj) (lo:Nat) : ∀ (r p:List Sb) (acc:List S),l = p ++ r → acc.length = p.length → (∀ x,x ∈ r → x.t.wf) →
   loopD G0 IP lo l_pt_Line_1 ⟨[(1,.box B),(7,.box C),(8,.box [.str [],.list (S.avs acc) (ownA acc)]),(41,.list (sbs l) o),(42,.int .i64 l.length),(43,.int .i64 p.length)],hp⟩ =
     some (.exit 3,⟨[(1,.box B),(7,.box C),(8,.box [.str [],.list (S.avs (acc ++ r.map pairW)) (ownA (acc ++ r.map pairW))]),(41,.list (sbs l) o),(42,.int .i64 l.length),(43,.int .i64 l.length),(44,.bool false)],hp⟩)
 | [],p,acc,h,ha,_ => by
   rw [loopD_eq,loopBody]
   simp at h
   subst h
   simp [l_pt_Line_1]
 | x :: r,p,acc,h,ha,hx => by
   rw [loopD_eq,loopBody]
   have hlen : l.length = p.length + (r.length + 1) := by rw [h]; simp
   have h1 : (p.length : Int) < (l.length : Int) := by omega
   have hll : p.length < l.length := by omega
   have h2 : l[p.length] = x := by simp [h]
   have hw : IntKind.wrap .i64 ((p.length : Int) + 1) = (p.length : Int) + 1 := wrap_small (by omega) (by omega)
   have e1 := writeT_D x.t (hx x (by simp)) hp lo true
   have e2 := listP_D [aS x.name,writeT x.t] hp lo true
   have ih := lineT_L1 B C l o hl hp lo r (p ++ [x]) (acc ++ [pairW x]) (by rw [h]; simp) (by simp [ha]) (fun y hy => hx y (by simp [hy]))
   simp only [List.length_append,List.length_cons,List.length_nil,Nat.zero_add,Int.natCast_add,Int.natCast_one] at ih
   have hb1 : (acc.length + 1) * 40 ≤ 140737488355328 := by omega
   have hb2 : acc.length + 1 ≤ 9223372036854775807 := by omega
   rw [S.av_eq,T.av_eq] at e1
   simp only [S.avs,aS_av,S.av_eq (writeT x.t)] at e2
   rw [S.avs_app,ownA_app,show S.avs [pairW x] = [.agg [.str [],.list [.agg [.str x.name,.list [] .nil],.agg [.str (writeT x.t).atom,.list (S.avs (writeT x.t).list) (ownB (writeT x.t).o)]] .no]] by simp [S.avs,pairW,S.av,aS_av,S.av_eq (writeT x.t),ownB_false]] at ih
   simp [l_pt_Line_1,hll,h1,h2,Sb.av_eq x,e1,e2,atomP_D,hb1,hb2,ownA_ok,hw]
   refine Eq.trans ih ?_
   simp
end
end Go.Proofs.YtkofimhnehkdoaaGreatDoor.Rf
end
section
namespace Go.Proofs.YtkofimhnehkdoaaGreatDoor.Rf
section
variable {lo:Nat} (L TL:List AV) (o to:Own) (j:Nat) (H:List HObj)
end
section
variable {hp:List HObj} {lo:Nat}
end
end Go.Proofs.YtkofimhnehkdoaaGreatDoor.Rf
end
section
namespace Go.Proofs.YtkofimhnehkdoaaGreatDoor.Rf
section
variable {hp:List HObj} {lo:Nat}
end
end Go.Proofs.YtkofimhnehkdoaaGreatDoor.Rf
end
section
namespace Go.Proofs.YtkofimhnehkdoaaGreatDoor.Rf
section
variable {hp:List HObj} {lo:Nat}
end
end Go.Proofs.YtkofimhnehkdoaaGreatDoor.Rf
end
section
namespace Go.Proofs.YtkofimhnehkdoaaGreatDoor.Rf
section
variable {hp:List HObj} {lo:Nat}
end
end Go.Proofs.YtkofimhnehkdoaaGreatDoor.Rf
end
section
namespace Go.Proofs.YtkofimhnehkdoaaGreatDoor.Rf
section
variable {hp:List HObj} {lo:Nat}
end
end Go.Proofs.YtkofimhnehkdoaaGreatDoor.Rf
end
section
namespace Go.Proofs.YtkofimhnehkdoaaGreatDoor.Rf
section
variable {lo:Nat} (TL:List AV) (ow:Own) (j:Nat) (H:List HObj)
end
end Go.Proofs.YtkofimhnehkdoaaGreatDoor.Rf
end
section
namespace Go.Proofs.YtkofimhnehkdoaaGreatDoor.Rf
section
variable {lo:Nat}
end
end Go.Proofs.YtkofimhnehkdoaaGreatDoor.Rf
end
section
namespace Go.Proofs.YtkofimhnehkdoaaGreatDoor.Rf
section
variable {hp:List HObj} {lo:Nat}
end
end Go.Proofs.YtkofimhnehkdoaaGreatDoor.Rf
end
section
namespace Go.Proofs.YtkofimhnehkdoaaGreatDoor.Rf
section
variable {hp:List HObj} {lo:Nat}
end
end Go.Proofs.YtkofimhnehkdoaaGreatDoor.Rf
end
section
namespace Go.Proofs.YtkofimhnehkdoaaGreatDoor.Rf
section
variable {hp:List HObj} {lo:Nat}
end
end Go.Proofs.YtkofimhnehkdoaaGreatDoor.Rf
end
section
namespace Go.Proofs.YtkofimhnehkdoaaGreatDoor.Rf
set_option maxRecDepth 100000 in
theorem live36_ok : (run G0 IP 100).1 n_sl36_live [] [] 0 false = some (.ret (.bool true) []) := by kernel_rfl
end Go.Proofs.YtkofimhnehkdoaaGreatDoor.Rf
end
section
namespace Go.Proofs.YtkofimhnehkdoaaGreatDoor.Rf
theorem live36_D : callD G0 IP n_sl36_live [] [] 0 false = some (.ret (.bool true) []) := callD_iff.2 ⟨100,live36_ok⟩
end Go.Proofs.YtkofimhnehkdoaaGreatDoor.Rf
end
section
namespace Go.Proofs.YtkofimhnehkdoaaGreatDoor.Rf
theorem aS_wf {a:List UInt8} (h:a.length ≤ 9223372036854775807) : (aS a).wf := by simp only [aS,S.wf,S.wfs]; exact ⟨h,by simp,by simp,trivial⟩
theorem decZ_len {n:Int} (h:i64B n) : (decZ n).length ≤ 21 := by
 unfold decZ decI
 obtain ⟨h0,h1⟩ := h
 split
 · have := dec_len20 (n := n.toNat) (by omega); omega
 · have := dec_len20 (n := (-n).toNat) (by omega); simp; omega
theorem kindE_len (k:Int) : (kindE k).length ≤ 6 := by
 unfold kindE
 split
 · simp
 · rename_i h
   rcases kind_cases h with rfl | rfl | rfl | rfl | rfl | rfl | rfl | rfl | rfl | rfl | rfl | rfl
   all_goals decide
theorem refsW_wf {l:List Int} (hl:l.length ≤ 9223372036854775807) (h:∀ x,x ∈ l → i64B x) : (refsW l).wf := by
 rw [S.wf_eq]
 refine ⟨by simp [refsW,S.atom],by simpa [refsW,S.list] using hl,by simp [refsW,S.o,S.list],fun u hu => ?_⟩
 simp only [refsW,S.list,List.mem_map] at hu
 obtain ⟨n,hn,rfl⟩ := hu
 exact aS_wf (by have := decZ_len (h n hn); omega)
theorem subsW_wf {l:List Sb} (hl:l.length ≤ 9223372036854775807) (h:∀ x,x ∈ l → x.wf) : (subsW l).wf := by
 rw [S.wf_eq]
 refine ⟨by simp [subsW,S.atom],by simpa [subsW,S.list] using hl,by simp [subsW,S.o,S.list],fun u hu => ?_⟩
 simp only [subsW,S.list,List.mem_map] at hu
 obtain ⟨x,hx,rfl⟩ := hu
 rw [S.wf_eq]
 refine ⟨by simp [pairW,S.atom],by simp [pairW,S.list],by simp [pairW,S.o],fun u hu => ?_⟩
 simp only [pairW,S.list,List.mem_cons,List.mem_nil_iff,or_false] at hu
 rcases hu with rfl | rfl
 · exact aS_wf (h x hx).1
 · exact write_wf _ (h x hx).2
theorem lineW_wf {s:St7} (hw:s.wf) : (lineW s).wf := by
 obtain ⟨w1,w2,w3,w4,w5,w6,w7,w8⟩ := hw
 have hr : ∀ u,u ∈ restW s → u.wf := by
   intro u hu
   unfold restW at hu
   have hd := decZ_len (i64B_of w4)
   split at hu
   · simp only [List.mem_cons,List.mem_nil_iff,or_false] at hu
     rcases hu with rfl | rfl
     · exact aS_wf (by omega)
     · exact subsW_wf w6 w5
   · split at hu
     · simp only [List.mem_cons,List.mem_nil_iff,or_false] at hu
       subst hu; exact aS_wf (by omega)
     · split at hu
       · simp only [List.mem_cons,List.mem_nil_iff,or_false] at hu
         subst hu; exact write_wf _ w7
       · split at hu
         · simp only [List.mem_cons,List.mem_nil_iff,or_false] at hu
           rcases hu with rfl | rfl
           · exact write_wf _ w7
           · exact write_wf _ w8
         · simp at hu
 have hl : (restW s).length ≤ 2 := by
   unfold restW
   split
   · simp
   · split
     · simp
     · split
       · simp
       · split <;> simp
 rw [S.wf_eq]
 refine ⟨by simp [lineW,S.atom],by simp [lineW,S.list]; omega,by simp [lineW,S.o],fun u hu => ?_⟩
 simp only [lineW,S.list,List.mem_cons] at hu
 rcases hu with rfl | rfl | hu
 · exact aS_wf (by have := kindE_len s.kind; omega)
 · exact refsW_wf w3 fun x hx => i64B_of (w2 x hx)
 · exact hr u hu
theorem refsW_av (l:List Int) : (refsW l).av = .agg [.str [],.list (S.avs (l.map fun n => aS (decZ n))) (ownB l.isEmpty)] := rfl
theorem subsW_av (l:List Sb) : (subsW l).av = .agg [.str [],.list (S.avs (l.map pairW)) (ownB l.isEmpty)] := rfl
section
variable {hp:List HObj} {lo:Nat}
set_option maxHeartbeats 8000000 in
theorem lineP_D (s:St7) (hw:s.wf) (hr:s.refs.length ≤ 65536) (hsb:s.subs.length ≤ 65536) (hb:(lineT s).length ≤ 140737488355328) (hp:List HObj) (lo:Nat) (q:Bool) : callD G0 IP n_pt_Line [s.av] hp lo q = some (.ret (.str (lineT s)) hp) := by
 have hwf := lineW_wf hw
 obtain ⟨w1,w2,w3,w4,w5,w6,w7,w8⟩ := hw
 rw [callD_eq,st_av,St7.cells]
 have ek := fun hp lo q => kind_D s.kind hp lo q
 by_cases hk : kindE s.kind = []
 · rw [hk] at ek
   simp [IP_pt_Line,i_pt_Line,ek,lineT,hk]
 · have hkb : 1 ≤ s.kind ∧ s.kind ≤ 12 := by
     unfold kindE at hk; split at hk
     · exact absurd rfl hk
     · omega
   have hL : lineT s = (lineW s).text := by unfold lineT; rw [if_neg hk]
   rw [hL] at hb ⊢
   have e5 := fun hp lo q => print2_D (t := lineW s) (hp := hp) (lo := lo) hwf hb q
   rw [show (lineW s).av = .agg [.str [],.list ((aS (kindE s.kind)).av :: (refsW s.refs).av :: S.avs (restW s)) .no] from rfl,aS_av,refsW_av] at e5
   generalize (lineW s).text = txt at *
   have hloop := fun (B:List AV) (hp:List HObj) (lo:Nat) => lineT_L0 B (kindE s.kind) s.refs (ownB s.ro) hr hp lo s.refs [] [] rfl rfl (fun x hx => i64B_of (w2 x hx))
   simp only [List.nil_append,S.avs_nil,show ownA [] = .nil from rfl,List.length_nil,Int.natCast_zero] at hloop
   have el := fun hp lo q => listP_D [aS (kindE s.kind),refsW s.refs] hp lo q
   simp only [S.avs,aS_av,refsW_av] at el
   have en := fun hp lo q => numberP_D s.rule (i64B_of w4) hp lo q
   have ew1 := fun hp lo q => writeT_D s.a w7 hp lo q
   have ew2 := fun hp lo q => writeT_D s.b w8 hp lo q
   simp only [T.av_eq,S.av_eq] at ew1 ew2
   have hie : (s.refs.map fun n => aS (decZ n)).isEmpty = s.refs.isEmpty := by cases s.refs <;> rfl
   have hrest : s.kind ≠ 5 → s.kind ≠ 12 → ¬ (s.kind = 1 ∨ s.kind = 6 ∨ s.kind = 7 ∨ s.kind = 8) → s.kind ≠ 4 → restW s = [] := fun a b c d => by unfold restW; rw [if_neg a,if_neg b,if_neg c,if_neg d]
   have hrest1 : (s.kind = 1 ∨ s.kind = 6 ∨ s.kind = 7 ∨ s.kind = 8) → restW s = [writeT s.a] := fun c => by unfold restW; rw [if_neg (by omega),if_neg (by omega),if_pos c]
   have hrest4 : s.kind = 4 → restW s = [writeT s.a,writeT s.b] := fun c => by unfold restW; rw [if_neg (by omega),if_neg (by omega),if_neg (by omega),if_pos c]
   have hrest12 : s.kind = 12 → restW s = [aS (decZ s.rule)] := fun c => by unfold restW; rw [if_neg (by omega),if_pos c]
   have hrest5 : s.kind = 5 → restW s = [aS (decZ s.rule),subsW s.subs] := fun c => by unfold restW; rw [if_pos c]
   generalize restW s = R at *
   generalize kindE s.kind = nm at *
   generalize hR2 : (s.refs.map fun n => aS (decZ n)) = RL at *
   by_cases h5 : s.kind = 5
   · have hloop1 := fun (B C:List AV) (hp:List HObj) (lo:Nat) => lineT_L1 B C s.subs (ownB s.so) hsb hp lo s.subs [] [] rfl rfl (fun x hx => (w5 x hx).2)
     simp only [List.nil_append,S.avs_nil,show ownA [] = .nil from rfl,List.length_nil,Int.natCast_zero] at hloop1
     have hie2 : (s.subs.map pairW).isEmpty = s.subs.isEmpty := by cases s.subs <;> rfl
     rw [h5] at ek
     rw [hrest5 h5] at e5
     simp only [S.avs,aS_av,subsW_av] at e5
     generalize (s.subs.map pairW) = PL at *
     simp [IP_pt_Line,i_pt_Line,ek,hk,hloop,atomP_D,el,en,hie,hie2,h5,hloop1,e5]
   · by_cases h12 : s.kind = 12
     · rw [h12] at ek
       rw [hrest12 h12] at e5
       simp only [S.avs,aS_av] at e5
       simp [IP_pt_Line,i_pt_Line,ek,hk,hloop,atomP_D,el,en,hie,h12,e5]
     · by_cases h4 : s.kind = 4
       · rw [h4] at ek
         rw [hrest4 h4] at e5
         simp only [S.avs,S.av_eq] at e5
         simp [IP_pt_Line,i_pt_Line,ek,hk,hloop,atomP_D,el,ew1,ew2,hie,h4,e5]
       · by_cases h1 : s.kind = 1 ∨ s.kind = 6 ∨ s.kind = 7 ∨ s.kind = 8
         · rw [hrest1 h1] at e5
           simp only [S.avs,S.av_eq] at e5
           rcases h1 with h1 | h1 | h1 | h1
           all_goals
             rw [h1] at ek
             simp [IP_pt_Line,i_pt_Line,ek,hk,hloop,atomP_D,el,ew1,hie,h1,e5]
         · rw [hrest h5 h12 h1 h4] at e5
           simp only [S.avs] at e5
           have n1 : ¬ s.kind = 1 := fun h => h1 (.inl h)
           have n6 : ¬ s.kind = 6 := fun h => h1 (.inr (.inl h))
           have n7 : ¬ s.kind = 7 := fun h => h1 (.inr (.inr (.inl h)))
           have n8 : ¬ s.kind = 8 := fun h => h1 (.inr (.inr (.inr h)))
           simp [IP_pt_Line,i_pt_Line,ek,hk,hloop,atomP_D,el,hie,h5,h12,h4,n1,n6,n7,n8,e5]
end
end Go.Proofs.YtkofimhnehkdoaaGreatDoor.Rf
end
