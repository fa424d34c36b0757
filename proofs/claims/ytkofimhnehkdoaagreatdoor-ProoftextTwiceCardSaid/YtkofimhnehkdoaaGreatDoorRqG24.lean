/- A part of the proof: see the last text. -/
import Derived.Test.YtkofimhnehkdoaaGreatDoorRqG23
import Derived.Test.YtkofimhnehkdoaaGreatDoorRqG21
import Derived.Test.YtkofimhnehkdoaaGreatDoorRqG17
set_option linter.unusedVariables false
set_option linter.unusedSimpArgs false
section
namespace Go.Proofs.YtkofimhnehkdoaaGreatDoor.Rf
theorem skipK_fuel (s:List UInt8) : ∀ (n m i:Nat),s.length - i ≤ n → s.length - i ≤ m → skipK s n i = skipK s m i
 | 0,0,i,_,_ => rfl
 | 0,m + 1,i,h,_ => by simp only [skipK]; rw [if_neg (by omega)]
 | n + 1,0,i,_,h => by simp only [skipK]; rw [if_neg (by omega)]
 | n + 1, m + 1,i,h1,h2 => by
   simp only [skipK]
   split
   · rename_i hi
     split
     · exact skipK_fuel s n m _ (by omega) (by omega)
     · split
       · rename_i h59
         have hgt : i < comK s (s.length - i) i := by
           obtain ⟨k,hk⟩ : ∃ k,s.length - i = k + 1 := ⟨s.length - i - 1,by omega⟩
           rw [hk]; simp only [comK,h59]
           have := comK_le s k (i + 1)
           simp; omega
         exact skipK_fuel s n m _ (by omega) (by omega)
       · rfl
   · rfl
theorem skipN_end {s:List UInt8} {i:Nat} (h:s.length ≤ i) : skipN s i = i := by
 unfold skipN
 cases hs : s.length with
 | zero => rfl
 | succ n => simp only [skipK]; rw [if_neg (by omega)]
theorem skipN_step {s:List UInt8} {i:Nat} (h:i < s.length) : skipN s i = if blankC (byt s i) then skipN s (i + 1) else if byt s i = 59 then skipN s (comK s (s.length - i) i) else i := by
 have h1 : skipN s i = skipK s (s.length + 1) i := skipK_fuel s _ _ i (by omega) (by omega)
 rw [h1]
 simp only [skipK,if_pos h]
 rfl
theorem byt_app {pre post:List UInt8} {c:UInt8} : byt (pre ++ c :: post) pre.length = (c.toNat : Int) := by
 simp [byt]
def tokC (c:UInt8) : Bool := !blankC (c.toNat : Int) && !decide ((c.toNat : Int) = 59)
theorem skipN_tok {pre post:List UInt8} {c:UInt8} (h:tokC c = true) : skipN (pre ++ c :: post) pre.length = pre.length := by
 simp only [tokC,Bool.and_eq_true,Bool.not_eq_true',decide_eq_false_iff_not] at h
 rw [skipN_step (by simp),byt_app,h.1]
 simp [h.2]
def Gp (g:List UInt8) : Prop := ∀ pre post,skipN (pre ++ (g ++ post)) pre.length = skipN (pre ++ (g ++ post)) (pre.length + g.length)
theorem Gp.nil : Gp [] := fun pre post => by simp
theorem Gp.blank {c:UInt8} (h:blankC (c.toNat : Int) = true) : Gp [c] := fun pre post => by
 have : pre ++ ([c] ++ post) = pre ++ c :: post := by simp
 rw [this,skipN_step (by simp),byt_app,h]; simp
theorem Gp.app {a b:List UInt8} (ha:Gp a) (hb:Gp b) : Gp (a ++ b) := fun pre post => by
 have h1 := ha pre (b ++ post)
 have h2 := hb (pre ++ a) post
 simp only [List.append_assoc,List.length_append] at h1 h2 ⊢
 rw [h1,h2]; congr 1; omega
theorem atomK_all (s:List UInt8) : ∀ (a pre post:List UInt8) (k:Nat),s = pre ++ (a ++ post) → (∀ c,c ∈ a → plainC (c.toNat : Int) = true) → (∀ c r,post = c :: r → plainC (c.toNat : Int) = false) → a.length + post.length = k → atomK s k pre.length = pre.length + a.length
 | [],pre,post,k,hs,ha,hp,hk => by
   cases post with
   | nil => simp at hk; subst hk; rfl
   | cons c r =>
     obtain ⟨k',rfl⟩ : ∃ k',k = k' + 1 := ⟨k - 1,by simp at hk; omega⟩
     have hb : byt s pre.length = (c.toNat : Int) := by rw [hs]; exact byt_app
     simp only [atomK,hb,hp c r rfl]; simp
 | c :: a,pre,post,k,hs,ha,hp,hk => by
   obtain ⟨k',rfl⟩ : ∃ k',k = k' + 1 := ⟨k - 1,by simp at hk; omega⟩
   have hb : byt s pre.length = (c.toNat : Int) := by rw [hs]; exact byt_app
   have ih := atomK_all s a (pre ++ [c]) post k' (by rw [hs]; simp) (fun x hx => ha x (by simp [hx])) hp (by simp at hk; omega)
   simp only [atomK,hb,ha c (by simp),if_true]
   simp at ih
   rw [ih]; simp; omega
theorem plain_tok {c:UInt8} (h:plainC (c.toNat : Int) = true) : tokC c = true ∧ ¬ (c.toNat : Int) = 40 ∧ ¬ (c.toNat : Int) = 41 := by
 simp only [plainC,Bool.and_eq_true,decide_eq_true_eq,Bool.not_eq_true',decide_eq_false_iff_not] at h
 obtain ⟨h1,h2,h3,h4,h5⟩ := h
 refine ⟨?_,h3,h4⟩
 simp only [tokC,blankC,Bool.and_eq_true,Bool.not_eq_true',decide_eq_false_iff_not,Bool.or_eq_false_iff]
 exact ⟨⟨by omega,by omega,by omega,by omega⟩,h5⟩
mutual
inductive Enc : S → List UInt8 → Prop
 | atom {a:List UInt8} {o:Bool} : a ≠ [] → (∀ c,c ∈ a → plainC (c.toNat : Int) = true) → Enc (.mk a o []) a
 | list {o:Bool} {l:List S} {b:List UInt8} : EncL l b → Enc (.mk [] o l) (40 :: (b ++ [41]))
inductive EncL : List S → List UInt8 → Prop
 | nil {g:List UInt8} : Gp g → EncL [] g
 | cons {g e b:List UInt8} {t:S} {r:List S} : Gp g → Enc t e → EncL r b → (t.atom ≠ [] → ∀ c r,b = c :: r → plainC (c.toNat : Int) = false) → EncL (t :: r) (g ++ (e ++ b))
end
mutual
def S.depth : S → Nat
 | .mk a _ l => if a = [] then S.depths l + 1 else 1
def S.depths : List S → Nat
 | [] => 0
 | t :: r => max t.depth (S.depths r)
end
theorem S.depth_eq (t:S) : t.depth = if t.atom = [] then S.depths t.list + 1 else 1 := by cases t; rfl
theorem S.sames_app : ∀ (a b:List S) (x y:S),S.sames a b = true → x.same y = true → S.sames (a ++ [x]) (b ++ [y]) = true
 | [],[],x,y,_,h => by simp [S.sames,h]
 | t :: r,u :: s,x,y,h,k => by
   simp only [S.sames,Bool.and_eq_true] at h
   simp only [List.cons_append,S.sames,Bool.and_eq_true]
   exact ⟨h.1,S.sames_app r s x y h.2 k⟩
 | [],_ :: _,_,_,h,_ => by simp [S.sames] at h
 | _ :: _,[],_,_,h,_ => by simp [S.sames] at h
theorem Enc.head {t:S} {e:List UInt8} (h:Enc t e) : ∃ c r,e = c :: r ∧ tokC c = true ∧ ¬ (c.toNat : Int) = 41 := by
 cases h with
 | atom h1 h2 =>
   cases e with
   | nil => exact absurd rfl h1
   | cons c r => exact ⟨c,r,rfl,(plain_tok (h2 c (by simp))).1,(plain_tok (h2 c (by simp))).2.2⟩
 | list h1 => exact ⟨40,_,rfl,by decide,by decide⟩
theorem enc_both (n:Nat) : (∀ (t:S) (e pre post:List UInt8) (d:Nat),Enc t e → t.depth + d ≤ 64 → (t.atom ≠ [] → ∀ c r,post = c :: r → plainC (c.toNat : Int) = false) → 2 * (e.length + post.length) ≤ n →
     ∃ x,pOne (pre ++ (e ++ post)) n pre.length d = .ok x (pre.length + e.length) ∧ x.same t = true) ∧
   (∀ (l:List S) (b pre post:List UInt8) (d:Nat) (acc base:List S),EncL l b → S.depths l + d + 1 ≤ 64 → S.sames acc base = true → 2 * (b.length + (post.length + 1)) + 1 ≤ n →
     ∃ acc',pLoop (pre ++ (b ++ (41 :: post))) n (skipN (pre ++ (b ++ (41 :: post))) pre.length) d acc = .stop (pre.length + b.length) acc' ∧ S.sames acc' (base ++ l) = true) := by
 induction n with
 | zero =>
   refine ⟨fun t e pre post d he _ _ hn => ?_,fun l b pre post d acc base _ _ _ hn => absurd hn (by omega)⟩
   obtain ⟨c,r,rfl,_⟩ := he.head
   simp at hn
   omega
 | succ n ih =>
   obtain ⟨ih1,ih2⟩ := ih
   refine ⟨fun t e pre post d he hd hp hn => ?_,fun l b pre post d acc base hl hd hs hn => ?_⟩
   · cases he with
     | atom h1 h2 =>
       rename_i o
       cases hee : e with
       | nil => exact absurd hee h1
       | cons c r =>
         have hb : byt (pre ++ (e ++ post)) pre.length = (c.toNat : Int) := by rw [hee]; exact byt_app
         obtain ⟨k1,k2,k3⟩ := plain_tok (h2 c (by rw [hee]; simp))
         have hpl := h2 c (by rw [hee]; simp)
         have ha := atomK_all (pre ++ (e ++ post)) e pre post (e.length + post.length) rfl h2 (hp h1) rfl
         have hd' : ¬ d ≥ 64 := by
           have : (S.mk e o []).depth = 1 := by simp [S.depth,h1]
           rw [this] at hd; omega
         have hN : atomN (pre ++ (e ++ post)) pre.length = pre.length + e.length := by
           unfold atomN
           rw [show (pre ++ (e ++ post)).length - pre.length = e.length + post.length by simp]
           exact ha
         rw [← hee]
         refine ⟨.mk (((pre ++ (e ++ post)).take (pre.length + e.length)).drop pre.length) true [],?_,?_⟩
         · simp only [pOne,hb,if_neg k2,hpl,if_true,if_neg hd',hN]
         · simp [S.same,S.sames,List.take_append]
     | list h1 =>
       rename_i o l b
       have hb : byt (pre ++ ((40 :: (b ++ [41])) ++ post)) pre.length = ((40:UInt8).toNat : Int) := byt_app
       have hd0 : S.depths l + 1 + d ≤ 64 := by rw [S.depth_eq] at hd; simpa [S.atom,S.list] using hd
       have hd' : ¬ d ≥ 64 := by omega
       have e0 : pre ++ ((40 :: (b ++ [41])) ++ post) = (pre ++ [40]) ++ (b ++ (41 :: post)) := by simp
       obtain ⟨acc',e1,e2⟩ := ih2 l b (pre ++ [40]) post d [] [] h1 (by omega) rfl (by simp at hn ⊢; omega)
       have hlen : (pre ++ [40]).length = pre.length + 1 := by simp
       rw [← e0,hlen] at e1
       have hne : ¬ pre.length + 1 + b.length = (pre ++ ((40 :: (b ++ [41])) ++ post)).length := by simp; omega
       refine ⟨.mk [] acc'.isEmpty acc',?_,?_⟩
       · simp only [pOne,hb,show (((40:UInt8).toNat : Int) = 40) from rfl,if_true,if_neg hd',e1,if_neg hne]
         simp; omega
       · simp only [List.nil_append] at e2
         simp [S.same,e2]
   · cases hl with
     | nil hg =>
       have h1 := hg pre (41 :: post)
       have h2 := skipN_tok (pre := pre ++ b) (post := post) (c := 41) (by decide)
       rw [List.append_assoc,List.length_append] at h2
       rw [h1,h2]
       have hb : byt (pre ++ (b ++ 41 :: post)) (pre.length + b.length) = ((41:UInt8).toNat : Int) := by
         have := byt_app (pre := pre ++ b) (post := post) (c := 41)
         rwa [List.append_assoc,List.length_append] at this
       refine ⟨acc,?_,by simpa using hs⟩
       simp only [pLoop,hb]
       rw [if_pos (by simp),if_pos (show ((41:UInt8).toNat : Int) = 41 from rfl)]
     | cons hg he hr hsep =>
       rename_i g e b t r
       obtain ⟨c,er,hce,k1,k2⟩ := he.head
       have e0 : pre ++ ((g ++ (e ++ b)) ++ (41 :: post)) = (pre ++ g) ++ (e ++ (b ++ (41 :: post))) := by simp
       have h1 := hg pre (e ++ (b ++ (41 :: post)))
       have e0' : pre ++ (g ++ (e ++ (b ++ (41 :: post)))) = (pre ++ g) ++ (e ++ (b ++ (41 :: post))) := by simp
       rw [e0'] at h1
       have h2 : skipN ((pre ++ g) ++ (e ++ (b ++ (41 :: post)))) (pre ++ g).length = (pre ++ g).length := by
         rw [hce]; exact skipN_tok k1
       rw [List.length_append] at h2
       rw [e0,h1,h2]
       have hb : byt ((pre ++ g) ++ (e ++ (b ++ (41 :: post)))) (pre.length + g.length) = (c.toNat : Int) := by
         rw [hce]
         have := byt_app (pre := pre ++ g) (post := er ++ (b ++ (41 :: post))) (c := c)
         rwa [List.length_append] at this
       simp only [S.depths] at hd
       obtain ⟨x,e1,e2⟩ := ih1 t e (pre ++ g) (b ++ (41 :: post)) (d + 1) he (by omega) (fun ha c r hc => by
         cases b with
         | nil => simp at hc; rw [← hc.1]; rfl
         | cons c' b' => simp at hc; rw [← hc.1]; exact hsep ha c' b' rfl) (by simp at hn ⊢; omega)
       rw [List.length_append] at e1
       have hce' : 1 ≤ e.length := by rw [hce]; simp
       obtain ⟨acc',e3,e4⟩ := ih2 r b ((pre ++ g) ++ e) post d (acc ++ [x]) (base ++ [t]) hr (by omega) (S.sames_app _ _ _ _ hs e2) (by simp at hn ⊢; omega)
       have e5 : ((pre ++ g) ++ e) ++ (b ++ (41 :: post)) = (pre ++ g) ++ (e ++ (b ++ (41 :: post))) := by simp
       rw [e5,List.length_append,List.length_append] at e3
       refine ⟨acc',?_,by simpa using e4⟩
       simp only [pLoop,hb]
       rw [if_pos (by simp; omega),if_neg k2,e1]
       simp only
       rw [e3]; simp; omega
end Go.Proofs.YtkofimhnehkdoaaGreatDoor.Rf
end
section
namespace Go.Proofs.YtkofimhnehkdoaaGreatDoor.Rf
def allPlain (a:List UInt8) : Bool := a.all fun c => plainC (c.toNat : Int)
mutual
def S.right : S → Bool
 | .mk a _ l => if a = [] then S.rights l else l.isEmpty && allPlain a
def S.rights : List S → Bool
 | [] => true
 | t :: r => t.right && S.rights r
end
mutual
def S.valid : S → Nat → Bool
 | .mk a _ l,d => decide (d < 64) && (if a = [] then S.valids l (d + 1) else allPlain a && l.isEmpty)
def S.valids : List S → Nat → Bool
 | [],_ => true
 | t :: r,d => t.valid d && S.valids r d
end
theorem S.right_eq (t:S) : t.right = if t.atom = [] then S.rights t.list else t.list.isEmpty && allPlain t.atom := by cases t; rfl
theorem S.rights_iff : ∀ l : List S,S.rights l = true ↔ ∀ t,t ∈ l → t.right = true
 | [] => by simp [S.rights]
 | t :: r => by simp [S.rights,S.rights_iff r]
section
variable {hp:List HObj} {lo:Nat}
end
end Go.Proofs.YtkofimhnehkdoaaGreatDoor.Rf
end
section
namespace Go.Proofs.YtkofimhnehkdoaaGreatDoor.Rf
theorem S.depths_app : ∀ (l:List S) (t:S),S.depths (l ++ [t]) = max (S.depths l) t.depth
 | [],t => by simp [S.depths]
 | x :: r,t => by simp only [List.cons_append,S.depths,S.depths_app r t]; omega
section
variable {hp:List HObj} {lo:Nat}
def S.okB (t:S) : Bool := t.right && decide (t.depth ≤ 64)
end
end Go.Proofs.YtkofimhnehkdoaaGreatDoor.Rf
end
section
namespace Go.Proofs.YtkofimhnehkdoaaGreatDoor.Rf
theorem top_enc (s:List UInt8) : ∀ (l:List S) (b pre:List UInt8) (acc base:List S) (st:List Nat) (n:Nat),EncL l b → (∀ t,t ∈ l → t.depth ≤ 64) → S.sames acc base = true → s = pre ++ b → b.length < n →
   ∃ acc' st',pTop s n (skipN s pre.length) acc st = .ok acc' st' ∧ S.sames acc' (base ++ l) = true
 | l,b,pre,acc,base,st,0,_,_,_,_,hn => absurd hn (by omega)
 | l, b,pre,acc,base,st,n + 1,he,hd,hs,hsb,hn => by
   cases he with
   | nil hg =>
     have h1 := hg pre []
     simp only [List.append_nil] at h1
     rw [← hsb] at h1
     have h2 : skipN s (pre.length + b.length) = pre.length + b.length := skipN_end (by rw [hsb]; simp)
     refine ⟨acc,st,?_,by simpa using hs⟩
     simp only [pTop]
     rw [h1,h2,if_neg (by rw [hsb]; simp)]
   | cons hg he hr hsep =>
     rename_i g e b t r
     obtain ⟨c,er,hce,k1,k2⟩ := he.head
     have e0 : s = (pre ++ g) ++ (e ++ b) := by rw [hsb]; simp
     have h1 := hg pre (e ++ b)
     rw [← hsb] at h1
     have h2 : skipN s (pre.length + g.length) = pre.length + g.length := by
       have := skipN_tok (pre := pre ++ g) (post := er ++ b) (c := c) k1
       rw [List.length_append] at this
       rwa [show (pre ++ g) ++ c :: (er ++ b) = s by rw [e0,hce]; simp] at this
     obtain ⟨x,e1,e2⟩ := (enc_both (2 * s.length)).1 t e (pre ++ g) b 0 he (by have := hd t (by simp); omega) hsep (by rw [e0]; simp; omega)
     rw [← e0,List.length_append] at e1
     obtain ⟨acc',st',e3,e4⟩ := top_enc s r b ((pre ++ g) ++ e) (acc ++ [x]) (base ++ [t]) (st ++ [pre.length + g.length]) n hr (fun u hu => hd u (by simp [hu])) (S.sames_app _ _ _ _ hs e2) (by rw [e0]; simp) (by rw [hce] at hn; simp at hn; omega)
     rw [List.length_append,List.length_append] at e3
     refine ⟨acc',st',?_,by simpa using e4⟩
     simp only [pTop]
     rw [h1,h2,if_pos (by rw [e0,hce]; simp),e1]
     exact e3
theorem pAll_enc {l:List S} {b:List UInt8} (he:EncL l b) (hd:∀ t,t ∈ l → t.depth ≤ 64) (hb:b.length ≤ 65536) : ∃ l' st,pAll b = .ok l' st ∧ S.sames l' l = true := by
 obtain ⟨l',st,h1,h2⟩ := top_enc b l b [] [] [] [] (b.length + 1) he hd rfl rfl (by omega)
 refine ⟨l',st,?_,by simpa using h2⟩
 unfold pAll
 rw [if_neg (by omega)]
 exact h1
theorem enc_text (t:S) : t.right = true → Enc t t.text := by
 induction t using S.ind with | h t ih =>
 intro hr
 have hl : ∀ (l:List S) (b:Bool),(∀ u,u ∈ l → Enc u u.text) → EncL l (S.texts b l) := by
   intro l
   induction l with
   | nil => intro b _; exact .nil Gp.nil
   | cons x r ihr =>
     intro b h
     refine .cons ?_ (h x (by simp)) (ihr false fun u hu => h u (by simp [hu])) ?_
     · cases b
       · exact Gp.blank (by decide)
       · exact Gp.nil
     · intro _ c r' hc
       cases r with
       | nil => simp [S.texts] at hc
       | cons y s => simp [S.texts] at hc; rw [← hc.1]; rfl
 cases t with
 | mk a o l =>
   simp only [S.list] at ih
   simp only [S.right] at hr
   by_cases ha : a = []
   · subst ha
     simp only [if_true] at hr
     have := hl l true fun u hu => ih u hu ((S.rights_iff l).1 hr u hu)
     simp only [S.text,if_true]
     exact .list this
   · rw [if_neg ha] at hr
     simp only [Bool.and_eq_true,List.isEmpty_iff] at hr
     obtain ⟨rfl,hp⟩ := hr
     simp only [S.text,if_neg ha]
     exact .atom ha fun c hc => by simp only [allPlain,List.all_eq_true] at hp; exact hp c hc
theorem enc_all : ∀ (l:List S) (g:List UInt8),Gp g → (∀ t,t ∈ l → t.right = true) → EncL l (g ++ allText l)
 | [],g,hg,_ => by simpa [allText] using EncL.nil hg
 | t :: r,g,hg,h => by
   have := enc_all r [10] (Gp.blank (by decide)) fun u hu => h u (by simp [hu])
   exact .cons hg (enc_text t (h t (by simp))) this fun _ c r' hc => by simp at hc; rw [← hc.1]; rfl
end Go.Proofs.YtkofimhnehkdoaaGreatDoor.Rf
end
section
namespace Go.Proofs.YtkofimhnehkdoaaGreatDoor.Rf
def ownW (acc:List T) : Own := if acc.isEmpty then .nil else .own 1 0
@[simp] theorem ownW_cp (acc:List T) : (ownW acc).cp = ownB acc.isEmpty := by cases acc <;> rfl
@[simp] theorem ownW_app (acc:List T) (x:T) : ownW (acc ++ [x]) = .own 1 0 := by cases acc <;> rfl
theorem ownW_ok (acc:List T) : ownW acc = .nil ∨ ownW acc = .own 1 0 := by cases acc <;> simp [ownW]
abbrev frT (op v w:Int) (acc:List T) (l:List S) (o:Own) (i:Int) : Fr := [(2,boxZ),(3,.int .i64 op),(7,.box [.int .i64 op,.int .i64 w,.int .u64 v,.str [],.list (T.avs acc) (ownT acc)]),(8,.list (wds acc) (ownW acc)),(75,.list (S.avs l) o),(76,.int .i64 l.length),(77,.int .i64 i)]
def outT (op v w:Int) (hp:List HObj) (acc:List T) (l:List S) (o:Own) : TRs → Ex × St → Prop
 | .err c,r => ∃ fr,r = (.pan (.iface 78 (.agg [.int .i64 c])),⟨fr,hp⟩)
 | .ok ts,r => r = (.exit 0,⟨frT op v w (acc ++ ts) l o l.length ++ [(78,.bool false)],hp⟩)
theorem outT_cons (op v w:Int) (hp:List HObj) (acc:List T) (l:List S) (o:Own) (t:T) (s:TRs) (r:Ex × St) : outT op v w hp acc l o (TRs.cons (.ok t) s) r ↔ outT op v w hp (acc ++ [t]) l o s r := by
 cases s <;> simp [outT,TRs.cons]
section
variable {hp:List HObj} {lo:Nat} (q:Bool)
set_option maxHeartbeats 1000000 in
theorem readT_L (op v w:Int) (l:List S) (o:Own) (hl10:l.length ≤ 10) : ∀ (r p:List S) (acc:List T),l = p ++ r → acc.length ≤ p.length →
   (∀ x,x ∈ r → ∀ (hp:List HObj) (lo:Nat),callD G0 IP n_tt_read [x.av] hp lo false = some ((readS x).out hp)) →
   ∃ res,loopD G0 IP lo l_tt_read_0 ⟨frT op v w acc l o p.length,hp⟩ = some res ∧ outT op v w hp acc l o (readsS r 0) res
 | [],p,acc,h,ha,_ => by
   rw [loopD_eq,loopBody]
   simp at h
   subst h
   simp [l_tt_read_0,readsS,outT]
 | x :: r,p,acc,h,ha,ih => by
   rw [loopD_eq,loopBody]
   have hlen : l.length = p.length + (r.length + 1) := by rw [h]; simp
   have h1 : (p.length : Int) < (l.length : Int) := by omega
   have hl : p.length < l.length := by omega
   have h2 : l[p.length] = x := by simp [h]
   have hw : IntKind.wrap .i64 ((p.length : Int) + 1) = (p.length : Int) + 1 := wrap_small (by omega) (by omega)
   have e1 := ih x (by simp) hp lo
   rw [readsS]
   cases hx : readS x with
   | err c =>
     rw [hx] at e1
     simp only [TR.out] at e1
     rw [S.av_eq] at e1
     simp [l_tt_read_0,hl,h1,h2,S.av_eq x,e1,TRs.cons,outT]
   | ok t =>
     rw [hx] at e1
     simp only [TR.out] at e1
     rw [S.av_eq,T.av_eq] at e1
     obtain ⟨res,e2,e3⟩ := readT_L op v w l o hl10 r (p ++ [x]) (acc ++ [t]) (by rw [h]; simp) (by simp; omega) (fun y hy => ih y (by simp [hy]))
     simp only [List.length_append,List.length_cons,List.length_nil,Nat.zero_add,Int.natCast_add,Int.natCast_one] at e2
     have hb1 : (acc.length + 1) * 64 ≤ 140737488355328 := by omega
     have hb2 : acc.length + 1 ≤ 9223372036854775807 := by omega
     have hb3 : (acc.length + 1) * 8 ≤ 140737488355328 := by omega
     rw [frT,wds_app,T.avs_app,ownT_app,ownW_app,show T.avs [t] = [.agg [.int .i64 t.op,.int .i64 t.width,.int .u64 t.val,.str t.name,.list (T.avs t.args) (ownB t.o)]] by simp [T.avs,T.av_eq]] at e2
     refine ⟨res,?_,(outT_cons ..).2 e3⟩
     simp [l_tt_read_0,hl,h1,h2,S.av_eq x,e1,hb1,hb2,hb3,ownT_ok,ownW_ok,hw]
     exact e2
theorem out_err (hp:List HObj) (c:Int) : (TR.err c).out hp = .pan (.iface 78 (.agg [.int .i64 c])) hp := rfl
theorem out_ok (hp:List HObj) (t:T) : (TR.ok t).out hp = .ret t.av hp := rfl
set_option maxHeartbeats 4000000 in
theorem readT_D (e : S) : e.sm → ∀ (hp:List HObj) (lo:Nat),callD G0 IP n_tt_read [e.av] hp lo false = some ((readS e).out hp) := by
 induction e using S.ind with | h e ih =>
 intro hsm hp lo
 rw [S.sm_eq] at hsm
 obtain ⟨ha,hs⟩ := hsm
 rw [callD_eq,S.av_eq]
 cases e with | mk a o l =>
 simp only [S.atom,S.list,S.o] at *
 rw [readS]
 by_cases h0 : a = []
 · subst h0
   rw [if_neg (by simp)]
   cases l with
   | nil =>
     simp [IP_tt_read,i_tt_read,must_D,headR,out_err]
   | cons x r =>
     have hx : (x :: r).getD 0 S.z = x := rfl
     rw [hx]
     have e1 := fun hp lo q => opOf_D (hp := hp) (lo := lo) q x.atom
     have hgt : (0:Int) < (r.length : Int) + 1 := by omega
     cases hok : (ofE x.atom).2 with
     | false =>
       have hR : headR (x :: r) = false := by unfold headR; rw [hx,hok]; simp
       rw [if_pos hR]
       simp [IP_tt_read,i_tt_read,must_D,S.avs,S.av_eq x,e1,hok,hgt,out_err]
     | true =>
       have hop := ofE_ok hok
       have hbd := arE_bd (ofE x.atom).1
       have hnb := numsN_bd (ofE x.atom).1
       have hR : headR (x :: r) = (!decide (arE (ofE x.atom).1 = 0) && decide (((x :: r).length : Int) = 1 + numsN (ofE x.atom).1 + arE (ofE x.atom).1)) := by unfold headR; rw [hx,hok]; simp
       rw [hR]
       generalize (ofE x.atom).1 = op at *
       have hge := arE_ge hop
       by_cases k1 : arE op = 0
       · rw [if_pos (by simp [k1])]
         simp [IP_tt_read,i_tt_read,must_D,S.avs,S.av_eq x,e1,hok,hgt,out_err,opLeaf_D,k1]
       · have hw2 : IntKind.wrap .i64 ((numsN op:Int) + arE op) = (numsN op:Int) + arE op := wrap_small (by omega) (by omega)
         by_cases k3 : (r.length : Int) = (numsN op:Int) + arE op
         · rw [if_neg (by simp [k1]; omega)]
           have k3' : (numsN op:Int) + arE op = (r.length : Int) := k3.symm
           have hw3 : IntKind.wrap .i64 (r.length : Int) = (r.length : Int) := by rw [k3]; exact hw2
           have ihl : ∀ y,y ∈ x :: r → ∀ (hp:List HObj) (lo:Nat),callD G0 IP n_tt_read [y.av] hp lo false = some ((readS y).out hp) := fun y hy => ih y hy (hs y hy)
           have tail : ∀ (w v:Int),0 ≤ v → ∀ (ts:List T),ts.length ≤ 10 → ∀ hp lo q (oo:Own),callD G0 IP n_oi_Width [.int .i64 op,.int .i64 w,.int .u64 v,.list (wds ts) oo] hp lo q = some (.ret (.tup [.int .i64 (widE op w v (ts.map T.width)).1,.int .i64 (widE op w v (ts.map T.width)).2]) hp) :=
             fun w v hv ts ht hp lo q oo => width_D q op w v hv (ts.map T.width) oo (by rw [List.length_map]; omega)
           have num : ∀ (y:S),y ∈ x :: r → ∀ (hp:List HObj) (lo:Nat) (m:Int) (o:Own),callD G0 IP n_tt_number [.agg [.str y.atom,.list (S.avs y.list) o],.int .u64 m] hp lo false = some (TR1 hp .u64 (numR y.atom m)) :=
             fun y hy hp lo m o => number_D y.atom o (S.avs y.list) ((S.sm_eq y).1 (hs y hy)).1 m
           have hN : ∀ hp lo q,callD G0 IP n_tt_numerals [.int .i64 op] hp lo q = some (.ret (.int .i64 (numsN op)) hp) := fun hp lo q => ttNumerals_D q op
           by_cases h21 : op = 21
           · have n2 : numsN op = 2 := by subst h21; rfl
             have a1 : arE op = 1 := by subst h21; rfl
             rw [n2,a1] at k3 k3'
             match r,k3 with
             | [y, z, u],_ =>
               simp only [n2] at hN
               have hA : ∀ hp lo q,callD G0 IP n_oi_Arity [.int .i64 op] hp lo q = some (.ret (.int .i64 1) hp) := fun hp lo q => by rw [arity_D,a1]
               have hw : IntKind.wrap .i64 3 = 3 := rfl
               have hw1 : IntKind.wrap .i64 1 = 1 := rfl
               have by1 := numR_bd y.atom 18446744073709551615 (by omega)
               have bz := numR_bd z.atom 64 (by omega)
               have wz : IntKind.wrap .i64 (numR z.atom 64).1 = (numR z.atom 64).1 := wrap_small (by omega) (by omega)
               have ey := num y (by simp)
               have ez := num z (by simp)
               have g1 : [x,y,z,u].getD 1 S.z = y := rfl
               have g2 : [x,y,z,u].getD 2 S.z = z := rfl
               have hnr : numsR op [x,y,z,u] = (if (numR y.atom 18446744073709551615).2 ≠ 0 then (0,0,(numR y.atom 18446744073709551615).2) else if (numR z.atom 64).2 ≠ 0 then (0,0,(numR z.atom 64).2) else ((numR y.atom 18446744073709551615).1,(numR z.atom 64).1,0)) := by
                 unfold numsR; rw [if_pos h21,g1,g2]
               rw [hnr]
               by_cases m1 : (numR y.atom 18446744073709551615).2 = 0
               · by_cases m2 : (numR z.atom 64).2 = 0
                 · rw [if_neg (by simp [m1,m2])]
                   simp only [m1,m2]
                   obtain ⟨res,l1,l2⟩ := readT_L (hp := hp) (lo := hp.length) op (numR y.atom 18446744073709551615).1 (numR z.atom 64).1 [u] .no (by simp) [u] [] [] rfl (by simp) (fun x hx => ihl x (by simp at hx; simp [hx]))
                   have e9 : readsS [x,y,z,u] (1 + numsN op) = readsS [u] 0 := by rw [n2]; rfl
                   rw [e9]
                   simp [frT,S.avs,S.av_eq u,ownT,ownW,T.avs] at l1
                   cases hrs : readsS [u] 0 with
                   | err c =>
                     rw [hrs] at l2
                     obtain ⟨fr,rfl⟩ := l2
                     simp [IP_tt_read,i_tt_read,must_D,S.avs,S.av_eq x,S.av_eq y,S.av_eq z,S.av_eq u,e1,hok,hgt,opLeaf_D,hA,k1,hw,hN,ey,ez,TR1,hw1,wz,m1,m2,l1,out_err,nodeR]
                   | ok ts =>
                     rw [hrs] at l2
                     simp only [outT,List.nil_append] at l2
                     subst l2
                     have htl := tail (numR z.atom 64).1 (numR y.atom 18446744073709551615).1 by1.1 ts (by have := readsS_len [u] 0 ts hrs; simp at this; omega)
                     simp only [nodeR]
                     by_cases k6 : (widE op (numR z.atom 64).1 (numR y.atom 18446744073709551615).1 (ts.map T.width)).2 = 0
                     · rw [if_neg (by simp [k6])]
                       simp [IP_tt_read,i_tt_read,must_D,S.avs,S.av_eq x,S.av_eq y,S.av_eq z,S.av_eq u,e1,hok,hgt,opLeaf_D,hA,k1,hw,hN,ey,ez,TR1,hw1,wz,m1,m2,l1,htl,k6,failT_D,out_ok,T.av]
                     · rw [if_pos (by simp [k6])]
                       simp [IP_tt_read,i_tt_read,must_D,S.avs,S.av_eq x,S.av_eq y,S.av_eq z,S.av_eq u,e1,hok,hgt,opLeaf_D,hA,k1,hw,hN,ey,ez,TR1,hw1,wz,m1,m2,l1,htl,k6,failT_D,out_err]
                 · rw [if_pos (by simp [m1,m2])]
                   simp [IP_tt_read,i_tt_read,must_D,S.avs,S.av_eq x,S.av_eq y,S.av_eq z,S.av_eq u,e1,hok,hgt,opLeaf_D,hA,k1,hw,hN,ey,ez,TR1,hw1,m1,m2,out_err]
               · rw [if_pos (by simp [m1])]
                 simp [IP_tt_read,i_tt_read,must_D,S.avs,S.av_eq x,S.av_eq y,S.av_eq z,S.av_eq u,e1,hok,hgt,opLeaf_D,hA,k1,hw,hN,ey,ez,TR1,hw1,m1,out_err]
           · by_cases h22 : op = 22 ∨ op = 23
             · have n1 : numsN op = 1 := by simp [numsN,h21,h22]
               have a1 : arE op = 1 := by rcases h22 with rfl | rfl <;> rfl
               rw [n1,a1] at k3 k3'
               match r,k3 with
               | [y, u],_ =>
                 simp only [n1] at hN
                 have hA : ∀ hp lo q,callD G0 IP n_oi_Arity [.int .i64 op] hp lo q = some (.ret (.int .i64 1) hp) := fun hp lo q => by rw [arity_D,a1]
                 have hw : IntKind.wrap .i64 2 = 2 := rfl
                 have hw1 : IntKind.wrap .i64 0 = 0 := rfl
                 have bz := numR_bd y.atom 64 (by omega)
                 have wz : IntKind.wrap .i64 (numR y.atom 64).1 = (numR y.atom 64).1 := wrap_small (by omega) (by omega)
                 have ey := num y (by simp)
                 have g1 : [x,y,u].getD 1 S.z = y := rfl
                 have hnr : numsR op [x,y,u] = (if (numR y.atom 64).2 ≠ 0 then (0,0,(numR y.atom 64).2) else (0,(numR y.atom 64).1,0)) := by
                   unfold numsR; rw [if_neg h21,if_pos h22,g1]
                 rw [hnr]
                 by_cases m2 : (numR y.atom 64).2 = 0
                 · rw [if_neg (by simp [m2])]
                   simp only [m2]
                   obtain ⟨res,l1,l2⟩ := readT_L (hp := hp) (lo := hp.length) op 0 (numR y.atom 64).1 [u] .no (by simp) [u] [] [] rfl (by simp) (fun x hx => ihl x (by simp at hx; simp [hx]))
                   have e9 : readsS [x,y,u] (1 + numsN op) = readsS [u] 0 := by rw [n1]; rfl
                   rw [e9]
                   simp [frT,S.avs,S.av_eq u,ownT,ownW,T.avs] at l1
                   cases hrs : readsS [u] 0 with
                   | err c =>
                     rw [hrs] at l2
                     obtain ⟨fr,rfl⟩ := l2
                     simp [IP_tt_read,i_tt_read,must_D,S.avs,S.av_eq x,S.av_eq y,e1,hok,hgt,opLeaf_D,hA,k1,hN,ey,TR1,hw,hw1,wz,m2,S.av_eq u,l1,out_err,nodeR]
                   | ok ts =>
                     rw [hrs] at l2
                     simp only [outT,List.nil_append] at l2
                     subst l2
                     have htl := tail (numR y.atom 64).1 0 (by omega) ts (by have := readsS_len [u] 0 ts hrs; simp at this; omega)
                     simp only [nodeR]
                     by_cases k6 : (widE op (numR y.atom 64).1 0 (ts.map T.width)).2 = 0
                     · rw [if_neg (by simp [k6])]
                       simp [IP_tt_read,i_tt_read,must_D,S.avs,S.av_eq x,S.av_eq y,e1,hok,hgt,opLeaf_D,hA,k1,hN,ey,TR1,hw,hw1,wz,m2,S.av_eq u,l1,htl,k6,failT_D,out_ok,T.av]
                     · rw [if_pos (by simp [k6])]
                       simp [IP_tt_read,i_tt_read,must_D,S.avs,S.av_eq x,S.av_eq y,e1,hok,hgt,opLeaf_D,hA,k1,hN,ey,TR1,hw,hw1,wz,m2,S.av_eq u,l1,htl,k6,failT_D,out_err]
                 · rw [if_pos (by simp [m2])]
                   simp [IP_tt_read,i_tt_read,must_D,S.avs,S.av_eq x,S.av_eq y,e1,hok,hgt,opLeaf_D,hA,k1,hN,ey,TR1,hw,hw1,m2,S.av_eq u,out_err]
             · have n0 : numsN op = 0 := by simp [numsN,h21,h22]
               simp only [n0] at hN
               rw [n0] at k3 k3' hw2
               have ha : arE op = (r.length : Int) := by omega
               have hA : ∀ hp lo q,callD G0 IP n_oi_Arity [.int .i64 op] hp lo q = some (.ret (.int .i64 r.length) hp) := fun hp lo q => by rw [arity_D,ha]
               have htk : List.take r.length (S.avs r) = S.avs r := List.take_of_length_le (by simp)
               have hnr : numsR op (x :: r) = (0,0,0) := by
                 unfold numsR; rw [if_neg h21,if_neg h22]
               rw [hnr]
               rw [if_neg (by simp)]
               obtain ⟨res,l1,l2⟩ := readT_L (hp := hp) (lo := hp.length) op 0 0 r .no (by omega) r [] [] rfl (by simp) (fun x hx => ihl x (by simp [hx]))
               have e9 : readsS (x :: r) (1 + numsN op) = readsS r 0 := by rw [n0]; rfl
               rw [e9]
               simp [frT,ownT,ownW,T.avs] at l1
               cases hrs : readsS r 0 with
               | err c =>
                 rw [hrs] at l2
                 obtain ⟨fr,rfl⟩ := l2
                 simp [IP_tt_read,i_tt_read,must_D,S.avs,S.av_eq x,e1,hok,hgt,opLeaf_D,hA,k1,hN,hw3,htk,l1,out_err,nodeR]
               | ok ts =>
                 rw [hrs] at l2
                 simp only [outT,List.nil_append] at l2
                 subst l2
                 have htl := tail 0 0 (by omega) ts (by have := readsS_len r 0 ts hrs; omega)
                 simp only [nodeR]
                 by_cases k6 : (widE op 0 0 (ts.map T.width)).2 = 0
                 · rw [if_neg (by simp [k6])]
                   simp [IP_tt_read,i_tt_read,must_D,S.avs,S.av_eq x,e1,hok,hgt,opLeaf_D,hA,k1,hN,hw3,htk,l1,htl,k6,failT_D,out_ok,T.av]
                 · rw [if_pos (by simp [k6])]
                   simp [IP_tt_read,i_tt_read,must_D,S.avs,S.av_eq x,e1,hok,hgt,opLeaf_D,hA,k1,hN,hw3,htk,l1,htl,k6,failT_D,out_err]
         · rw [if_pos (by simp [k1]; omega)]
           simp [IP_tt_read,i_tt_read,must_D,S.avs,S.av_eq x,e1,hok,hgt,out_err,opLeaf_D,ttNumerals_D,arity_D,k1,hw2,k3]
 · rw [if_pos h0]
   have e1 := fun (hp:List HObj) (lo:Nat) => leafT_D (hp := hp) (lo := lo) a h0 ha
   cases hx : leafR a with
   | err c => simp [IP_tt_read,i_tt_read,h0,e1,hx,out_err]
   | ok t => simp [IP_tt_read,i_tt_read,h0,e1,hx,out_ok,T.av_eq t]
end
end Go.Proofs.YtkofimhnehkdoaaGreatDoor.Rf
end
section
namespace Go.Proofs.YtkofimhnehkdoaaGreatDoor.Rf
abbrev zCells : List AV := [.int .i64 0,.int .i64 0,.int .u64 0,.str [],.list [] .nil]
theorem recvT_D (hp:List HObj) (a b c d f v:AV) (e:Int) (lo:Nat) (hlo:lo ≤ hp.length) : evalRecv G0 IP (callD G0 IP) (loopD G0 IP lo) lo n_tt_Read_1 [.ptr hp.length 0,.ptr (hp.length + 1) 0]
   (hp ++ [.cells 0 [a,b,c,d,f],.cells 0 [v]]) (.iface 78 (.agg [.int .i64 e])) = some (hp ++ [.cells 0 zCells,.cells 0 [.int .i64 e]]) := by
 have h1 : lo ≤ hp.length + 1 := by omega
 simp [IP_tt_Read_1,i_tt_Read_1,hlo,h1,List.getElem?_append_right,List.set_append_right]
theorem recvT0_D (hp:List HObj) (a b c d f v:AV) (lo:Nat) : evalRecv G0 IP (callD G0 IP) (loopD G0 IP lo) lo n_tt_Read_1 [.ptr hp.length 0,.ptr (hp.length + 1) 0]
   (hp ++ [.cells 0 [a,b,c,d,f],.cells 0 [v]]) .nili = some (hp ++ [.cells 0 [a,b,c,d,f],.cells 0 [v]]) := by
 simp [IP_tt_Read_1,i_tt_Read_1]
section
variable {hp:List HObj} {lo:Nat} (q:Bool)
theorem read_D (e:S) (hsm:e.sm) (hp:List HObj) (lo:Nat) (q:Bool) : callD G0 IP n_tt_Read [e.av] hp lo q = some ((readS e).tup hp) := by
 have e1 := readT_D e hsm
 rw [callD_eq]
 rw [S.av_eq] at e1 ⊢
 cases hx : readS e with
 | err c =>
   rw [hx] at e1
   simp only [out_err] at e1
   simp [-evalRecv,IP_tt_Read,i_tt_Read,e1,tup_err,recvT_D]
 | ok t =>
   rw [hx] at e1
   simp only [out_ok] at e1
   rw [T.av_eq] at e1
   simp [-evalRecv,IP_tt_Read,i_tt_Read,e1,tup_ok,T.av_eq t,recvT0_D,T.avs_closed]
end
end Go.Proofs.YtkofimhnehkdoaaGreatDoor.Rf
end
section
namespace Go.Proofs.YtkofimhnehkdoaaGreatDoor.Rf
section
variable {hp:List HObj} {lo:Nat}
end
end Go.Proofs.YtkofimhnehkdoaaGreatDoor.Rf
end
section
namespace Go.Proofs.YtkofimhnehkdoaaGreatDoor.Rf
end Go.Proofs.YtkofimhnehkdoaaGreatDoor.Rf
end
section
namespace Go.Proofs.YtkofimhnehkdoaaGreatDoor.Rf
section
variable {hp:List HObj} {lo:Nat}
theorem sames6_of {as:List T} (ih:∀ t,t ∈ as → ∀ (u:T) (hp:List HObj) (lo:Nat) (q:Bool),callD G0 IP n_sr06_Same [t.av,u.av] hp lo q = some (.ret (.bool (t.same u)) hp)) (bs:List T) (hl:as.length ≤ 9223372036854775807) (o1 o2:Own) (hp:List HObj) (lo:Nat) (q:Bool) :
   callD G0 IP n_sr06_SameAll [.list (T.avs as) o1,.list (T.avs bs) o2] hp lo q = some (.ret (.bool (T.sames as bs)) hp) := by
 rw [callD_eq]
 by_cases he : as.length = bs.length
 · have hloop := loop_find (G := G0) (IP := IP) (lo := hp.length) (b := l_sr06_SameAll_0)
     (fun i => ⟨[(0,.list (T.avs as) o1),(1,.list (T.avs bs) o2),(5,.int .i64 i)],hp⟩) as.length (fun i => !(as.getD i (.mk 0 0 0 [] true [])).same (bs.getD i (.mk 0 0 0 [] true [])))
     (.ret,⟨[(4,.bool false)],hp⟩) (.exit 0,⟨[(0,.list (T.avs as) o1),(1,.list (T.avs bs) o2),(5,.int .i64 as.length),(14,.bool false)],hp⟩)
     (fun i hi hp1 => by
       have hi2 : i < bs.length := by omega
       have e1 := ih as[i] (List.getElem_mem hi) bs[i] hp hp.length true
       have h2 : as[i].same bs[i] = true := by simpa [hi,hi2] using hp1
       rw [h2,T.av_eq,T.av_eq] at e1
       have hiI : (i:Int) < (as.length : Int) := by omega
       have hiI2 : (i:Int) < (bs.length : Int) := by omega
       have hw := wrap_succ hi hl
       simp [l_sr06_SameAll_0,hi,hi2,hiI,hiI2,T.av_eq as[i],T.av_eq bs[i],e1,hw])
     (fun i hi hp1 => by
       have hi2 : i < bs.length := by omega
       have e1 := ih as[i] (List.getElem_mem hi) bs[i] hp hp.length true
       have h2 : as[i].same bs[i] = false := by simpa [hi,hi2] using hp1
       rw [h2,T.av_eq,T.av_eq] at e1
       have hiI : (i:Int) < (as.length : Int) := by omega
       have hiI2 : (i:Int) < (bs.length : Int) := by omega
       simp [l_sr06_SameAll_0,hi,hi2,hiI,hiI2,T.av_eq as[i],T.av_eq bs[i],e1])
     (fun s => by simp) (by simp [l_sr06_SameAll_0]) (fun s => by simp)
   have hI : (as.length : Int) = (bs.length : Int) := by omega
   rw [T.sames_eq as bs he]
   simp only [Int.natCast_zero] at hloop
   cases hany : (List.range as.length).any fun i => !(as.getD i (.mk 0 0 0 [] true [])).same (bs.getD i (.mk 0 0 0 [] true []))
   · rw [hany] at hloop
     simp only [Bool.false_eq_true,if_false] at hloop
     simp [IP_sr06_SameAll,i_sr06_SameAll,hI,hloop]
   · rw [hany] at hloop
     simp only [if_true] at hloop
     simp [IP_sr06_SameAll,i_sr06_SameAll,hI,hloop]
 · have hI : ¬ (as.length : Int) = (bs.length : Int) := by omega
   rw [T.sames_len as bs he]
   simp [IP_sr06_SameAll,i_sr06_SameAll,hI]
set_option maxHeartbeats 1000000 in
theorem same6_D (t:T) : t.wf → ∀ (u:T) (hp:List HObj) (lo:Nat) (q:Bool),callD G0 IP n_sr06_Same [t.av,u.av] hp lo q = some (.ret (.bool (t.same u)) hp) := by
 induction t using T.ind with | h t ih =>
 intro hw u hp lo q
 rw [T.wf_eq] at hw
 have e1 := fun q => sames6_of (as := t.args) (fun x hx => ih x hx (hw.2.2.2.2.2.2 x hx)) u.args hw.2.2.2.2.1 (ownB t.o) (ownB u.o) hp hp.length q
 rw [callD_eq,T.same_eq]
 rw [T.av_eq t,T.av_eq u]
 by_cases h1 : t.op = u.op
 · by_cases h2 : t.width = u.width
   · by_cases h3 : t.val = u.val
     · by_cases h4 : t.name = u.name
       · simp [IP_sr06_Same,i_sr06_Same,h1,h2,h3,h4,e1]
       · simp [IP_sr06_Same,i_sr06_Same,h1,h2,h3,h4]
     · simp [IP_sr06_Same,i_sr06_Same,h1,h2,h3]
   · simp [IP_sr06_Same,i_sr06_Same,h1,h2]
 · simp [IP_sr06_Same,i_sr06_Same,h1]
end
end Go.Proofs.YtkofimhnehkdoaaGreatDoor.Rf
end
section
namespace Go.Proofs.YtkofimhnehkdoaaGreatDoor.Rf
def same2 {α:Type} (p:α → α → Bool) : List α → List α → Bool
 | [],[] => true
 | a :: r,b :: r' => p a b && same2 p r r'
 | _,_ => false
theorem same2_eq {α:Type} (p:α → α → Bool) (d:α) : ∀ l m : List α,l.length = m.length → ((List.range l.length).any fun i => !p (l.getD i d) (m.getD i d)) = !(same2 p l m)
 | [],[],_ => rfl
 | a :: r,b :: r',h => by
   have := same2_eq p d r r' (by simpa using h)
   rw [List.length_cons,List.range_succ_eq_map]; simp only [List.any_cons,List.any_map,Function.comp_def]; simp only [List.getD_cons_zero,List.getD_cons_succ]; rw [this,same2]; cases p a b <;> simp
theorem same2_len {α:Type} (p:α → α → Bool) : ∀ l m : List α,¬ l.length = m.length → same2 p l m = false
 | [],[],h => absurd rfl h
 | [],_ :: _,_ => rfl
 | _ :: _,[],_ => rfl
 | a :: r,b :: r',h => by rw [same2,same2_len p r r' (by simpa using h)]; simp
theorem same2_refl {α:Type} {p:α → α → Bool} : ∀ l : List α,(∀ x,x ∈ l → p x x = true) → same2 p l l = true
 | [],_ => rfl
 | a :: r,h => by rw [same2,h a (by simp),same2_refl r (fun x hx => h x (by simp [hx]))]; rfl
def eqI (a b:Int) : Bool := decide (a = b)
def Sb.same (s t:Sb) : Bool := decide (s.name = t.name) && s.t.same t.t
def St7.same (s t:St7) : Bool := decide (s.kind = t.kind) && (same2 eqI s.refs t.refs && (decide (s.rule = t.rule) && (same2 Sb.same s.subs t.subs && (s.a.same t.a && s.b.same t.b))))
section
variable {hp:List HObj} {lo:Nat}
theorem same3_D (l m:List Int) (hl:l.length ≤ 9223372036854775807) (o1 o2:Own) (hp:List HObj) (lo:Nat) (q:Bool) : callD G0 IP n_sr03_Same [.list (i64s l) o1,.list (i64s m) o2] hp lo q = some (.ret (.bool (same2 eqI l m)) hp) := by
 rw [callD_eq]
 by_cases he : l.length = m.length
 · have hloop := loop_find (G := G0) (IP := IP) (lo := hp.length) (b := l_sr03_Same_0)
     (fun i => ⟨[(0,.list (i64s l) o1),(1,.list (i64s m) o2),(5,.int .i64 i)],hp⟩) l.length (fun i => !eqI (l.getD i 0) (m.getD i 0))
     (.ret,⟨[(4,.bool false)],hp⟩) (.exit 0,⟨[(0,.list (i64s l) o1),(1,.list (i64s m) o2),(5,.int .i64 l.length),(14,.bool false)],hp⟩)
     (fun i hi hp1 => by
       have hi2 : i < m.length := by omega
       have h2 : l[i] = m[i] := by simpa [hi,hi2,eqI] using hp1
       have hiI : (i:Int) < (l.length : Int) := by omega
       have hiI2 : (i:Int) < (m.length : Int) := by omega
       have hw := wrap_succ hi hl
       simp [l_sr03_Same_0,hi,hi2,hiI,hiI2,h2,hw])
     (fun i hi hp1 => by
       have hi2 : i < m.length := by omega
       have h2 : ¬ l[i] = m[i] := by simpa [hi,hi2,eqI] using hp1
       have hiI : (i:Int) < (l.length : Int) := by omega
       have hiI2 : (i:Int) < (m.length : Int) := by omega
       simp [l_sr03_Same_0,hi,hi2,hiI,hiI2,h2])
     (fun s => by simp) (by simp [l_sr03_Same_0]) (fun s => by simp)
   rw [same2_eq eqI 0 l m he] at hloop
   have hI : (l.length : Int) = (m.length : Int) := by omega
   simp only [Int.natCast_zero] at hloop
   cases hs : same2 eqI l m
   · rw [hs] at hloop
     simp only [Bool.not_false,if_true] at hloop
     simp [IP_sr03_Same,i_sr03_Same,hI,hloop]
   · rw [hs] at hloop
     simp only [Bool.not_true,Bool.false_eq_true,if_false] at hloop
     simp [IP_sr03_Same,i_sr03_Same,hI,hloop]
 · have hI : ¬ (l.length : Int) = (m.length : Int) := by omega
   rw [same2_len eqI l m he]
   simp [IP_sr03_Same,i_sr03_Same,hI]
theorem subs34_D (l m:List Sb) (hl:l.length ≤ 9223372036854775807) (hw:∀ s,s ∈ l → s.t.wf) (o1 o2:Own) (hp:List HObj) (lo:Nat) (q:Bool) : callD G0 IP n_sr34_subs [.list (sbs l) o1,.list (sbs m) o2] hp lo q = some (.ret (.bool (same2 Sb.same l m)) hp) := by
 rw [callD_eq]
 by_cases he : l.length = m.length
 · have hloop := loop_find (G := G0) (IP := IP) (lo := hp.length) (b := l_sr34_subs_0)
     (fun i => ⟨[(0,.list (sbs l) o1),(1,.list (sbs m) o2),(5,.int .i64 i)],hp⟩) l.length (fun i => !Sb.same (l.getD i ⟨[],T.z⟩) (m.getD i ⟨[],T.z⟩))
     (.ret,⟨[(4,.bool false)],hp⟩) (.exit 0,⟨[(0,.list (sbs l) o1),(1,.list (sbs m) o2),(5,.int .i64 l.length),(14,.bool false)],hp⟩)
     (fun i hi hp1 => by
       have hi2 : i < m.length := by omega
       have h2 : Sb.same l[i] m[i] = true := by simpa [hi,hi2] using hp1
       simp only [Sb.same,Bool.and_eq_true,decide_eq_true_eq] at h2
       have e1 := fun hp lo q => same6_D l[i].t (hw _ (List.getElem_mem hi)) m[i].t hp lo q
       rw [h2.2] at e1
       rw [T.av_eq,T.av_eq] at e1
       have hiI : (i:Int) < (l.length : Int) := by omega
       have hiI2 : (i:Int) < (m.length : Int) := by omega
       have hw := wrap_succ hi hl
       simp [l_sr34_subs_0,hi,hi2,hiI,hiI2,Sb.av_eq l[i],Sb.av_eq m[i],h2.1,e1,hw])
     (fun i hi hp1 => by
       have hi2 : i < m.length := by omega
       have h2 : Sb.same l[i] m[i] = false := by simpa [hi,hi2] using hp1
       simp only [Sb.same,Bool.and_eq_false_iff,decide_eq_false_iff_not] at h2
       have e1 := fun hp lo q => same6_D l[i].t (hw _ (List.getElem_mem hi)) m[i].t hp lo q
       rw [T.av_eq,T.av_eq] at e1
       have hiI : (i:Int) < (l.length : Int) := by omega
       have hiI2 : (i:Int) < (m.length : Int) := by omega
       by_cases h3 : l[i].name = m[i].name
       · have h4 : l[i].t.same m[i].t = false := by
           rcases h2 with h2 | h2
           · exact absurd h3 h2
           · exact h2
         rw [h4] at e1
         simp [l_sr34_subs_0,hi,hi2,hiI,hiI2,Sb.av_eq l[i],Sb.av_eq m[i],h3,e1]
       · simp [l_sr34_subs_0,hi,hi2,hiI,hiI2,Sb.av_eq l[i],Sb.av_eq m[i],h3])
     (fun s => by simp) (by simp [l_sr34_subs_0]) (fun s => by simp)
   rw [same2_eq Sb.same ⟨[],T.z⟩ l m he] at hloop
   have hI : (l.length : Int) = (m.length : Int) := by omega
   simp only [Int.natCast_zero] at hloop
   cases hs : same2 Sb.same l m
   · rw [hs] at hloop
     simp only [Bool.not_false,if_true] at hloop
     simp [IP_sr34_subs,i_sr34_subs,hI,hloop]
   · rw [hs] at hloop
     simp only [Bool.not_true,Bool.false_eq_true,if_false] at hloop
     simp [IP_sr34_subs,i_sr34_subs,hI,hloop]
 · have hI : ¬ (l.length : Int) = (m.length : Int) := by omega
   rw [same2_len Sb.same l m he]
   simp [IP_sr34_subs,i_sr34_subs,hI]
set_option maxHeartbeats 4000000 in
set_option maxRecDepth 8192 in
theorem same34_D (l m : List St7) (hl:l.length ≤ 9223372036854775807) (hw:∀ s,s ∈ l → s.wf) (o1 o2:Own) (hp:List HObj) (lo:Nat) (q:Bool) : callD G0 IP n_sr34_Same [.list (St7.avs l) o1,.list (St7.avs m) o2] hp lo q = some (.ret (.bool (same2 St7.same l m)) hp) := by
 rw [callD_eq]
 by_cases he : l.length = m.length
 · have hE : ∀ i (hi:i < l.length) (hi2:i < m.length),(∀ (o1 o2:Own) (hp:List HObj) (lo:Nat) (q:Bool),callD G0 IP n_sr03_Same [.list (i64s l[i].refs) o1,.list (i64s m[i].refs) o2] hp lo q = some (.ret (.bool (same2 eqI l[i].refs m[i].refs)) hp)) ∧
       (∀ (o1 o2:Own) (hp:List HObj) (lo:Nat) (q:Bool),callD G0 IP n_sr34_subs [.list (sbs l[i].subs) o1,.list (sbs m[i].subs) o2] hp lo q = some (.ret (.bool (same2 Sb.same l[i].subs m[i].subs)) hp)) ∧
       (∀ hp lo q,callD G0 IP n_sr06_Same [l[i].a.av,m[i].a.av] hp lo q = some (.ret (.bool (l[i].a.same m[i].a)) hp)) ∧
       (∀ hp lo q,callD G0 IP n_sr06_Same [l[i].b.av,m[i].b.av] hp lo q = some (.ret (.bool (l[i].b.same m[i].b)) hp)) := by
     intro i hi hi2
     obtain ⟨w1,w2,w3,w4,w5,w6,w7,w8⟩ := hw _ (List.getElem_mem hi)
     exact ⟨same3_D _ _ w3,subs34_D _ _ w6 (fun s hs => (w5 s hs).2),same6_D _ w7 _,same6_D _ w8 _⟩
   have hloop := loop_find (G := G0) (IP := IP) (lo := hp.length) (b := l_sr34_Same_0)
     (fun i => ⟨[(0,.list (St7.avs l) o1),(1,.list (St7.avs m) o2),(5,.int .i64 i)],hp⟩) l.length (fun i => !St7.same (l.getD i St7.z) (m.getD i St7.z))
     (.ret,⟨[(4,.bool false)],hp⟩) (.exit 0,⟨[(0,.list (St7.avs l) o1),(1,.list (St7.avs m) o2),(5,.int .i64 l.length),(16,.bool false)],hp⟩)
     (fun i hi hp1 => by
       have hi2 : i < m.length := by omega
       have h2 : St7.same l[i] m[i] = true := by simpa [hi,hi2] using hp1
       simp only [St7.same,Bool.and_eq_true,decide_eq_true_eq] at h2
       obtain ⟨c1,c2,c3,c4,c5,c6⟩ := h2
       obtain ⟨e1,e2,e3,e4⟩ := hE i hi hi2
       rw [c2] at e1
       rw [c4] at e2
       rw [c5,T.av_eq,T.av_eq] at e3
       rw [c6,T.av_eq,T.av_eq] at e4
       have hiI : (i:Int) < (l.length : Int) := by omega
       have hiI2 : (i:Int) < (m.length : Int) := by omega
       have hw := wrap_succ hi hl
       simp [l_sr34_Same_0,hi,hi2,hiI,hiI2,st_av,c1,c3,e1,e2,e3,e4,hw])
     (fun i hi hp1 => by
       have hi2 : i < m.length := by omega
       have h2 : St7.same l[i] m[i] = false := by simpa [hi,hi2] using hp1
       unfold St7.same at h2
       obtain ⟨e1,e2,e3,e4⟩ := hE i hi hi2
       rw [T.av_eq,T.av_eq] at e3
       rw [T.av_eq,T.av_eq] at e4
       have hiI : (i:Int) < (l.length : Int) := by omega
       have hiI2 : (i:Int) < (m.length : Int) := by omega
       by_cases c1 : l[i].kind = m[i].kind
       · cases c2 : same2 eqI l[i].refs m[i].refs with
         | false => rw [c2] at e1; simp [l_sr34_Same_0,hi,hi2,hiI,hiI2,st_av,c1,e1]
         | true =>
           rw [c2] at e1
           by_cases c3 : l[i].rule = m[i].rule
           · cases c4 : same2 Sb.same l[i].subs m[i].subs with
             | false => rw [c4] at e2; simp [l_sr34_Same_0,hi,hi2,hiI,hiI2,st_av,c1,c3,e1,e2]
             | true =>
               rw [c4] at e2
               cases c5 : l[i].a.same m[i].a with
               | false => rw [c5] at e3; simp [l_sr34_Same_0,hi,hi2,hiI,hiI2,st_av,c1,c3,e1,e2,e3]
               | true =>
                 rw [c5] at e3
                 have c6 : l[i].b.same m[i].b = false := by simpa [c1,c2,c3,c4,c5] using h2
                 rw [c6] at e4
                 simp [l_sr34_Same_0,hi,hi2,hiI,hiI2,st_av,c1,c3,e1,e2,e3,e4]
           · simp [l_sr34_Same_0,hi,hi2,hiI,hiI2,st_av,c1,c3,e1]
       · simp [l_sr34_Same_0,hi,hi2,hiI,hiI2,st_av,c1])
     (fun s => by simp) (by simp [l_sr34_Same_0]) (fun s => by simp)
   rw [same2_eq St7.same St7.z l m he] at hloop
   have hI : (l.length : Int) = (m.length : Int) := by omega
   simp only [Int.natCast_zero] at hloop
   cases hs : same2 St7.same l m
   · rw [hs] at hloop
     simp only [Bool.not_false,if_true] at hloop
     simp [IP_sr34_Same,i_sr34_Same,hI,hloop]
   · rw [hs] at hloop
     simp only [Bool.not_true,Bool.false_eq_true,if_false] at hloop
     simp [IP_sr34_Same,i_sr34_Same,hI,hloop]
 · have hI : ¬ (l.length : Int) = (m.length : Int) := by omega
   rw [same2_len St7.same l m he]
   simp [IP_sr34_Same,i_sr34_Same,hI]
end
end Go.Proofs.YtkofimhnehkdoaaGreatDoor.Rf
end
