/- A part of the proof: see the last text. -/
import Derived.Test.YtkofimhnehkdoaaGreatDoorRqG17
import Derived.Test.YtkofimhnehkdoaaGreatDoorRqG16
import Derived.Test.YtkofimhnehkdoaaGreatDoorRqG18
set_option linter.unusedVariables false
set_option linter.unusedSimpArgs false
section
namespace Go.Proofs.YtkofimhnehkdoaaGreatDoor.Rf
def plainC (n:Int) : Bool := decide (n ≥ 33) && (decide (n ≤ 126) && (!decide (n = 40) && (!decide (n = 41) && !decide (n = 59))))
def blankC (n:Int) : Bool := decide (n = 32) || (decide (n = 9) || (decide (n = 10) || decide (n = 13)))
theorem plain2_D (n:Int) (hp:List HObj) (lo:Nat) (q:Bool) : callD G0 IP n_sx_plain [.int .u8 n] hp lo q = some (.ret (.bool (plainC n)) hp) := by
 rw [callD_eq]
 by_cases h1 : n ≥ 33
 · by_cases h2 : n ≤ 126
   · by_cases h3 : n = 40
     · subst h3; simp [IP_sx_plain,i_sx_plain,plainC]
     · by_cases h4 : n = 41
       · subst h4; simp [IP_sx_plain,i_sx_plain,plainC]
       · by_cases h5 : n = 59
         · subst h5; simp [IP_sx_plain,i_sx_plain,plainC]
         · simp [IP_sx_plain,i_sx_plain,plainC,h1,h2,h3,h4,h5]
   · simp [IP_sx_plain,i_sx_plain,plainC,h1,h2]
 · simp [IP_sx_plain,i_sx_plain,plainC,h1]
def byt (s:List UInt8) (i:Nat) : Int := ((s.getD i 0).toNat : Int)
theorem byt_some {s:List UInt8} {i:Nat} (h:i < s.length) : ∃ c : UInt8,s[i]? = some c ∧ byt s i = (c.toNat : Int) := ⟨s[i],by simp [h],by simp [byt,h]⟩
def comK (s:List UInt8) : Nat → Nat → Nat
 | 0,i => i
 | k + 1,i => if byt s i = 10 then i else comK s k (i + 1)
theorem comK_le (s:List UInt8) : ∀ k i,i ≤ comK s k i ∧ comK s k i ≤ i + k
 | 0,i => by simp [comK]
 | k + 1,i => by
   simp only [comK]
   split
   · omega
   · have := comK_le s k (i + 1); omega
def skipK (s:List UInt8) : Nat → Nat → Nat
 | 0,i => i
 | n + 1,i => if i < s.length then (if blankC (byt s i) then skipK s n (i + 1) else if byt s i = 59 then skipK s n (comK s (s.length - i) i) else i) else i
theorem skipK_le (s:List UInt8) : ∀ n i,i ≤ s.length → i ≤ skipK s n i ∧ skipK s n i ≤ s.length
 | 0,i,h => by simp [skipK]; exact h
 | n + 1, i,h => by
   simp only [skipK]
   split
   · split
     · have := skipK_le s n (i + 1) (by omega); omega
     · split
       · have h1 := comK_le s (s.length - i) i
         have := skipK_le s n (comK s (s.length - i) i) (by omega); omega
       · omega
   · omega
def skipN (s:List UInt8) (i:Nat) : Nat := skipK s s.length i
def atomK (s:List UInt8) : Nat → Nat → Nat
 | 0,i => i
 | k + 1,i => if plainC (byt s i) then atomK s k (i + 1) else i
def atomN (s:List UInt8) (i:Nat) : Nat := atomK s (s.length - i) i
theorem atomK_le (s:List UInt8) : ∀ k i,i ≤ atomK s k i ∧ atomK s k i ≤ i + k
 | 0,i => by simp [atomK]
 | k + 1,i => by
   simp only [atomK]
   split
   · have := atomK_le s k (i + 1); omega
   · omega
section
variable {s:List UInt8} {hp:List HObj} {lo:Nat}
end
end Go.Proofs.YtkofimhnehkdoaaGreatDoor.Rf
end
section
namespace Go.Proofs.YtkofimhnehkdoaaGreatDoor.Rf
def PH (hp:List HObj) (s:List UInt8) (v:Int) : List HObj := hp ++ [.cells 0 [.str s,.int .i64 v,.list [] .nil]]
section
variable {hp:List HObj} {s:List UInt8} {lo:Nat}
@[simp] theorem PH_get (v:Int) : (PH hp s v)[hp.length]? = some (.cells 0 [.str s,.int .i64 v,.list [] .nil]) := by simp [PH]
@[simp] theorem PH_set (v u:Int) : (PH hp s v).set hp.length (.cells 0 [.str s,.int .i64 u,.list [] .nil]) = PH hp s u := by simp [PH]
theorem PH_len (v:Int) : (PH hp s v).length = hp.length + 1 := by simp [PH]
theorem com2_L (hs:s.length ≤ 9223372036854775807) (hlo:lo ≤ hp.length) : ∀ (k i:Nat) (ex:Fr),ex = [] ∨ ex = [(33,.bool true)] → i + k = s.length →
   loopD G0 IP lo l_sp_skip_1 ⟨(0,.ptr hp.length 0) :: ex,PH hp s i⟩ = some (.exit 3,⟨[(0,.ptr hp.length 0),(56,.bool false)],PH hp s (comK s k i)⟩)
 | 0,i,ex,hex,h => by
   rw [loopD_eq,loopBody]
   have : ¬ (i:Int) < (s.length : Int) := by omega
   rcases hex with rfl | rfl <;> simp [l_sp_skip_1,this,comK]
 | k + 1,i,ex,hex,h => by
   rw [loopD_eq,loopBody]
   have h1 : (i:Int) < (s.length : Int) := by omega
   obtain ⟨c,h2,hb⟩ := byt_some (s := s) (i := i) (by omega)
   have h3 := wrap_succ (i := i) (n := s.length) (by omega) hs
   have ih := com2_L hs hlo k (i + 1) [] (.inl rfl) (by omega)
   simp only [comK,hb]
   by_cases hc : (c.toNat : Int) = 10
   · rcases hex with rfl | rfl <;> simp [l_sp_skip_1,h1,h2,hc]
   · rcases hex with rfl | rfl <;> simp [l_sp_skip_1,h1,h2,hc,h3,hlo] <;> exact ih
theorem skip2_L (hs : s.length ≤ 9223372036854775807) (hlo:lo ≤ hp.length) : ∀ (n i:Nat) (ex:Fr),ex = [] ∨ ex = [(56,.bool false)] → i ≤ s.length → s.length - i ≤ n →
   ∃ e st,loopD G0 IP lo l_sp_skip_0 ⟨(0,.ptr hp.length 0) :: ex,PH hp s i⟩ = some (e,st) ∧ st.hp = PH hp s (skipK s n i) ∧ (e = .exit 0 ∨ e = .ret)
 | n, i, ex, hex, hi,hn => by
   by_cases h0 : i < s.length
   · match n, hn with
     | 0,hn => exact absurd hn (by omega)
     | n + 1, hn =>
       rw [loopD_eq,loopBody]
       have h1 : (i:Int) < (s.length : Int) := by omega
       obtain ⟨c,h2,hb⟩ := byt_some (s := s) (i := i) h0
       have h3 := wrap_succ (i := i) (n := s.length) h0 hs
       simp only [skipK,if_pos h0,hb]
       have ih0 := skip2_L hs hlo n (i + 1) [] (.inl rfl) (by omega) (by omega)
       by_cases b1 : (c.toNat : Int) = 32
       · rcases hex with rfl | rfl <;> simp [l_sp_skip_0,h1,h2,b1,h3,hlo,show blankC 32 = true from rfl] <;> exact ih0
       · by_cases b2 : (c.toNat : Int) = 9
         · rcases hex with rfl | rfl <;> simp [l_sp_skip_0,h1,h2,b2,h3,hlo,show blankC 9 = true from rfl] <;> exact ih0
         · by_cases b3 : (c.toNat : Int) = 10
           · rcases hex with rfl | rfl <;> simp [l_sp_skip_0,h1,h2,b3,h3,hlo,show blankC 10 = true from rfl] <;> exact ih0
           · by_cases b4 : (c.toNat : Int) = 13
             · rcases hex with rfl | rfl <;> simp [l_sp_skip_0,h1,h2,b4,h3,hlo,show blankC 13 = true from rfl] <;> exact ih0
             · have hc : blankC (c.toNat : Int) = false := by simp [blankC,b1,b2,b3,b4]
               by_cases h4 : (c.toNat : Int) = 59
               · have hcm := com2_L (hp := hp) (lo := lo) hs hlo (s.length - i) i [(33,.bool true)] (.inr rfl) (by omega)
                 have hle := comK_le s (s.length - i) i
                 have hgt : i < comK s (s.length - i) i := by
                   obtain ⟨k,hk⟩ : ∃ k,s.length - i = k + 1 := ⟨s.length - i - 1,by omega⟩
                   rw [hk]; simp only [comK,hb,h4]
                   have := comK_le s k (i + 1)
                   simp; omega
                 have ih := skip2_L hs hlo n (comK s (s.length - i) i) [(56,.bool false)] (.inr rfl) (by omega) (by omega)
                 rcases hex with rfl | rfl <;> simp [l_sp_skip_0,h1,h2,h4,hcm,show blankC 59 = false from rfl] <;> exact ih
               · rcases hex with rfl | rfl <;> simp [l_sp_skip_0,h1,h2,hc,h4,b1,b2,b3,b4] <;> exact ⟨_,_,⟨rfl,rfl⟩,rfl,.inr rfl⟩
   · rw [loopD_eq,loopBody]
     have h1 : ¬ (i:Int) < (s.length : Int) := by omega
     have e : skipK s n i = i := by cases n <;> simp [skipK,h0]
     rw [e]
     rcases hex with rfl | rfl <;> simp [l_sp_skip_0,h1] <;> exact ⟨_,_,⟨rfl,rfl⟩,rfl,.inl rfl⟩
theorem skip2_D (hs:s.length ≤ 9223372036854775807) (hlo:lo ≤ hp.length) (i:Nat) (hi:i ≤ s.length) : callD G0 IP n_sp_skip [.ptr hp.length 0] (PH hp s i) lo false = some (.ret (.tup []) (PH hp s (skipN s i))) := by
 rw [callD_eq]
 obtain ⟨e,st,h,h2,h3⟩ := skip2_L (hp := hp) (lo := lo) hs hlo s.length i [] (.inl rfl) hi (by omega)
 rcases h3 with rfl | rfl <;> simp [IP_sp_skip,i_sp_skip,h,h2,skipN]
end
end Go.Proofs.YtkofimhnehkdoaaGreatDoor.Rf
end
section
namespace Go.Proofs.YtkofimhnehkdoaaGreatDoor.Rf
inductive PR where
 | ok (e:S) (i:Nat)
 | err (i:Nat) (code:Int)
inductive LR where
 | stop (i:Nat) (acc:List S)
 | err (i:Nat) (code:Int)
mutual
def pOne (s:List UInt8) : Nat → Nat → Nat → PR
 | 0,i,_ => .err i 6
 | n + 1,i,d =>
   if byt s i = 40 then
     if d ≥ 64 then .err i 7 else
     match pLoop s n (skipN s (i + 1)) d [] with
     | .err j e => .err j e
     | .stop j acc => if j = s.length then .err j 6 else .ok (.mk [] acc.isEmpty acc) (j + 1)
   else if plainC (byt s i) then
     if d ≥ 64 then .err i 7 else .ok (.mk ((s.take (atomN s i)).drop i) true []) (atomN s i)
   else .err i 6
def pLoop (s:List UInt8) : Nat → Nat → Nat → List S → LR
 | 0,i,_,acc => .stop i acc
 | n + 1,i,d,acc =>
   if i < s.length then
     if byt s i = 41 then .stop i acc else
     match pOne s n i (d + 1) with
     | .err j e => .err j e
     | .ok x j => pLoop s n (skipN s j) d (acc ++ [x])
   else .stop i acc
end
theorem atomN_gt {s:List UInt8} {i:Nat} (h:i < s.length) (hp:plainC (byt s i) = true) : i < atomN s i ∧ atomN s i ≤ s.length := by
 obtain ⟨k,hk⟩ : ∃ k,s.length - i = k + 1 := ⟨s.length - i - 1,by omega⟩
 unfold atomN
 rw [hk]; simp only [atomK,hp,if_true]
 have := atomK_le s k (i + 1)
 omega
theorem skipN_le {s:List UInt8} {i:Nat} (h:i ≤ s.length) : i ≤ skipN s i ∧ skipN s i ≤ s.length := skipK_le s _ i h
theorem p_le (s:List UInt8) : ∀ n,(∀ i d x j,i < s.length → pOne s n i d = .ok x j → i < j ∧ j ≤ s.length) ∧ (∀ i d acc j acc',i ≤ s.length → acc.length ≤ i → pLoop s n i d acc = .stop j acc' → i ≤ j ∧ j ≤ s.length ∧ acc'.length ≤ j)
 | 0 => ⟨fun i d x j hi h => by simp [pOne] at h,fun i d acc j acc' hi ha h => by simp [pLoop] at h; obtain ⟨rfl,rfl⟩ := h; exact ⟨Nat.le_refl _,hi,ha⟩⟩
 | n + 1 => by
   obtain ⟨h1,h2⟩ := p_le s n
   refine ⟨fun i d x j hi h => ?_,fun i d acc j acc' hi ha h => ?_⟩
   · simp only [pOne] at h
     have hk := skipN_le (s := s) (i := i + 1) (by omega)
     split at h
     · split at h
       · cases h
       · split at h
         · cases h
         · rename_i j' acc' hl
           have := h2 _ _ _ _ _ hk.2 (by simp) hl
           split at h
           · cases h
           · cases h; omega
     · split at h
       · rename_i hp
         split at h
         · cases h
         · cases h; exact atomN_gt hi hp
       · cases h
   · simp only [pLoop] at h
     split at h
     · rename_i hlt
       split at h
       · cases h; omega
       · split at h
         · cases h
         · rename_i x j' ho
           have := h1 _ _ _ _ hlt ho
           have hk := skipN_le (s := s) (i := j') (by omega)
           have := h2 _ _ _ _ _ hk.2 (by simp; omega) h
           omega
     · cases h; omega
theorem perr_both (s:List UInt8) : ∀ n,(∀ i d j e,pOne s n i d = .err j e → ¬ e = 0) ∧ (∀ i d acc j e,pLoop s n i d acc = .err j e → ¬ e = 0)
 | 0 => ⟨fun i d j e h => by simp [pOne] at h; obtain ⟨_,rfl⟩ := h; simp,fun i d acc j e h => by simp [pLoop] at h⟩
 | n + 1 => by
   obtain ⟨h1,h2⟩ := perr_both s n
   refine ⟨fun i d j e h => ?_,fun i d acc j e h => ?_⟩
   · simp only [pOne] at h
     repeat' split at h
     all_goals first
       | (cases h; done)
       | (cases h; simp; done)
       | (rename_i hl; cases h; exact h2 _ _ _ _ _ hl)
   · simp only [pLoop] at h
     repeat' split at h
     all_goals first
       | (cases h; done)
       | (rename_i hl; cases h; exact h1 _ _ _ _ hl)
       | exact h2 _ _ _ _ _ h
theorem perr_ne (s:List UInt8) (n i d j:Nat) (e:Int) (h:pOne s n i d = .err j e) : ¬ e = 0 := (perr_both s n).1 i d j e h
mutual
theorem S.av_closed (n:Nat) : ∀ t : S,AV.closed n t.av = true
 | .mk a o l => by simp [S.av,AV.closed,AV.closedL,S.avs_closed n l]
theorem S.avs_closed (n:Nat) : ∀ l : List S,AV.closedL n (S.avs l) = true
 | [] => rfl
 | t :: r => by simp [S.avs,AV.closedL,S.av_closed n t,S.avs_closed n r]
end
@[simp] theorem S.okSize_avs (l:List S) : okSize 2 (S.avs l) = true := by
 cases l with
 | nil => rfl
 | cons t r => simp [S.avs,S.av_eq]
def ownA (acc:List S) : Own := if acc.isEmpty then .nil else .own 2 0
@[simp] theorem ownA_cp (acc:List S) : (ownA acc).cp = ownB acc.isEmpty := by cases acc <;> rfl
@[simp] theorem ownA_app (acc:List S) (x:S) : ownA (acc ++ [x]) = .own 2 0 := by cases acc <;> rfl
theorem ownA_ok (acc:List S) : ownA acc = .nil ∨ ownA acc = .own 2 0 := by cases acc <;> simp [ownA]
section
variable {s:List UInt8}
end
end Go.Proofs.YtkofimhnehkdoaaGreatDoor.Rf
end
section
namespace Go.Proofs.YtkofimhnehkdoaaGreatDoor.Rf
abbrev failAV (j:Nat) (e:Int) : AV := .iface 168 (.agg [.int .i64 j,.int .i64 e])
theorem fail_D (p q:Nat) (j e:Int) (hp:List HObj) (lo:Nat) : callD G0 IP n_sp_fail [.ptr p q,.int .i64 j,.int .i64 e] hp lo false = some (.pan (.iface 168 (.agg [.int .i64 j,.int .i64 e])) hp) := by
 rw [callD_eq]
 simp [IP_sp_fail,i_sp_fail]
section
variable {hp:List HObj} {s:List UInt8} {lo:Nat}
theorem atom2_L (hs:s.length ≤ 65536) (hlo:lo ≤ hp.length) (f:Int) : ∀ (k i:Nat),i + k = s.length →
   loopD G0 IP lo l_sp_expression_0 ⟨[(0,.ptr hp.length 0),(4,.box [.str [],.list [] .nil]),(6,.int .i64 f)],PH hp s i⟩ =
     some (.exit 0,⟨[(0,.ptr hp.length 0),(4,.box [.str [],.list [] .nil]),(6,.int .i64 f),(66,.bool false)],PH hp s (atomK s k i)⟩)
 | 0,i,h => by
   rw [loopD_eq,loopBody]
   have : ¬ (i:Int) < (s.length : Int) := by omega
   simp [l_sp_expression_0,this,atomK]
 | k + 1,i,h => by
   rw [loopD_eq,loopBody]
   have h1 : (i:Int) < (s.length : Int) := by omega
   obtain ⟨c,h2,hb⟩ := byt_some (s := s) (i := i) (by omega)
   have h3 := wrap_succ (i := i) (n := s.length) (by omega) (by omega)
   have ih := atom2_L hs hlo f k (i + 1) (by omega)
   simp only [atomK,hb]
   cases hc : plainC (c.toNat : Int)
   · simp [l_sp_expression_0,h1,h2,hc,plain2_D]
   · simp [l_sp_expression_0,h1,h2,hc,h3,plain2_D,hlo]
     exact ih
def outE (hp:List HObj) (s:List UInt8) : PR → COut
 | .ok x j => .ret x.av (PH hp s j)
 | .err j e => .pan (failAV j e) (PH hp s j)
def LRok (hp:List HObj) (s:List UInt8) : LR → Ex → St → Prop
 | .err j e,ex,st => ex = .pan (failAV j e) ∧ st.hp = PH hp s j
 | .stop j acc,ex,st => if j = s.length then ex = .pan (failAV j 6) ∧ st.hp = PH hp s j else ex = .ret ∧ st = ⟨[(4,.box [.str [],.list (S.avs acc) (ownB acc.isEmpty)])],PH hp s ((j + 1 : Nat) : Int)⟩
theorem expr_W (hs:s.length ≤ 65536) (hlo:lo ≤ hp.length) : ∀ n,(∀ (i d:Nat),i < s.length → d ≤ 64 → 2 * (s.length - i) ≤ n → callD G0 IP n_sp_expression [.ptr hp.length 0,.int .i64 d] (PH hp s i) lo false = some (outE hp s (pOne s n i d))) ∧
   (∀ (i d:Nat) (acc:List S),i ≤ s.length → d < 64 → acc.length ≤ i → 2 * (s.length - skipN s i) + 1 ≤ n →
     ∃ ex st,loopD G0 IP lo l_sp_expression_1 ⟨[(0,.ptr hp.length 0),(1,.int .i64 d),(4,.box [.str [],.list [] .nil]),(7,.box [.str [],.list (S.avs acc) (ownA acc)])],PH hp s i⟩ = some (ex,st) ∧ LRok hp s (pLoop s n (skipN s i) d acc) ex st) := by
 have hs' : s.length ≤ 9223372036854775807 := by omega
 intro n
 induction n with
 | zero => exact ⟨fun i d hi _ h => absurd h (by omega),fun i d acc hi _ _ h => absurd h (by omega)⟩
 | succ n ih =>
   obtain ⟨ih1,ih2⟩ := ih
   refine ⟨fun i d hi hd h => ?_,fun i d acc hi hd ha h => ?_⟩
   · rw [callD_eq]
     obtain ⟨c,h2,hb⟩ := byt_some (s := s) (i := i) hi
     have hw : IntKind.wrap .i64 ((i:Int) + 1) = (i:Int) + 1 := wrap_small (by omega) (by omega)
     have hwd : IntKind.wrap .i64 ((d:Int) + 1) = (d:Int) + 1 := wrap_small (by omega) (by omega)
     have hk := skipN_le (s := s) (i := i + 1) (by omega)
     simp only [pOne,hb]
     by_cases h40 : (c.toNat : Int) = 40
     · by_cases h64 : d ≥ 64
       · have h64' : (64:Int) < (d:Int) + 1 := by omega
         simp [IP_sp_expression,i_sp_expression,h2,h40,h64,h64',hwd,outE,fail_D]
       · have h64' : ¬ (64:Int) < (d:Int) + 1 := by omega
         obtain ⟨ex,st,e3,e4⟩ := ih2 (i + 1) d [] (by omega) (by omega) (by simp) (by omega)
         simp [ownA] at e3
         cases hx : pLoop s n (skipN s (i + 1)) d [] with
         | err j e =>
           rw [hx] at e4
           obtain ⟨rfl,e5⟩ := e4
           simp [IP_sp_expression,i_sp_expression,h2,h40,h64,h64',hwd,hw,hlo,outE,e3,e5]
         | stop j acc =>
           rw [hx] at e4
           simp only [LRok] at e4
           by_cases hjl : j = s.length
           · rw [if_pos hjl] at e4
             obtain ⟨rfl,e5⟩ := e4
             simp [IP_sp_expression,i_sp_expression,h2,h40,h64,h64',hwd,hw,hlo,outE,e3,e5,hjl]
           · rw [if_neg hjl] at e4
             obtain ⟨rfl,rfl⟩ := e4
             simp [IP_sp_expression,i_sp_expression,h2,h40,h64,h64',hwd,hw,hlo,outE,e3,hjl,S.av]
     · cases hc : plainC (c.toNat : Int)
       · simp [IP_sp_expression,i_sp_expression,h2,h40,hc,outE,fail_D,plain2_D]
       · by_cases h64 : d ≥ 64
         · have h64' : (64:Int) < (d:Int) + 1 := by omega
           simp [IP_sp_expression,i_sp_expression,h2,h40,hc,h64,h64',hwd,outE,fail_D,plain2_D]
         · have h64' : ¬ (64:Int) < (d:Int) + 1 := by omega
           have e2 := atom2_L (hp := hp) (lo := lo) hs hlo (i:Int) (s.length - i) i (by omega)
           have ha := atomN_gt (s := s) (i := i) hi (by rw [hb]; exact hc)
           unfold atomN at ha
           simp [IP_sp_expression,i_sp_expression,h2,h40,hc,h64,h64',hwd,outE,plain2_D,e2,ha.1,ha.2,Nat.le_of_lt ha.1,S.av,atomN,ownB]
   · rw [loopD_eq,loopBody]
     have e0 := skip2_D (hp := hp) (lo := lo) hs' hlo i hi
     have hk := skipN_le (s := s) (i := i) hi
     generalize hj : skipN s i = j at *
     simp only [pLoop]
     by_cases h0 : j < s.length
     · have h1 : ¬ (j:Int) = (s.length : Int) := by omega
       obtain ⟨c,h2,hb⟩ := byt_some (s := s) (i := j) h0
       simp only [if_pos h0,hb]
       by_cases h41 : (c.toNat : Int) = 41
       · have hw : IntKind.wrap .i64 ((j:Int) + 1) = (j:Int) + 1 := wrap_small (by omega) (by omega)
         have h1' : ¬ j = s.length := by omega
         refine ⟨.ret,⟨[(4,.box [.str [],.list (S.avs acc) (ownB acc.isEmpty)])],PH hp s ((j + 1 : Nat) : Int)⟩,?_,?_⟩
         · simp [l_sp_expression_1,e0,h1,h2,h41,hw,hlo]
         · simp only [h41,if_true,LRok]
           rw [if_neg h1']
           simp
       · have e1 : callD G0 IP n_sp_expression [.ptr hp.length 0,.int .i64 ((d:Int) + 1)] (PH hp s j) lo false = some (outE hp s (pOne s n j (d + 1))) := ih1 j (d + 1) h0 (by omega) (by omega)
         have hw : IntKind.wrap .i64 ((d:Int) + 1) = (d:Int) + 1 := wrap_small (by omega) (by omega)
         have he := (p_le s n).1 j (d + 1)
         simp only [if_neg h41]
         cases hx : pOne s n j (d + 1) with
         | err k e =>
           rw [hx] at e1
           simp only [outE] at e1
           simp [l_sp_expression_1,e0,h1,h2,h41,hw,e1]
           exact ⟨_,_,⟨rfl,rfl⟩,rfl,rfl⟩
         | ok x k =>
           rw [hx] at e1
           simp only [outE] at e1
           obtain ⟨hj1,hj2⟩ := he x k h0 hx
           have hsk := skipN_le (s := s) (i := k) hj2
           obtain ⟨ex,st,e3,e4⟩ := ih2 k d (acc ++ [x]) hj2 hd (by simp; omega) (by omega)
           have hb1 : (acc.length + 1) * 40 ≤ 140737488355328 := by omega
           have hb2 : acc.length + 1 ≤ 9223372036854775807 := by omega
           rw [S.av_eq] at e1
           rw [S.avs_app,ownA_app,show S.avs [x] = [.agg [.str x.atom,.list (S.avs x.list) (ownB x.o)]] by simp [S.avs,S.av_eq]] at e3
           refine ⟨ex,st,?_,e4⟩
           simp [l_sp_expression_1,e0,h1,h2,h41,hw,e1,hb1,hb2,ownA_ok]
           exact e3
     · have h1' : j = s.length := by omega
       subst h1'
       simp only [if_neg h0,LRok,if_true]
       simp [l_sp_expression_1,e0,fail_D]
       exact ⟨_,_,⟨rfl,rfl⟩,rfl,rfl⟩
end
end Go.Proofs.YtkofimhnehkdoaaGreatDoor.Rf
end
section
namespace Go.Proofs.YtkofimhnehkdoaaGreatDoor.Rf
inductive PTR where
 | ok (l:List S) (st:List Nat)
 | err (i:Nat) (code:Int)
def pTop (s:List UInt8) : Nat → Nat → List S → List Nat → PTR
 | 0,_,acc,st => .ok acc st
 | n + 1,i,acc,st =>
   if i < s.length then
     match pOne s (2 * s.length) i 0 with
     | .err j e => .err j e
     | .ok x j => pTop s n (skipN s j) (acc ++ [x]) (st ++ [i])
   else .ok acc st
def pAll (s:List UInt8) : PTR := if s.length > 65536 then .err 0 7 else pTop s (s.length + 1) (skipN s 0) [] []
section
variable {s:List UInt8} {hp:List HObj} {lo:Nat}
def outA (own:List S → Own) : PTR → AV
 | .ok l _ => .tup [.list (S.avs l) (own l),.int .i64 0,.int .i64 0]
 | .err j e => .tup [.list [] .nil,.int .i64 j,.int .i64 e]
abbrev intsA (l:List Nat) : List AV := l.map fun n : Nat => AV.int .i64 (n:Int)
def ownI (l:List Nat) : Own := if l.isEmpty then .nil else .own 1 0
@[simp] theorem ownI_cp (l:List Nat) : (ownI l).cp = ownB l.isEmpty := by cases l <;> rfl
@[simp] theorem ownI_app (l:List Nat) (x:Nat) : ownI (l ++ [x]) = .own 1 0 := by cases l <;> rfl
theorem ownI_ok (l:List Nat) : ownI l = .nil ∨ ownI l = .own 1 0 := by cases l <;> simp [ownI]
@[simp] theorem okSize_ints (l:List Nat) : okSize 1 (intsA l) = true := by cases l <;> simp [intsA]
def PTRok (hp:List HObj) (s:List UInt8) : PTR → Ex → St → Prop
 | .err j e,ex,st => ex = .pan (failAV j e) ∧ st.hp = PH hp s j ∧ ∃ v2 v3 v4 v5,st.fr.get 2 = .box [v2] ∧ st.fr.get 3 = .box [v3] ∧ st.fr.get 4 = .box [v4] ∧ st.fr.get 5 = .box [v5]
 | .ok l st',ex,st => ex = .exit 0 ∧ st = ⟨[(0,.str s),(2,.box [.list (S.avs l) (ownA l)]),(3,.box [.list (intsA st') (ownI st')]),(4,.box [.int .i64 0]),(5,.box [.int .i64 0]),(6,.ptr hp.length 0),(22,.bool false)],PH hp s s.length⟩
theorem top2_L (hs:s.length ≤ 65536) (hlo:lo ≤ hp.length) : ∀ (n i:Nat) (acc:List S) (st:List Nat),i ≤ s.length → acc.length ≤ i → st.length ≤ i → s.length - i < n →
   ∃ ex st',loopD G0 IP lo l_sx_all_0 ⟨[(0,.str s),(2,.box [.list (S.avs acc) (ownA acc)]),(3,.box [.list (intsA st) (ownI st)]),(4,.box [.int .i64 0]),(5,.box [.int .i64 0]),(6,.ptr hp.length 0)],PH hp s i⟩ = some (ex,st') ∧ PTRok hp s (pTop s n i acc st) ex st' := by
 have hs' : s.length ≤ 9223372036854775807 := by omega
 intro n
 induction n with
 | zero => intro i acc st hi ha _ h; omega
 | succ n ih =>
   intro i acc st hi ha hst h
   rw [loopD_eq,loopBody]
   simp only [pTop]
   by_cases h0 : i < s.length
   · have h1 : (i:Int) < (s.length : Int) := by omega
     have e1 : callD G0 IP n_sp_expression [.ptr hp.length 0,.int .i64 0] (PH hp s i) lo false = some (outE hp s (pOne s (2 * s.length) i 0)) := (expr_W hs hlo (2 * s.length)).1 i 0 h0 (by omega) (by omega)
     have hc1 : (st.length + 1) * 8 ≤ 140737488355328 := by omega
     have hc2 : st.length + 1 ≤ 9223372036854775807 := by omega
     simp only [if_pos h0]
     cases hx : pOne s (2 * s.length) i 0 with
     | err j e =>
       rw [hx] at e1
       simp only [outE] at e1
       simp [l_sx_all_0,h1,e1,hc1,hc2,ownI_ok]
       exact ⟨_,_,⟨rfl,rfl⟩,rfl,rfl,_,_,_,_,rfl,rfl,rfl,rfl⟩
     | ok x j =>
       rw [hx] at e1
       simp only [outE] at e1
       obtain ⟨hj1,hj2⟩ := (p_le s _).1 i 0 x j h0 hx
       have hsk := skipN_le (s := s) (i := j) hj2
       have e2 := skip2_D (hp := hp) (lo := lo) hs' hlo j hj2
       obtain ⟨ex,st',e3,e4⟩ := ih (skipN s j) (acc ++ [x]) (st ++ [i]) hsk.2 (by simp; omega) (by simp; omega) (by omega)
       have hb1 : (acc.length + 1) * 40 ≤ 140737488355328 := by omega
       have hb2 : acc.length + 1 ≤ 9223372036854775807 := by omega
       rw [S.av_eq] at e1
       rw [S.avs_app,ownA_app,ownI_app,show S.avs [x] = [.agg [.str x.atom,.list (S.avs x.list) (ownB x.o)]] by simp [S.avs,S.av_eq]] at e3
       refine ⟨ex,st',?_,e4⟩
       simp [l_sx_all_0,h1,e1,e2,hb1,hb2,hc1,hc2,ownA_ok,ownI_ok,Fr.noLast]
       rw [show intsA (st ++ [i]) = intsA st ++ [AV.int .i64 (i:Int)] by simp [intsA]] at e3
       exact e3
   · have h1 : i = s.length := by omega
     subst h1
     simp only [if_neg h0,PTRok]
     simp [l_sx_all_0]
theorem recv_D (hp:List HObj) (v2 v3 v4 v5:AV) (j:Nat) (e:Int) (lo:Nat) (hlo:lo ≤ hp.length) : evalRecv G0 IP (callD G0 IP) (loopD G0 IP lo) lo n_sx_all_1 [.ptr hp.length 0,.ptr (hp.length + 1) 0,.ptr (hp.length + 2) 0,.ptr (hp.length + 3) 0]
   (hp ++ [.cells 0 [v2],.cells 0 [v3],.cells 0 [v4],.cells 0 [v5]]) (failAV j e) = some (hp ++ [.cells 0 [.list [] .nil],.cells 0 [.list [] .nil],.cells 0 [.int .i64 j],.cells 0 [.int .i64 e]]) := by
 have h1 : lo ≤ hp.length + 1 := by omega
 have h2 : lo ≤ hp.length + 2 := by omega
 have h3 : lo ≤ hp.length + 3 := by omega
 simp [IP_sx_all_1,i_sx_all_1,hlo,h1,h2,h3,List.getElem?_append_right,List.set_append_right]
theorem recv0_D (hp:List HObj) (v2 v3 v4 v5:AV) (lo:Nat) : evalRecv G0 IP (callD G0 IP) (loopD G0 IP lo) lo n_sx_all_1 [.ptr hp.length 0,.ptr (hp.length + 1) 0,.ptr (hp.length + 2) 0,.ptr (hp.length + 3) 0]
   (hp ++ [.cells 0 [v2],.cells 0 [v3],.cells 0 [v4],.cells 0 [v5]]) .nili = some (hp ++ [.cells 0 [v2],.cells 0 [v3],.cells 0 [v4],.cells 0 [v5]]) := by
 simp [IP_sx_all_1,i_sx_all_1]
end
end Go.Proofs.YtkofimhnehkdoaaGreatDoor.Rf
end
section
namespace Go.Proofs.YtkofimhnehkdoaaGreatDoor.Rf
def outAll : PTR → AV
 | .ok l st => .tup [.list (S.avs l) (ownB l.isEmpty),.list (intsA st) (ownB st.isEmpty),.int .i64 0,.int .i64 0]
 | .err j e => .tup [.list [] .nil,.list [] .nil,.int .i64 j,.int .i64 e]
theorem ints_closed (n:Nat) : ∀ l : List Nat,AV.closedL n (intsA l) = true
 | [] => rfl
 | x :: r => by simp [intsA,AV.closedL]; simpa [intsA] using ints_closed n r
theorem PH_fold (hp:List HObj) (s:List UInt8) (v:Int) : hp ++ [.cells 0 [.str s,.int .i64 v,.list [] .nil]] = PH hp s v := rfl
theorem get4_2 {α:Type} (xs:List α) (a b c d:α) (h:xs.length + 1 + 1 < (xs ++ [a,b,c,d]).length) : (xs ++ [a,b,c,d])[xs.length + 1 + 1] = c := by
 rw [List.getElem_append_right (by omega)]
 simp [show xs.length + 1 + 1 - xs.length = 2 by omega]
theorem get4_3 {α:Type} (xs:List α) (a b c d:α) (h:xs.length + 1 + 1 + 1 < (xs ++ [a,b,c,d]).length) : (xs ++ [a,b,c,d])[xs.length + 1 + 1 + 1] = d := by
 rw [List.getElem_append_right (by omega)]
 simp [show xs.length + 1 + 1 + 1 - xs.length = 3 by omega]
section
variable {s:List UInt8} {hp:List HObj} {lo:Nat}
theorem all_D (q:Bool) : callD G0 IP n_sx_all [.str s] hp lo q = some (.ret (outAll (pAll s)) hp) := by
 rw [callD_eq]
 by_cases hs : s.length ≤ 65536
 · have h1 : ¬ (65536:Int) < (s.length : Int) := by omega
   have h1' : ¬ s.length > 65536 := by omega
   have e2 : callD G0 IP n_sp_skip [.ptr hp.length 0] (PH hp s 0) hp.length false = some (.ret (.tup []) (PH hp s (skipN s 0))) := skip2_D (by omega) (Nat.le_refl _) 0 (by omega)
   have hk := skipN_le (s := s) (i := 0) (by omega)
   obtain ⟨ex,st',e3,e4⟩ := top2_L (hp := hp) (lo := hp.length) hs (Nat.le_refl _) (s.length + 1) (skipN s 0) [] [] hk.2 (by simp) (by simp) (by omega)
   simp [ownA,ownI] at e3
   simp only [pAll,if_neg h1']
   cases hx : pTop s (s.length + 1) (skipN s 0) [] [] with
   | err j e =>
     rw [hx] at e4
     obtain ⟨rfl,e5,v2,v3,v4,v5,g2,g3,g4,g5⟩ := e4
     have hr := recv_D (PH hp s j) v2 v3 v4 v5 j e hp.length (by rw [PH_len]; omega)
     simp [-evalRecv,IP_sx_all,i_sx_all,h1,PH_fold,e2,e3,e5,g2,g3,g4,g5,hr,outAll,get4_2,get4_3]
   | ok l st =>
     rw [hx] at e4
     obtain ⟨rfl,rfl⟩ := e4
     simp [-evalRecv,IP_sx_all,i_sx_all,h1,PH_fold,e2,e3,recv0_D,outAll,get4_2,get4_3,S.avs_closed,ints_closed]
 · have h1 : (65536:Int) < (s.length : Int) := by omega
   have h1' : s.length > 65536 := by omega
   simp [IP_sx_all,i_sx_all,h1,pAll,h1',outAll]
end
end Go.Proofs.YtkofimhnehkdoaaGreatDoor.Rf
end
section
namespace Go.Proofs.YtkofimhnehkdoaaGreatDoor.Rf
theorem top_err (s:List UInt8) : ∀ n i acc st j e,pTop s n i acc st = .err j e → ¬ e = 0
 | 0,i,acc,st,j,e,h => by simp [pTop] at h
 | n + 1,i,acc,st,j,e,h => by
   simp only [pTop] at h
   split at h
   · split at h
     · rename_i hx; cases h; exact perr_ne s _ _ _ _ _ hx
     · exact top_err s n _ _ _ _ _ h
   · cases h
theorem pAll_err {s:List UInt8} {j:Nat} {e:Int} (h:pAll s = .err j e) : ¬ e = 0 := by
 unfold pAll at h
 split at h
 · cases h; simp
 · exact top_err s _ _ _ _ _ _ h
section
variable {s:List UInt8} {hp:List HObj} {lo:Nat}
theorem parseAll2_D (q:Bool) : callD G0 IP n_sx_ParseAll [.str s] hp lo q = some (.ret (outA (fun l => ownB l.isEmpty) (pAll s)) hp) := by
 rw [callD_eq]
 have e1 : ∀ q,callD G0 IP n_sx_all [.str s] hp hp.length q = some (.ret (outAll (pAll s)) hp) := fun q => all_D q
 cases hx : pAll s with
 | err j e =>
   simp only [hx,outAll] at e1
   simp [IP_sx_ParseAll,i_sx_ParseAll,e1,outA]
 | ok l st =>
   simp only [hx,outAll] at e1
   simp [IP_sx_ParseAll,i_sx_ParseAll,e1,outA,S.avs_closed]
end
end Go.Proofs.YtkofimhnehkdoaaGreatDoor.Rf
end
section
namespace Go.Proofs.YtkofimhnehkdoaaGreatDoor.Rf
section
variable {hp:List HObj} {lo:Nat}
end
theorem p_wf (s : List UInt8) (hs:s.length ≤ 65536) : ∀ n,(∀ i d x j,i < s.length → pOne s n i d = .ok x j → x.wf) ∧ (∀ i d acc j acc',i ≤ s.length → acc.length ≤ i → (∀ t,t ∈ acc → t.wf) → pLoop s n i d acc = .stop j acc' → ∀ t,t ∈ acc' → t.wf)
 | 0 => ⟨fun i d x j hi h => by simp [pOne] at h,fun i d acc j acc' hi ha hw h => by simp [pLoop] at h; obtain ⟨_,rfl⟩ := h; exact hw⟩
 | n + 1 => by
   obtain ⟨h1,h2⟩ := p_wf s hs n
   refine ⟨fun i d x j hi h => ?_,fun i d acc j acc' hi ha hw h => ?_⟩
   · simp only [pOne] at h
     have hk := skipN_le (s := s) (i := i + 1) (by omega)
     split at h
     · split at h
       · cases h
       · split at h
         · cases h
         · rename_i j' acc' hl
           have hle := (p_le s n).2 _ _ _ _ _ hk.2 (by simp) hl
           have hw := h2 _ _ _ _ _ hk.2 (by simp) (by simp) hl
           split at h
           · cases h
           · cases h
             rw [S.wf_eq]
             simp only [S.atom,S.list,S.o]
             exact ⟨by simp,by omega,by simp,hw⟩
     · split at h
       · split at h
         · cases h
         · cases h
           rw [S.wf_eq]
           simp only [S.atom,S.list,S.o]
           exact ⟨by simp; omega,by simp,by simp,by simp⟩
       · cases h
   · simp only [pLoop] at h
     split at h
     · rename_i hlt
       split at h
       · cases h; exact hw
       · split at h
         · cases h
         · rename_i x j' ho
           have hj := (p_le s n).1 _ _ _ _ hlt ho
           have hk := skipN_le (s := s) (i := j') (by omega)
           refine h2 _ _ _ _ _ hk.2 (by simp; omega) (fun t ht => ?_) h
           rcases List.mem_append.1 ht with ht | ht
           · exact hw t ht
           · simp at ht; subst ht; exact h1 _ _ _ _ hlt ho
     · cases h; exact hw
theorem top_wf (s:List UInt8) (hs:s.length ≤ 65536) : ∀ n i acc st l st',i ≤ s.length → acc.length ≤ i → (∀ t,t ∈ acc → t.wf) → pTop s n i acc st = .ok l st' → (∀ t,t ∈ l → t.wf) ∧ l.length ≤ s.length
 | 0,i,acc,st,l,st',hi,ha,hw,h => by simp [pTop] at h; obtain ⟨rfl,rfl⟩ := h; exact ⟨hw,by omega⟩
 | n + 1,i,acc,st,l,st',hi,ha,hw,h => by
   simp only [pTop] at h
   split at h
   · rename_i hlt
     split at h
     · cases h
     · rename_i x j hx
       have hj := (p_le s _).1 _ _ _ _ hlt hx
       have hk := skipN_le (s := s) (i := j) (by omega)
       refine top_wf s hs n _ _ _ _ _ hk.2 (by simp; omega) (fun t ht => ?_) h
       rcases List.mem_append.1 ht with ht | ht
       · exact hw t ht
       · simp at ht; subst ht; exact (p_wf s hs _).1 _ _ _ _ hlt hx
   · cases h; exact ⟨hw,by omega⟩
theorem pAll_wf {s:List UInt8} {l:List S} {st:List Nat} (h:pAll s = .ok l st) : (∀ t,t ∈ l → t.wf) ∧ l.length ≤ 65536 := by
 unfold pAll at h
 split at h
 · cases h
 · have hk := skipN_le (s := s) (i := 0) (by omega)
   have := top_wf s (by omega) _ _ _ _ _ _ hk.2 (by simp) (by simp) h
   exact ⟨this.1,by omega⟩
end Go.Proofs.YtkofimhnehkdoaaGreatDoor.Rf
end
section
namespace Go.Proofs.YtkofimhnehkdoaaGreatDoor.Rf
mutual
def S.fit : S → Prop
 | .mk a _ l => a.length ≤ 65536 ∧ l.length ≤ 65536 ∧ (a ≠ [] → l = []) ∧ S.fits l
def S.fits : List S → Prop
 | [] => True
 | t :: r => t.fit ∧ S.fits r
end
theorem S.fits_iff : ∀ l : List S,S.fits l ↔ ∀ t,t ∈ l → t.fit
 | [] => by simp [S.fits]
 | t :: r => by simp [S.fits,S.fits_iff r]
theorem S.fit_eq (t:S) : t.fit ↔ t.atom.length ≤ 65536 ∧ t.list.length ≤ 65536 ∧ (t.atom ≠ [] → t.list = []) ∧ ∀ u,u ∈ t.list → u.fit := by
 cases t; simp only [S.fit,S.atom,S.list,S.fits_iff]
theorem p_fit (s:List UInt8) (hs:s.length ≤ 65536) : ∀ n,(∀ i d x j,i < s.length → pOne s n i d = .ok x j → x.fit) ∧ (∀ i d acc j acc',i ≤ s.length → acc.length ≤ i → (∀ t,t ∈ acc → t.fit) → pLoop s n i d acc = .stop j acc' → ∀ t,t ∈ acc' → t.fit)
 | 0 => ⟨fun i d x j hi h => by simp [pOne] at h,fun i d acc j acc' hi ha hw h => by simp [pLoop] at h; obtain ⟨_,rfl⟩ := h; exact hw⟩
 | n + 1 => by
   obtain ⟨h1,h2⟩ := p_fit s hs n
   refine ⟨fun i d x j hi h => ?_,fun i d acc j acc' hi ha hw h => ?_⟩
   · simp only [pOne] at h
     have hk := skipN_le (s := s) (i := i + 1) (by omega)
     split at h
     · split at h
       · cases h
       · split at h
         · cases h
         · rename_i j' acc' hl
           have hle := (p_le s n).2 _ _ _ _ _ hk.2 (by simp) hl
           have hw := h2 _ _ _ _ _ hk.2 (by simp) (by simp) hl
           split at h
           · cases h
           · cases h
             rw [S.fit_eq]
             simp only [S.atom,S.list,S.o]
             exact ⟨by simp,by omega,by simp,hw⟩
     · split at h
       · split at h
         · cases h
         · cases h
           rw [S.fit_eq]
           simp only [S.atom,S.list,S.o]
           exact ⟨by simp; omega,by simp,by simp,by simp⟩
       · cases h
   · simp only [pLoop] at h
     split at h
     · rename_i hlt
       split at h
       · cases h; exact hw
       · split at h
         · cases h
         · rename_i x j' ho
           have hj := (p_le s n).1 _ _ _ _ hlt ho
           have hk := skipN_le (s := s) (i := j') (by omega)
           refine h2 _ _ _ _ _ hk.2 (by simp; omega) (fun t ht => ?_) h
           rcases List.mem_append.1 ht with ht | ht
           · exact hw t ht
           · simp at ht; subst ht; exact h1 _ _ _ _ hlt ho
     · cases h; exact hw
theorem top_fit (s:List UInt8) (hs:s.length ≤ 65536) : ∀ n i acc st l st',i ≤ s.length → acc.length ≤ i → (∀ t,t ∈ acc → t.fit) → pTop s n i acc st = .ok l st' → (∀ t,t ∈ l → t.fit)
 | 0,i,acc,st,l,st',hi,ha,hw,h => by simp [pTop] at h; obtain ⟨rfl,rfl⟩ := h; exact hw
 | n + 1,i,acc,st,l,st',hi,ha,hw,h => by
   simp only [pTop] at h
   split at h
   · rename_i hlt
     split at h
     · cases h
     · rename_i x j hx
       have hj := (p_le s _).1 _ _ _ _ hlt hx
       have hk := skipN_le (s := s) (i := j) (by omega)
       refine top_fit s hs n _ _ _ _ _ hk.2 (by simp; omega) (fun t ht => ?_) h
       rcases List.mem_append.1 ht with ht | ht
       · exact hw t ht
       · simp at ht; subst ht; exact (p_fit s hs _).1 _ _ _ _ hlt hx
   · cases h; exact hw
theorem pAll_fit {s:List UInt8} {l:List S} {st:List Nat} (h:pAll s = .ok l st) : ∀ t,t ∈ l → t.fit := by
 unfold pAll at h
 split at h
 · cases h
 · have hk := skipN_le (s := s) (i := 0) (by omega)
   exact top_fit s (by omega) _ _ _ _ _ _ hk.2 (by simp) (by simp) h
def refsS : List S → Option (List Int)
 | [] => some []
 | x :: r => if (intE x.atom).2 = 0 then (match refsS r with | some l => some ((intE x.atom).1 :: l) | none => none) else none
def ownN (acc:List Int) : Own := if acc.isEmpty then .nil else .own 1 0
@[simp] theorem ownN_cp (acc:List Int) : (ownN acc).cp = ownB acc.isEmpty := by cases acc <;> rfl
@[simp] theorem ownN_app (acc:List Int) (x:Int) : ownN (acc ++ [x]) = .own 1 0 := by cases acc <;> rfl
theorem ownN_ok (acc:List Int) : ownN acc = .nil ∨ ownN acc = .own 1 0 := by cases acc <;> simp [ownN]
theorem i64s_app (a b:List Int) : i64s (a ++ b) = i64s a ++ i64s b := by simp [i64s]
@[simp] theorem i64s_nil : i64s [] = [] := rfl
theorem i64s_one (x:Int) : i64s [x] = [.int .i64 x] := rfl
theorem i64s_closed (n:Nat) : ∀ l : List Int,AV.closedL n (i64s l) = true
 | [] => rfl
 | x :: r => by have := i64s_closed n r; simp only [i64s] at this; simp [i64s,AV.closedL,AV.closed,this]
@[simp] theorem okSize_i64s (l:List Int) : okSize 1 (i64s l) = true := by cases l <;> simp [i64s]
section
variable {hp:List HObj} {lo:Nat}
def refsE (e:S) : Option (List Int) := if e.atom ≠ [] then none else refsS e.list
end
end Go.Proofs.YtkofimhnehkdoaaGreatDoor.Rf
end
section
namespace Go.Proofs.YtkofimhnehkdoaaGreatDoor.Rf
def pairB (x:S) : Bool := decide (x.list.length = 2) && !decide ((x.list.getD 0 (.mk [] true [])).atom = [])
def namedB (e:S) : Bool := e.list.all pairB && decide (e.atom = [])
section
variable {hp:List HObj} {lo:Nat}
end
end Go.Proofs.YtkofimhnehkdoaaGreatDoor.Rf
end
section
namespace Go.Proofs.YtkofimhnehkdoaaGreatDoor.Rf
def opN : List (List UInt8) := [[],[118,97,114],[99,111,110,115,116],[110,111,116],[110,101,103],[97,110,100],[111,114],[120,111,114],[97,100,100],[115,117,98],[109,117,108],[117,100,105,118],[117,114,101,109],[115,104,108],[108,115,104,114],[97,115,104,114],[101,113],[117,108,116],[115,108,116],[105,116,101],[99,111,110,99,97,116],[101,120,116,114,97,99,116],[122,101,120,116],[115,101,120,116],[104,111,108,101],[110,117,109],[101,118,97,108]]
theorem g_0_eq : g_0 = opN.map AV.str := rfl
theorem g_0_len : g_0.length = 27 := rfl
def nm (n:Nat) : List UInt8 := opN.getD n []
theorem g_0_at {n:Nat} (h:n < 27) : (g_0.drop n).take 1 = [AV.str (nm n)] := by
 rw [g_0_eq,List.drop_eq_getElem_cons (by simpa [opN] using h)]
 simp [nm,List.getD,show n < opN.length by simpa [opN] using h]
def opOk (op:Int) : Bool := decide (1 ≤ op) && decide (op ≤ 26)
theorem opOk_cases {op:Int} (h:opOk op = true) : op = 1 ∨ op = 2 ∨ op = 3 ∨ op = 4 ∨ op = 5 ∨ op = 6 ∨ op = 7 ∨ op = 8 ∨ op = 9 ∨ op = 10 ∨ op = 11 ∨ op = 12 ∨ op = 13 ∨ op = 14 ∨ op = 15 ∨ op = 16 ∨ op = 17 ∨ op = 18 ∨ op = 19 ∨ op = 20 ∨ op = 21 ∨ op = 22 ∨ op = 23 ∨ op = 24 ∨ op = 25 ∨ op = 26 := by
 simp [opOk] at h; omega
theorem opOk_nat {op:Int} (h:opOk op = true) : ∃ n : Nat,op = n ∧ 1 ≤ n ∧ n ≤ 26 := by
 simp [opOk] at h; exact ⟨op.toNat,by omega,by omega,by omega⟩
def nameE (op:Int) : List UInt8 := if opOk op then nm op.toNat else []
def ofE (s:List UInt8) : Int × Bool := match (List.range 26).find? fun i => decide (nm (i + 1) = s) with | some i => (((i + 1 : Nat) : Int),true) | none => (0,false)
def arE (op:Int) : Int := if opOk op = false then -1 else if op = 1 ∨ op = 2 ∨ op = 24 ∨ op = 25 then 0 else if op = 3 ∨ op = 4 ∨ op = 21 ∨ op = 22 ∨ op = 23 ∨ op = 26 then 1 else if op = 19 then 3 else 2
def insE (w:Int) : Bool := decide (0 ≤ w) && decide (w ≤ 64)
def leafE (op w v:Int) : Int × Int := if insE w = false ∨ (op = 2 ∧ 0 < w ∧ 2 ^ w.toNat ≤ v) then (0,3) else (w,0)
def resE (op w v f:Int) : Int × Int := if w < 1 ∨ 64 < w ∨ f < 1 then (0,3) else if (op ≠ 21 ∧ w < f) ∨ (op = 21 ∧ (f < w ∨ f - w < v)) then (0,3) else (w,0)
def widE (op w v:Int) (as:List Int) : Int × Int :=
 if opOk op = false ∨ (as.length : Int) ≠ arE op then (0,4) else
 if as.all insE = false then (0,3) else
 if op = 1 ∨ op = 2 ∨ op = 24 ∨ op = 25 then leafE op w v else
 if op = 3 ∨ op = 4 ∨ op = 26 then (as.getD 0 0,0) else
 if op = 21 ∨ op = 22 ∨ op = 23 then resE op w v (as.getD 0 0) else
 if op = 19 then (if as.getD 0 0 = 1 ∧ as.getD 1 0 = as.getD 2 0 then (as.getD 1 0,0) else (0,3)) else
 if op = 20 then (if 1 ≤ as.getD 0 0 ∧ 1 ≤ as.getD 1 0 ∧ as.getD 0 0 + as.getD 1 0 ≤ 64 then (as.getD 0 0 + as.getD 1 0,0) else (0,3)) else
 if op = 16 ∨ op = 17 ∨ op = 18 then (if as.getD 0 0 = as.getD 1 0 then (1,0) else (0,3)) else
 if as.getD 0 0 = as.getD 1 0 then (as.getD 0 0,0) else (0,3)
section
variable {hp:List HObj} {lo:Nat} (q:Bool)
theorem known_D (op:Int) : callD G0 IP n_oi_known [.int .i64 op] hp lo q = some (.ret (.bool (opOk op)) hp) := by
 rw [callD_eq]
 by_cases h : 1 ≤ op
 · by_cases h2 : op ≤ 26 <;> simp [IP_oi_known,i_oi_known,opOk,h,h2]
 · simp [IP_oi_known,i_oi_known,opOk,h]
theorem opName_D (op:Int) : callD G0 IP n_oi_Name [.int .i64 op] hp lo q = some (.ret (.str (nameE op)) hp) := by
 rw [callD_eq]
 cases h : opOk op with
 | false => simp [IP_oi_Name,i_oi_Name,known_D,h,nameE]
 | true =>
   obtain ⟨n,rfl,h1,h2⟩ := opOk_nat h
   have e1 : (n:Int) < 27 := by omega
   have e2 : n + 1 ≤ 27 := by omega
   simp [IP_oi_Name,i_oi_Name,known_D,h,nameE,G0_0,e1,e2,g_0_at (show n < 27 by omega),g_0_len]
theorem opOf_D (s:List UInt8) : callD G0 IP n_oi_Of [.str s] hp lo q = some (.ret (.tup [.int .i64 (ofE s).1,.bool (ofE s).2]) hp) := by
 rw [callD_eq]
 have hloop := loop_some (G := G0) (IP := IP) (lo := hp.length) (b := l_oi_Of_0)
   (fun i => ⟨[(0,.str s),(4,.int .i64 ((i:Int) + 1))],hp⟩) 26 (fun i => decide (nm (i + 1) = s)) (fun i => (.ret,⟨[(2,.int .i64 ((i:Int) + 1)),(3,.bool true)],hp⟩))
   (.exit 0,⟨[(0,.str s),(4,.int .i64 27),(6,.bool false)],hp⟩)
   (fun i hi hp => by
     have e1 : (i:Int) + 1 ≤ 26 := by omega
     have e2 : (0:Int) ≤ (i:Int) + 1 := by omega
     have e3 : (i:Int) + 1 < 27 := by omega
     have e4 : i + 1 + 1 ≤ 27 := by omega
     have e5 : IntKind.wrap .i64 ((i:Int) + 1 + 1) = (i:Int) + 1 + 1 := wrap_small (by omega) (by omega)
     have e6 : ((i:Int) + 1).toNat = i + 1 := by omega
     simp only [decide_eq_false_iff_not] at hp
     simp [l_oi_Of_0,G0_0,e1,e2,e3,e4,e5,e6,g_0_at (show i + 1 < 27 by omega),g_0_len,hp])
   (fun i hi hp => by
     have e1 : (i:Int) + 1 ≤ 26 := by omega
     have e2 : (0:Int) ≤ (i:Int) + 1 := by omega
     have e3 : (i:Int) + 1 < 27 := by omega
     have e4 : i + 1 + 1 ≤ 27 := by omega
     have e6 : ((i:Int) + 1).toNat = i + 1 := by omega
     simp only [decide_eq_true_eq] at hp
     simp [l_oi_Of_0,G0_0,e1,e2,e3,e4,e6,g_0_at (show i + 1 < 27 by omega),g_0_len,hp])
   (fun i s => by simp) (by simp [l_oi_Of_0]) (by simp)
 simp only [Int.natCast_zero,Int.zero_add] at hloop
 rcases hloop with ⟨m,hm,hp1,hp2,hl⟩ | ⟨hno,hl⟩
 · have hf : (List.range 26).find? (fun i => decide (nm (i + 1) = s)) = some m := by
     rw [List.find?_range_eq_some]
     exact ⟨hp1,by simpa using hm,fun j hj => by simpa using hp2 j hj⟩
   have he : ofE s = (((m + 1 : Nat) : Int),true) := by simp [ofE,hf]
   simp [IP_oi_Of,i_oi_Of,hl,he]
 · have hf : (List.range 26).find? (fun i => decide (nm (i + 1) = s)) = none := by
     rw [List.find?_eq_none]
     intro i hi; simp at hi; have := hno i hi; simpa using this
   have he : ofE s = (0,false) := by simp [ofE,hf]
   simp [IP_oi_Of,i_oi_Of,hl,he]
theorem arity_D (op:Int) : callD G0 IP n_oi_Arity [.int .i64 op] hp lo q = some (.ret (.int .i64 (arE op)) hp) := by
 rw [callD_eq]
 cases h : opOk op with
 | true =>
   rcases opOk_cases h with rfl | rfl | rfl | rfl | rfl | rfl | rfl | rfl | rfl | rfl | rfl | rfl | rfl | rfl | rfl | rfl | rfl | rfl | rfl | rfl | rfl | rfl | rfl | rfl | rfl | rfl
   all_goals simp [IP_oi_Arity,i_oi_Arity,arE,opOk,show IntKind.wrap .i64 1 = 1 from rfl,show IntKind.wrap .i64 2 = 2 from rfl,show IntKind.wrap .i64 3 = 3 from rfl]
 | false =>
   have hk : ∀ k : Int,1 ≤ k → k ≤ 26 → (op = k) = False := fun k h1 h2 => by
     simp only [eq_iff_iff,iff_false]; intro e; subst e; simp [opOk] at h; omega
   simp [IP_oi_Arity,i_oi_Arity,arE,h,hk]
theorem opLeaf_D (op:Int) : callD G0 IP n_oi_Leaf [.int .i64 op] hp lo q = some (.ret (.bool (decide (arE op = 0))) hp) := by
 rw [callD_eq]
 simp [IP_oi_Leaf,i_oi_Leaf,arity_D]
theorem inside_D (w:Int) : callD G0 IP n_oi_inside [.int .i64 w] hp lo q = some (.ret (.bool (insE w)) hp) := by
 rw [callD_eq]
 by_cases h : 0 ≤ w
 · by_cases h2 : w ≤ 64 <;> simp [IP_oi_inside,i_oi_inside,insE,h,h2]
 · simp [IP_oi_inside,i_oi_inside,insE,h]
theorem agreed_D (ok:Bool) (r:Int) : callD G0 IP n_oi_agreed [.bool ok,.int .i64 r] hp lo q = some (.ret (.tup [.int .i64 (if ok then r else 0),.int .i64 (if ok then 0 else 3)]) hp) := by
 rw [callD_eq]
 cases ok <;> simp [IP_oi_agreed,i_oi_agreed]
end
end Go.Proofs.YtkofimhnehkdoaaGreatDoor.Rf
end
section
namespace Go.Proofs.YtkofimhnehkdoaaGreatDoor.Rf
theorem fdiv_pow {v:Int} (h0:0 ≤ v) {w:Nat} : (v.fdiv (2 ^ w) = 0) ↔ v < 2 ^ w := by
 have hp : (0:Int) < 2 ^ w := Int.pow_pos (by omega)
 rw [Int.fdiv_eq_ediv_of_nonneg _ (by omega)]
 constructor
 · intro h
   have := Int.lt_ediv_add_one_mul_self v hp
   rw [h] at this; simpa using this
 · intro h; exact Int.ediv_eq_zero_of_lt h0 h
section
variable {hp:List HObj} {lo:Nat} (q:Bool)
theorem opLeafW_D (op w v:Int) (hv:0 ≤ v) : callD G0 IP n_oi_leaf [.int .i64 op,.int .i64 w,.int .u64 v] hp lo q = some (.ret (.tup [.int .i64 (leafE op w v).1,.int .i64 (leafE op w v).2]) hp) := by
 rw [callD_eq]
 cases hi : insE w with
 | false => simp [IP_oi_leaf,i_oi_leaf,inside_D,hi,leafE]
 | true =>
   by_cases h1 : op = 2
   · by_cases h2 : 0 < w
     · have hw : w ≤ 64 := by simp [insE] at hi; exact hi.2
       have h3 : ¬ w < 0 := by omega
       have hm : min w.toNat 64 = w.toNat := by omega
       have hd := fdiv_pow hv (w := w.toNat)
       by_cases h4 : v < 2 ^ w.toNat
       · have h5 : ¬ (2:Int) ^ w.toNat ≤ v := by omega
         simp [IP_oi_leaf,i_oi_leaf,inside_D,hi,leafE,h1,h2,h3,IntKind.bits,hm,hd.2 h4,h5]
       · have h5 : (2:Int) ^ w.toNat ≤ v := by omega
         have h6 : ¬ v.fdiv (2 ^ w.toNat) = 0 := fun e => h4 (hd.1 e)
         simp [IP_oi_leaf,i_oi_leaf,inside_D,hi,leafE,h1,h2,h3,IntKind.bits,hm,h6,h5]
     · simp [IP_oi_leaf,i_oi_leaf,inside_D,hi,leafE,h1,h2]
   · simp [IP_oi_leaf,i_oi_leaf,inside_D,hi,leafE,h1]
theorem resized_D (op w v f:Int) (hf:f ≤ 64) (hv:0 ≤ v) : callD G0 IP n_oi_resized [.int .i64 op,.int .i64 w,.int .u64 v,.int .i64 f] hp lo q = some (.ret (.tup [.int .i64 (resE op w v f).1,.int .i64 (resE op w v f).2]) hp) := by
 rw [callD_eq]
 by_cases h1 : w < 1
 · simp [IP_oi_resized,i_oi_resized,resE,h1]
 · by_cases h2 : 64 < w
   · simp [IP_oi_resized,i_oi_resized,resE,h1,h2]
   · by_cases h3 : f < 1
     · simp [IP_oi_resized,i_oi_resized,resE,h1,h2,h3]
     · by_cases h4 : op = 21
       · by_cases h5 : f < w
         · simp [IP_oi_resized,i_oi_resized,resE,h1,h2,h3,h4,h5]
         · have e1 : IntKind.wrap .i64 (f - w) = f - w := wrap_small (by omega) (by omega)
           have e2 : IntKind.wrap .u64 (f - w) = f - w := wrapU_small (by omega) (by omega)
           by_cases h6 : f - w < v
           · simp [IP_oi_resized,i_oi_resized,resE,h1,h2,h3,h4,h5,h6,e1,e2]
           · simp [IP_oi_resized,i_oi_resized,resE,h1,h2,h3,h4,h5,h6,e1,e2]
       · by_cases h5 : w < f
         · simp [IP_oi_resized,i_oi_resized,resE,h1,h2,h3,h4,h5]
         · simp [IP_oi_resized,i_oi_resized,resE,h1,h2,h3,h4,h5]
theorem any_ins (as:List Int) : ((List.range as.length).any fun i => !insE (as.getD i 0)) = !as.all insE := by
 induction as with
 | nil => rfl
 | cons c r ih =>
   rw [List.length_cons,List.range_succ_eq_map]
   simp [List.any_map,Function.comp_def] at ih ⊢
   rw [ih]
end
end Go.Proofs.YtkofimhnehkdoaaGreatDoor.Rf
end
