/- A part of the proof: see the last text. -/
import Derived.Test.YtkofimhnehkdoaaGreatDoorRpG8
set_option linter.unusedVariables false
set_option linter.unusedSimpArgs false
section
namespace Go.Proofs.YtkofimhnehkdoaaGreatDoor.Rf
def PH (hp:List HObj) (s:List UInt8) (v:Int) : List HObj := hp ++ [.cells 0 [.str s,.int .i64 v,.list [] .nil]]
section
variable {hp:List HObj} {s:List UInt8} {lo:Nat}
@[simp] theorem PH_get (v:Int) : (PH hp s v)[hp.length]? = some (.cells 0 [.str s,.int .i64 v,.list [] .nil]) := by simp [PH]
@[simp] theorem PH_set (v u:Int) : (PH hp s v).set hp.length (.cells 0 [.str s,.int .i64 u,.list [] .nil]) = PH hp s u := by simp [PH]
theorem PH_len (v:Int) : (PH hp s v).length = hp.length + 1 := by simp [PH]
theorem com2_L (hs:s.length ≤ 9223372036854775807) (hlo:lo ≤ hp.length) : ∀ (k i:Nat) (ex:Fr),ex = [] ∨ ex = [(33,.bool true)] → i + k = s.length →
   loopD G0 IP lo l_sp_skip_1 ⟨(0,.ptr hp.length 0) :: ex,PH hp s i⟩ = some (.exit 3,⟨[(0,.ptr hp.length 0),(56,.bool false)],PH hp s (comK s k i)⟩)
 | 0,i,ex,hex,h => by
   rw [loopD_eq,loopBody]
   have : ¬ (i:Int) < (s.length : Int) := by omega
   rcases hex with rfl | rfl <;> simp [l_sp_skip_1,this,comK]
 | k + 1,i,ex,hex,h => by
   rw [loopD_eq,loopBody]
   have h1 : (i:Int) < (s.length : Int) := by omega
   obtain ⟨c,h2,hb⟩ := byt_some (s := s) (i := i) (by omega)
   have h3 := wrap_succ (i := i) (n := s.length) (by omega) hs
   have ih := com2_L hs hlo k (i + 1) [] (.inl rfl) (by omega)
   simp only [comK,hb]
   by_cases hc : (c.toNat : Int) = 10
   · rcases hex with rfl | rfl <;> simp [l_sp_skip_1,h1,h2,hc]
   · rcases hex with rfl | rfl <;> simp [l_sp_skip_1,h1,h2,hc,h3,hlo] <;> exact ih
theorem skip2_L (hs : s.length ≤ 9223372036854775807) (hlo:lo ≤ hp.length) : ∀ (n i:Nat) (ex:Fr),ex = [] ∨ ex = [(56,.bool false)] → i ≤ s.length → s.length - i ≤ n →
   ∃ e st,loopD G0 IP lo l_sp_skip_0 ⟨(0,.ptr hp.length 0) :: ex,PH hp s i⟩ = some (e,st) ∧ st.hp = PH hp s (skipK s n i) ∧ (e = .exit 0 ∨ e = .ret)
 | n, i, ex, hex, hi,hn => by
   by_cases h0 : i < s.length
   · match n, hn with
     | 0,hn => exact absurd hn (by omega)
     | n + 1, hn =>
       rw [loopD_eq,loopBody]
       have h1 : (i:Int) < (s.length : Int) := by omega
       obtain ⟨c,h2,hb⟩ := byt_some (s := s) (i := i) h0
       have h3 := wrap_succ (i := i) (n := s.length) h0 hs
       simp only [skipK,if_pos h0,hb]
       have ih0 := skip2_L hs hlo n (i + 1) [] (.inl rfl) (by omega) (by omega)
       by_cases b1 : (c.toNat : Int) = 32
       · rcases hex with rfl | rfl <;> simp [l_sp_skip_0,h1,h2,b1,h3,hlo,show blankC 32 = true from rfl] <;> exact ih0
       · by_cases b2 : (c.toNat : Int) = 9
         · rcases hex with rfl | rfl <;> simp [l_sp_skip_0,h1,h2,b2,h3,hlo,show blankC 9 = true from rfl] <;> exact ih0
         · by_cases b3 : (c.toNat : Int) = 10
           · rcases hex with rfl | rfl <;> simp [l_sp_skip_0,h1,h2,b3,h3,hlo,show blankC 10 = true from rfl] <;> exact ih0
           · by_cases b4 : (c.toNat : Int) = 13
             · rcases hex with rfl | rfl <;> simp [l_sp_skip_0,h1,h2,b4,h3,hlo,show blankC 13 = true from rfl] <;> exact ih0
             · have hc : blankC (c.toNat : Int) = false := by simp [blankC,b1,b2,b3,b4]
               by_cases h4 : (c.toNat : Int) = 59
               · have hcm := com2_L (hp := hp) (lo := lo) hs hlo (s.length - i) i [(33,.bool true)] (.inr rfl) (by omega)
                 have hle := comK_le s (s.length - i) i
                 have hgt : i < comK s (s.length - i) i := by
                   obtain ⟨k,hk⟩ : ∃ k,s.length - i = k + 1 := ⟨s.length - i - 1,by omega⟩
                   rw [hk]; simp only [comK,hb,h4]
                   have := comK_le s k (i + 1)
                   simp; omega
                 have ih := skip2_L hs hlo n (comK s (s.length - i) i) [(56,.bool false)] (.inr rfl) (by omega) (by omega)
                 rcases hex with rfl | rfl <;> simp [l_sp_skip_0,h1,h2,h4,hcm,show blankC 59 = false from rfl] <;> exact ih
               · rcases hex with rfl | rfl <;> simp [l_sp_skip_0,h1,h2,hc,h4,b1,b2,b3,b4] <;> exact ⟨_,_,⟨rfl,rfl⟩,rfl,.inr rfl⟩
   · rw [loopD_eq,loopBody]
     have h1 : ¬ (i:Int) < (s.length : Int) := by omega
     have e : skipK s n i = i := by cases n <;> simp [skipK,h0]
     rw [e]
     rcases hex with rfl | rfl <;> simp [l_sp_skip_0,h1] <;> exact ⟨_,_,⟨rfl,rfl⟩,rfl,.inl rfl⟩
theorem skip2_D (hs:s.length ≤ 9223372036854775807) (hlo:lo ≤ hp.length) (i:Nat) (hi:i ≤ s.length) : callD G0 IP n_sp_skip [.ptr hp.length 0] (PH hp s i) lo false = some (.ret (.tup []) (PH hp s (skipN s i))) := by
 rw [callD_eq]
 obtain ⟨e,st,h,h2,h3⟩ := skip2_L (hp := hp) (lo := lo) hs hlo s.length i [] (.inl rfl) hi (by omega)
 rcases h3 with rfl | rfl <;> simp [IP_sp_skip,i_sp_skip,h,h2,skipN]
end
end Go.Proofs.YtkofimhnehkdoaaGreatDoor.Rf
end
section
namespace Go.Proofs.YtkofimhnehkdoaaGreatDoor.Rf
inductive PR where
 | ok (e:S) (i:Nat)
 | err (i:Nat) (code:Int)
inductive LR where
 | stop (i:Nat) (acc:List S)
 | err (i:Nat) (code:Int)
mutual
def pOne (s:List UInt8) : Nat → Nat → Nat → PR
 | 0,i,_ => .err i 6
 | n + 1,i,d =>
   if byt s i = 40 then
     if d ≥ 64 then .err i 7 else
     match pLoop s n (skipN s (i + 1)) d [] with
     | .err j e => .err j e
     | .stop j acc => if j = s.length then .err j 6 else .ok (.mk [] acc.isEmpty acc) (j + 1)
   else if plainC (byt s i) then
     if d ≥ 64 then .err i 7 else .ok (.mk ((s.take (atomN s i)).drop i) true []) (atomN s i)
   else .err i 6
def pLoop (s:List UInt8) : Nat → Nat → Nat → List S → LR
 | 0,i,_,acc => .stop i acc
 | n + 1,i,d,acc =>
   if i < s.length then
     if byt s i = 41 then .stop i acc else
     match pOne s n i (d + 1) with
     | .err j e => .err j e
     | .ok x j => pLoop s n (skipN s j) d (acc ++ [x])
   else .stop i acc
end
theorem atomN_gt {s:List UInt8} {i:Nat} (h:i < s.length) (hp:plainC (byt s i) = true) : i < atomN s i ∧ atomN s i ≤ s.length := by
 obtain ⟨k,hk⟩ : ∃ k,s.length - i = k + 1 := ⟨s.length - i - 1,by omega⟩
 unfold atomN
 rw [hk]; simp only [atomK,hp,if_true]
 have := atomK_le s k (i + 1)
 omega
theorem skipN_le {s:List UInt8} {i:Nat} (h:i ≤ s.length) : i ≤ skipN s i ∧ skipN s i ≤ s.length := skipK_le s _ i h
theorem p_le (s:List UInt8) : ∀ n,(∀ i d x j,i < s.length → pOne s n i d = .ok x j → i < j ∧ j ≤ s.length) ∧ (∀ i d acc j acc',i ≤ s.length → acc.length ≤ i → pLoop s n i d acc = .stop j acc' → i ≤ j ∧ j ≤ s.length ∧ acc'.length ≤ j)
 | 0 => ⟨fun i d x j hi h => by simp [pOne] at h,fun i d acc j acc' hi ha h => by simp [pLoop] at h; obtain ⟨rfl,rfl⟩ := h; exact ⟨Nat.le_refl _,hi,ha⟩⟩
 | n + 1 => by
   obtain ⟨h1,h2⟩ := p_le s n
   refine ⟨fun i d x j hi h => ?_,fun i d acc j acc' hi ha h => ?_⟩
   · simp only [pOne] at h
     have hk := skipN_le (s := s) (i := i + 1) (by omega)
     split at h
     · split at h
       · cases h
       · split at h
         · cases h
         · rename_i j' acc' hl
           have := h2 _ _ _ _ _ hk.2 (by simp) hl
           split at h
           · cases h
           · cases h; omega
     · split at h
       · rename_i hp
         split at h
         · cases h
         · cases h; exact atomN_gt hi hp
       · cases h
   · simp only [pLoop] at h
     split at h
     · rename_i hlt
       split at h
       · cases h; omega
       · split at h
         · cases h
         · rename_i x j' ho
           have := h1 _ _ _ _ hlt ho
           have hk := skipN_le (s := s) (i := j') (by omega)
           have := h2 _ _ _ _ _ hk.2 (by simp; omega) h
           omega
     · cases h; omega
theorem perr_both (s:List UInt8) : ∀ n,(∀ i d j e,pOne s n i d = .err j e → ¬ e = 0) ∧ (∀ i d acc j e,pLoop s n i d acc = .err j e → ¬ e = 0)
 | 0 => ⟨fun i d j e h => by simp [pOne] at h; obtain ⟨_,rfl⟩ := h; simp,fun i d acc j e h => by simp [pLoop] at h⟩
 | n + 1 => by
   obtain ⟨h1,h2⟩ := perr_both s n
   refine ⟨fun i d j e h => ?_,fun i d acc j e h => ?_⟩
   · simp only [pOne] at h
     repeat' split at h
     all_goals first
       | (cases h; done)
       | (cases h; simp; done)
       | (rename_i hl; cases h; exact h2 _ _ _ _ _ hl)
   · simp only [pLoop] at h
     repeat' split at h
     all_goals first
       | (cases h; done)
       | (rename_i hl; cases h; exact h1 _ _ _ _ hl)
       | exact h2 _ _ _ _ _ h
theorem perr_ne (s:List UInt8) (n i d j:Nat) (e:Int) (h:pOne s n i d = .err j e) : ¬ e = 0 := (perr_both s n).1 i d j e h
mutual
theorem S.av_closed (n:Nat) : ∀ t : S,AV.closed n t.av = true
 | .mk a o l => by simp [S.av,AV.closed,AV.closedL,S.avs_closed n l]
theorem S.avs_closed (n:Nat) : ∀ l : List S,AV.closedL n (S.avs l) = true
 | [] => rfl
 | t :: r => by simp [S.avs,AV.closedL,S.av_closed n t,S.avs_closed n r]
end
@[simp] theorem S.okSize_avs (l:List S) : okSize 2 (S.avs l) = true := by
 cases l with
 | nil => rfl
 | cons t r => simp [S.avs,S.av_eq]
def outP : PR → AV
 | .ok x j => .tup [x.av,.int .i64 j,.int .i64 0]
 | .err j e => .tup [.agg [.str [],.list [] .nil],.int .i64 j,.int .i64 e]
def ownA (acc:List S) : Own := if acc.isEmpty then .nil else .own 2 0
@[simp] theorem ownA_cp (acc:List S) : (ownA acc).cp = ownB acc.isEmpty := by cases acc <;> rfl
@[simp] theorem ownA_app (acc:List S) (x:S) : ownA (acc ++ [x]) = .own 2 0 := by cases acc <;> rfl
theorem ownA_ok (acc:List S) : ownA acc = .nil ∨ ownA acc = .own 2 0 := by cases acc <;> simp [ownA]
section
variable {s:List UInt8}
theorem one_W (hs:s.length ≤ 65536) : ∀ n,(∀ (hp:List HObj) (lo:Nat) (q:Bool) (i d:Nat),i < s.length → d ≤ 64 → 2 * (s.length - i) ≤ n → callD G0 IP n_sr05_one [.str s,.int .i64 i,.int .i64 d] hp lo q = some (.ret (outP (pOne s n i d)) hp)) ∧
   (∀ (hp : List HObj) (lo:Nat) (i d:Nat) (acc:List S),i ≤ s.length → d < 64 → acc.length ≤ i → 2 * (s.length - i) + 1 ≤ n →
     loopD G0 IP lo l_sr05_one_0 ⟨[(0,.str s),(1,.int .i64 i),(2,.int .i64 d),(6,.box [.str [],.list [] .nil]),(10,.list (S.avs acc) (ownA acc))],hp⟩ =
       some (match pLoop s n i d acc with
         | .err j e => (.ret,⟨[(6,.box [.str [],.list [] .nil]),(7,.int .i64 j),(8,.int .i64 e)],hp⟩)
         | .stop j acc' => (.exit 0,⟨[(0,.str s),(1,.int .i64 j),(2,.int .i64 d),(6,.box [.str [],.list [] .nil]),(10,.list (S.avs acc') (ownA acc')),(63,.bool false)],hp⟩))) := by
 have hs' : s.length ≤ 9223372036854775807 := by omega
 intro n
 induction n with
 | zero => exact ⟨fun hp lo q i d hi _ h => absurd h (by omega),fun hp lo i d acc hi _ _ h => absurd h (by omega)⟩
 | succ n ih =>
   obtain ⟨ih1,ih2⟩ := ih
   refine ⟨fun hp lo q i d hi hd h => ?_,fun hp lo i d acc hi hd ha h => ?_⟩
   · rw [callD_eq]
     obtain ⟨c,h2,hb⟩ := byt_some (s := s) (i := i) hi
     have hw : IntKind.wrap .i64 ((i:Int) + 1) = (i:Int) + 1 := wrap_small (by omega) (by omega)
     have hk := skipN_le (s := s) (i := i + 1) (by omega)
     simp only [pOne,hb]
     by_cases h40 : (c.toNat : Int) = 40
     · by_cases h64 : d ≥ 64
       · have h64' : (64:Int) ≤ (d:Int) := by omega
         simp [IP_sr05_one,i_sr05_one,h2,h40,h64,h64',outP]
       · have h64' : ¬ (64:Int) ≤ (d:Int) := by omega
         have e2 : ∀ q,callD G0 IP n_sr05_skip [.str s,.int .i64 ((i:Int) + 1)] hp hp.length q = some (.ret (.int .i64 (skipN s (i + 1))) hp) := fun q => skip1_D hs' (i + 1) (by omega) q
         have e3 := ih2 hp hp.length (skipN s (i + 1)) d [] hk.2 (by omega) (by simp) (by omega)
         have hle := (p_le s n).2 (skipN s (i + 1)) d []
         cases hx : pLoop s n (skipN s (i + 1)) d [] with
         | err j e =>
           rw [hx] at e3
           simp [ownA] at e3
           simp [IP_sr05_one,i_sr05_one,h2,h40,h64,h64',outP,hw,e2,e3]
         | stop j acc =>
           rw [hx] at e3
           simp [ownA] at e3
           obtain ⟨_,hj,_⟩ := hle j acc hk.2 (by simp) hx
           by_cases hjl : j = s.length
           · simp [IP_sr05_one,i_sr05_one,h2,h40,h64,h64',outP,hw,e2,e3,hjl]
           · have hjl' : ¬ (j:Int) = (s.length : Int) := by omega
             have hw2 : IntKind.wrap .i64 ((j:Int) + 1) = (j:Int) + 1 := wrap_small (by omega) (by omega)
             simp [IP_sr05_one,i_sr05_one,h2,h40,h64,h64',outP,hw,e2,e3,hjl,hjl',hw2]
             exact ⟨S.avs_closed _ _,by cases acc <;> simp [S.av,ownB]⟩
     · cases hc : plainC (c.toNat : Int)
       · by_cases h41 : (c.toNat : Int) = 41
         · simp [IP_sr05_one,i_sr05_one,h2,h41,outP,show plainC 41 = false from rfl]
         · simp [IP_sr05_one,i_sr05_one,h2,h40,h41,hc,outP,plain1_D]
       · have h41 : ¬ (c.toNat : Int) = 41 := fun e => by rw [e] at hc; simp [plainC] at hc
         by_cases h64 : d ≥ 64
         · have h64' : (64:Int) ≤ (d:Int) := by omega
           simp [IP_sr05_one,i_sr05_one,h2,h40,h41,hc,h64,h64',outP,plain1_D]
         · have h64' : ¬ (64:Int) ≤ (d:Int) := by omega
           have e2 : ∀ q,callD G0 IP n_sr05_atom [.str s,.int .i64 i] hp hp.length q = some (.ret (.int .i64 (atomN s i)) hp) := fun q => atom1_D hs' i (by omega) q
           have ha := atomN_gt (s := s) (i := i) hi (by rw [hb]; exact hc)
           have ha1 : (i:Int) ≤ (atomN s i:Int) := by omega
           simp [IP_sr05_one,i_sr05_one,h2,h40,h41,hc,h64,h64',outP,plain1_D,e2,ha.1,ha.2,Nat.le_of_lt ha.1,S.av]
           rfl
   · rw [loopD_eq,loopBody]
     simp only [pLoop]
     by_cases h0 : i < s.length
     · have h1 : (i:Int) < (s.length : Int) := by omega
       obtain ⟨c,h2,hb⟩ := byt_some (s := s) (i := i) h0
       simp only [if_pos h0,hb]
       by_cases h41 : (c.toNat : Int) = 41
       · simp [l_sr05_one_0,h1,h2,h41]
       · have e1 : callD G0 IP n_sr05_one [.str s,.int .i64 i,.int .i64 ((d:Int) + 1)] hp lo false = some (.ret (outP (pOne s n i (d + 1))) hp) := ih1 hp lo false i (d + 1) h0 (by omega) (by omega)
         have hw : IntKind.wrap .i64 ((d:Int) + 1) = (d:Int) + 1 := wrap_small (by omega) (by omega)
         have he := (p_le s n).1 i (d + 1)
         simp only [if_neg h41]
         cases hx : pOne s n i (d + 1) with
         | err j e =>
           rw [hx] at e1
           simp only [outP] at e1
           have hne : ¬ e = 0 := perr_ne s n i (d + 1) j e hx
           simp [l_sr05_one_0,h1,h2,h41,hw,e1,hne]
         | ok x j =>
           rw [hx] at e1
           simp only [outP] at e1
           obtain ⟨hj1,hj2⟩ := he x j h0 hx
           have hsk := skipN_le (s := s) (i := j) hj2
           have e2 := skip1_D (hp := hp) (lo := lo) hs' j hj2 false
           have e3 := ih2 hp lo (skipN s j) d (acc ++ [x]) hsk.2 hd (by simp; omega) (by omega)
           have hb1 : (acc.length + 1) * 40 ≤ 140737488355328 := by omega
           have hb2 : acc.length + 1 ≤ 9223372036854775807 := by omega
           rw [S.av_eq] at e1
           rw [S.avs_app,ownA_app,show S.avs [x] = [.agg [.str x.atom,.list (S.avs x.list) (ownB x.o)]] by simp [S.avs,S.av_eq]] at e3
           simp [l_sr05_one_0,h1,h2,h41,hw,e1,e2,hb1,hb2,ownA_ok]
           exact e3
     · have h1 : ¬ (i:Int) < (s.length : Int) := by omega
       simp [l_sr05_one_0,h1,h0]
end
end Go.Proofs.YtkofimhnehkdoaaGreatDoor.Rf
end
section
namespace Go.Proofs.YtkofimhnehkdoaaGreatDoor.Rf
abbrev failAV (j:Nat) (e:Int) : AV := .iface 168 (.agg [.int .i64 j,.int .i64 e])
theorem fail_D (p q:Nat) (j e:Int) (hp:List HObj) (lo:Nat) : callD G0 IP n_sp_fail [.ptr p q,.int .i64 j,.int .i64 e] hp lo false = some (.pan (.iface 168 (.agg [.int .i64 j,.int .i64 e])) hp) := by
 rw [callD_eq]
 simp [IP_sp_fail,i_sp_fail]
section
variable {hp:List HObj} {s:List UInt8} {lo:Nat}
theorem atom2_L (hs:s.length ≤ 65536) (hlo:lo ≤ hp.length) (f:Int) : ∀ (k i:Nat),i + k = s.length →
   loopD G0 IP lo l_sp_expression_0 ⟨[(0,.ptr hp.length 0),(4,.box [.str [],.list [] .nil]),(6,.int .i64 f)],PH hp s i⟩ =
     some (.exit 0,⟨[(0,.ptr hp.length 0),(4,.box [.str [],.list [] .nil]),(6,.int .i64 f),(66,.bool false)],PH hp s (atomK s k i)⟩)
 | 0,i,h => by
   rw [loopD_eq,loopBody]
   have : ¬ (i:Int) < (s.length : Int) := by omega
   simp [l_sp_expression_0,this,atomK]
 | k + 1,i,h => by
   rw [loopD_eq,loopBody]
   have h1 : (i:Int) < (s.length : Int) := by omega
   obtain ⟨c,h2,hb⟩ := byt_some (s := s) (i := i) (by omega)
   have h3 := wrap_succ (i := i) (n := s.length) (by omega) (by omega)
   have ih := atom2_L hs hlo f k (i + 1) (by omega)
   simp only [atomK,hb]
   cases hc : plainC (c.toNat : Int)
   · simp [l_sp_expression_0,h1,h2,hc,plain2_D]
   · simp [l_sp_expression_0,h1,h2,hc,h3,plain2_D,hlo]
     exact ih
def outE (hp:List HObj) (s:List UInt8) : PR → COut
 | .ok x j => .ret x.av (PH hp s j)
 | .err j e => .pan (failAV j e) (PH hp s j)
def LRok (hp:List HObj) (s:List UInt8) : LR → Ex → St → Prop
 | .err j e,ex,st => ex = .pan (failAV j e) ∧ st.hp = PH hp s j
 | .stop j acc,ex,st => if j = s.length then ex = .pan (failAV j 6) ∧ st.hp = PH hp s j else ex = .ret ∧ st = ⟨[(4,.box [.str [],.list (S.avs acc) (ownB acc.isEmpty)])],PH hp s ((j + 1 : Nat) : Int)⟩
theorem expr_W (hs:s.length ≤ 65536) (hlo:lo ≤ hp.length) : ∀ n,(∀ (i d:Nat),i < s.length → d ≤ 64 → 2 * (s.length - i) ≤ n → callD G0 IP n_sp_expression [.ptr hp.length 0,.int .i64 d] (PH hp s i) lo false = some (outE hp s (pOne s n i d))) ∧
   (∀ (i d:Nat) (acc:List S),i ≤ s.length → d < 64 → acc.length ≤ i → 2 * (s.length - skipN s i) + 1 ≤ n →
     ∃ ex st,loopD G0 IP lo l_sp_expression_1 ⟨[(0,.ptr hp.length 0),(1,.int .i64 d),(4,.box [.str [],.list [] .nil]),(7,.box [.str [],.list (S.avs acc) (ownA acc)])],PH hp s i⟩ = some (ex,st) ∧ LRok hp s (pLoop s n (skipN s i) d acc) ex st) := by
 have hs' : s.length ≤ 9223372036854775807 := by omega
 intro n
 induction n with
 | zero => exact ⟨fun i d hi _ h => absurd h (by omega),fun i d acc hi _ _ h => absurd h (by omega)⟩
 | succ n ih =>
   obtain ⟨ih1,ih2⟩ := ih
   refine ⟨fun i d hi hd h => ?_,fun i d acc hi hd ha h => ?_⟩
   · rw [callD_eq]
     obtain ⟨c,h2,hb⟩ := byt_some (s := s) (i := i) hi
     have hw : IntKind.wrap .i64 ((i:Int) + 1) = (i:Int) + 1 := wrap_small (by omega) (by omega)
     have hwd : IntKind.wrap .i64 ((d:Int) + 1) = (d:Int) + 1 := wrap_small (by omega) (by omega)
     have hk := skipN_le (s := s) (i := i + 1) (by omega)
     simp only [pOne,hb]
     by_cases h40 : (c.toNat : Int) = 40
     · by_cases h64 : d ≥ 64
       · have h64' : (64:Int) < (d:Int) + 1 := by omega
         simp [IP_sp_expression,i_sp_expression,h2,h40,h64,h64',hwd,outE,fail_D]
       · have h64' : ¬ (64:Int) < (d:Int) + 1 := by omega
         obtain ⟨ex,st,e3,e4⟩ := ih2 (i + 1) d [] (by omega) (by omega) (by simp) (by omega)
         simp [ownA] at e3
         cases hx : pLoop s n (skipN s (i + 1)) d [] with
         | err j e =>
           rw [hx] at e4
           obtain ⟨rfl,e5⟩ := e4
           simp [IP_sp_expression,i_sp_expression,h2,h40,h64,h64',hwd,hw,hlo,outE,e3,e5]
         | stop j acc =>
           rw [hx] at e4
           simp only [LRok] at e4
           by_cases hjl : j = s.length
           · rw [if_pos hjl] at e4
             obtain ⟨rfl,e5⟩ := e4
             simp [IP_sp_expression,i_sp_expression,h2,h40,h64,h64',hwd,hw,hlo,outE,e3,e5,hjl]
           · rw [if_neg hjl] at e4
             obtain ⟨rfl,rfl⟩ := e4
             simp [IP_sp_expression,i_sp_expression,h2,h40,h64,h64',hwd,hw,hlo,outE,e3,hjl,S.av]
     · cases hc : plainC (c.toNat : Int)
       · simp [IP_sp_expression,i_sp_expression,h2,h40,hc,outE,fail_D,plain2_D]
       · by_cases h64 : d ≥ 64
         · have h64' : (64:Int) < (d:Int) + 1 := by omega
           simp [IP_sp_expression,i_sp_expression,h2,h40,hc,h64,h64',hwd,outE,fail_D,plain2_D]
         · have h64' : ¬ (64:Int) < (d:Int) + 1 := by omega
           have e2 := atom2_L (hp := hp) (lo := lo) hs hlo (i:Int) (s.length - i) i (by omega)
           have ha := atomN_gt (s := s) (i := i) hi (by rw [hb]; exact hc)
           unfold atomN at ha
           simp [IP_sp_expression,i_sp_expression,h2,h40,hc,h64,h64',hwd,outE,plain2_D,e2,ha.1,ha.2,Nat.le_of_lt ha.1,S.av,atomN,ownB]
   · rw [loopD_eq,loopBody]
     have e0 := skip2_D (hp := hp) (lo := lo) hs' hlo i hi
     have hk := skipN_le (s := s) (i := i) hi
     generalize hj : skipN s i = j at *
     simp only [pLoop]
     by_cases h0 : j < s.length
     · have h1 : ¬ (j:Int) = (s.length : Int) := by omega
       obtain ⟨c,h2,hb⟩ := byt_some (s := s) (i := j) h0
       simp only [if_pos h0,hb]
       by_cases h41 : (c.toNat : Int) = 41
       · have hw : IntKind.wrap .i64 ((j:Int) + 1) = (j:Int) + 1 := wrap_small (by omega) (by omega)
         have h1' : ¬ j = s.length := by omega
         refine ⟨.ret,⟨[(4,.box [.str [],.list (S.avs acc) (ownB acc.isEmpty)])],PH hp s ((j + 1 : Nat) : Int)⟩,?_,?_⟩
         · simp [l_sp_expression_1,e0,h1,h2,h41,hw,hlo]
         · simp only [h41,if_true,LRok]
           rw [if_neg h1']
           simp
       · have e1 : callD G0 IP n_sp_expression [.ptr hp.length 0,.int .i64 ((d:Int) + 1)] (PH hp s j) lo false = some (outE hp s (pOne s n j (d + 1))) := ih1 j (d + 1) h0 (by omega) (by omega)
         have hw : IntKind.wrap .i64 ((d:Int) + 1) = (d:Int) + 1 := wrap_small (by omega) (by omega)
         have he := (p_le s n).1 j (d + 1)
         simp only [if_neg h41]
         cases hx : pOne s n j (d + 1) with
         | err k e =>
           rw [hx] at e1
           simp only [outE] at e1
           simp [l_sp_expression_1,e0,h1,h2,h41,hw,e1]
           exact ⟨_,_,⟨rfl,rfl⟩,rfl,rfl⟩
         | ok x k =>
           rw [hx] at e1
           simp only [outE] at e1
           obtain ⟨hj1,hj2⟩ := he x k h0 hx
           have hsk := skipN_le (s := s) (i := k) hj2
           obtain ⟨ex,st,e3,e4⟩ := ih2 k d (acc ++ [x]) hj2 hd (by simp; omega) (by omega)
           have hb1 : (acc.length + 1) * 40 ≤ 140737488355328 := by omega
           have hb2 : acc.length + 1 ≤ 9223372036854775807 := by omega
           rw [S.av_eq] at e1
           rw [S.avs_app,ownA_app,show S.avs [x] = [.agg [.str x.atom,.list (S.avs x.list) (ownB x.o)]] by simp [S.avs,S.av_eq]] at e3
           refine ⟨ex,st,?_,e4⟩
           simp [l_sp_expression_1,e0,h1,h2,h41,hw,e1,hb1,hb2,ownA_ok]
           exact e3
     · have h1' : j = s.length := by omega
       subst h1'
       simp only [if_neg h0,LRok,if_true]
       simp [l_sp_expression_1,e0,fail_D]
       exact ⟨_,_,⟨rfl,rfl⟩,rfl,rfl⟩
end
end Go.Proofs.YtkofimhnehkdoaaGreatDoor.Rf
end
section
namespace Go.Proofs.YtkofimhnehkdoaaGreatDoor.Rf
inductive PTR where
 | ok (l:List S) (st:List Nat)
 | err (i:Nat) (code:Int)
def pTop (s:List UInt8) : Nat → Nat → List S → List Nat → PTR
 | 0,_,acc,st => .ok acc st
 | n + 1,i,acc,st =>
   if i < s.length then
     match pOne s (2 * s.length) i 0 with
     | .err j e => .err j e
     | .ok x j => pTop s n (skipN s j) (acc ++ [x]) (st ++ [i])
   else .ok acc st
def pAll (s:List UInt8) : PTR := if s.length > 65536 then .err 0 7 else pTop s (s.length + 1) (skipN s 0) [] []
section
variable {s:List UInt8} {hp:List HObj} {lo:Nat}
theorem top1_L (hs:s.length ≤ 65536) : ∀ (n i:Nat) (acc:List S) (st:List Nat),i ≤ s.length → acc.length ≤ i → s.length - i < n →
   loopD G0 IP lo l_sr05_ParseAll_0 ⟨[(0,.str s),(5,.list (S.avs acc) (ownA acc)),(6,.int .i64 i)],hp⟩ =
     some (match pTop s n i acc st with
       | .err j e => (.ret,⟨[(2,.list [] .nil),(3,.int .i64 j),(4,.int .i64 e)],hp⟩)
       | .ok l _ => (.exit 0,⟨[(0,.str s),(5,.list (S.avs l) (ownA l)),(6,.int .i64 s.length),(18,.bool false)],hp⟩)) := by
 have hs' : s.length ≤ 9223372036854775807 := by omega
 intro n
 induction n with
 | zero => intro i acc st hi ha h; omega
 | succ n ih =>
   intro i acc st hi ha h
   rw [loopD_eq,loopBody]
   simp only [pTop]
   by_cases h0 : i < s.length
   · have h1 : (i:Int) < (s.length : Int) := by omega
     have e1 : callD G0 IP n_sr05_one [.str s,.int .i64 i,.int .i64 0] hp lo false = some (.ret (outP (pOne s (2 * s.length) i 0)) hp) := (one_W hs (2 * s.length)).1 hp lo false i 0 h0 (by omega) (by omega)
     simp only [if_pos h0]
     cases hx : pOne s (2 * s.length) i 0 with
     | err j e =>
       rw [hx] at e1
       simp only [outP] at e1
       have hne : ¬ e = 0 := perr_ne s _ i 0 j e hx
       simp [l_sr05_ParseAll_0,h1,e1,hne]
     | ok x j =>
       rw [hx] at e1
       simp only [outP] at e1
       obtain ⟨hj1,hj2⟩ := (p_le s _).1 i 0 x j h0 hx
       have hsk := skipN_le (s := s) (i := j) hj2
       have e2 := skip1_D (hp := hp) (lo := lo) hs' j hj2 false
       have e3 := ih (skipN s j) (acc ++ [x]) (st ++ [i]) hsk.2 (by simp; omega) (by omega)
       have hb1 : (acc.length + 1) * 40 ≤ 140737488355328 := by omega
       have hb2 : acc.length + 1 ≤ 9223372036854775807 := by omega
       rw [S.av_eq] at e1
       rw [S.avs_app,ownA_app,show S.avs [x] = [.agg [.str x.atom,.list (S.avs x.list) (ownB x.o)]] by simp [S.avs,S.av_eq]] at e3
       simp [l_sr05_ParseAll_0,h1,e1,e2,hb1,hb2,ownA_ok]
       exact e3
   · have h1 : i = s.length := by omega
     subst h1
     simp [l_sr05_ParseAll_0]
def outA (own:List S → Own) : PTR → AV
 | .ok l _ => .tup [.list (S.avs l) (own l),.int .i64 0,.int .i64 0]
 | .err j e => .tup [.list [] .nil,.int .i64 j,.int .i64 e]
theorem parseAll1_D (q:Bool) : callD G0 IP n_sr05_ParseAll [.str s] hp lo q = some (.ret (outA ownA (pAll s)) hp) := by
 rw [callD_eq]
 by_cases hs : s.length ≤ 65536
 · have h1 : ¬ (65536:Int) < (s.length : Int) := by omega
   have h1' : ¬ s.length > 65536 := by omega
   have e2 : ∀ q,callD G0 IP n_sr05_skip [.str s,.int .i64 0] hp hp.length q = some (.ret (.int .i64 (skipN s 0)) hp) := fun q => skip1_D (by omega) 0 (by omega) q
   have hk := skipN_le (s := s) (i := 0) (by omega)
   have e3 := top1_L (hp := hp) (lo := hp.length) hs (s.length + 1) (skipN s 0) [] [] hk.2 (by simp) (by omega)
   simp only [pAll,if_neg h1']
   cases hx : pTop s (s.length + 1) (skipN s 0) [] [] with
   | err j e =>
     rw [hx] at e3
     simp [ownA] at e3
     simp [IP_sr05_ParseAll,i_sr05_ParseAll,h1,e2,e3,outA]
   | ok l st =>
     rw [hx] at e3
     simp [ownA] at e3
     simp [IP_sr05_ParseAll,i_sr05_ParseAll,h1,e2,e3,outA,ownA,S.avs_closed]
 · have h1 : (65536:Int) < (s.length : Int) := by omega
   have h1' : s.length > 65536 := by omega
   simp [IP_sr05_ParseAll,i_sr05_ParseAll,h1,pAll,h1',outA]
abbrev intsA (l:List Nat) : List AV := l.map fun n : Nat => AV.int .i64 (n:Int)
def ownI (l:List Nat) : Own := if l.isEmpty then .nil else .own 1 0
@[simp] theorem ownI_cp (l:List Nat) : (ownI l).cp = ownB l.isEmpty := by cases l <;> rfl
@[simp] theorem ownI_app (l:List Nat) (x:Nat) : ownI (l ++ [x]) = .own 1 0 := by cases l <;> rfl
theorem ownI_ok (l:List Nat) : ownI l = .nil ∨ ownI l = .own 1 0 := by cases l <;> simp [ownI]
@[simp] theorem okSize_ints (l:List Nat) : okSize 1 (intsA l) = true := by cases l <;> simp [intsA]
def PTRok (hp:List HObj) (s:List UInt8) : PTR → Ex → St → Prop
 | .err j e,ex,st => ex = .pan (failAV j e) ∧ st.hp = PH hp s j ∧ ∃ v2 v3 v4 v5,st.fr.get 2 = .box [v2] ∧ st.fr.get 3 = .box [v3] ∧ st.fr.get 4 = .box [v4] ∧ st.fr.get 5 = .box [v5]
 | .ok l st',ex,st => ex = .exit 0 ∧ st = ⟨[(0,.str s),(2,.box [.list (S.avs l) (ownA l)]),(3,.box [.list (intsA st') (ownI st')]),(4,.box [.int .i64 0]),(5,.box [.int .i64 0]),(6,.ptr hp.length 0),(22,.bool false)],PH hp s s.length⟩
theorem top2_L (hs:s.length ≤ 65536) (hlo:lo ≤ hp.length) : ∀ (n i:Nat) (acc:List S) (st:List Nat),i ≤ s.length → acc.length ≤ i → st.length ≤ i → s.length - i < n →
   ∃ ex st',loopD G0 IP lo l_sx_all_0 ⟨[(0,.str s),(2,.box [.list (S.avs acc) (ownA acc)]),(3,.box [.list (intsA st) (ownI st)]),(4,.box [.int .i64 0]),(5,.box [.int .i64 0]),(6,.ptr hp.length 0)],PH hp s i⟩ = some (ex,st') ∧ PTRok hp s (pTop s n i acc st) ex st' := by
 have hs' : s.length ≤ 9223372036854775807 := by omega
 intro n
 induction n with
 | zero => intro i acc st hi ha _ h; omega
 | succ n ih =>
   intro i acc st hi ha hst h
   rw [loopD_eq,loopBody]
   simp only [pTop]
   by_cases h0 : i < s.length
   · have h1 : (i:Int) < (s.length : Int) := by omega
     have e1 : callD G0 IP n_sp_expression [.ptr hp.length 0,.int .i64 0] (PH hp s i) lo false = some (outE hp s (pOne s (2 * s.length) i 0)) := (expr_W hs hlo (2 * s.length)).1 i 0 h0 (by omega) (by omega)
     have hc1 : (st.length + 1) * 8 ≤ 140737488355328 := by omega
     have hc2 : st.length + 1 ≤ 9223372036854775807 := by omega
     simp only [if_pos h0]
     cases hx : pOne s (2 * s.length) i 0 with
     | err j e =>
       rw [hx] at e1
       simp only [outE] at e1
       simp [l_sx_all_0,h1,e1,hc1,hc2,ownI_ok]
       exact ⟨_,_,⟨rfl,rfl⟩,rfl,rfl,_,_,_,_,rfl,rfl,rfl,rfl⟩
     | ok x j =>
       rw [hx] at e1
       simp only [outE] at e1
       obtain ⟨hj1,hj2⟩ := (p_le s _).1 i 0 x j h0 hx
       have hsk := skipN_le (s := s) (i := j) hj2
       have e2 := skip2_D (hp := hp) (lo := lo) hs' hlo j hj2
       obtain ⟨ex,st',e3,e4⟩ := ih (skipN s j) (acc ++ [x]) (st ++ [i]) hsk.2 (by simp; omega) (by simp; omega) (by omega)
       have hb1 : (acc.length + 1) * 40 ≤ 140737488355328 := by omega
       have hb2 : acc.length + 1 ≤ 9223372036854775807 := by omega
       rw [S.av_eq] at e1
       rw [S.avs_app,ownA_app,ownI_app,show S.avs [x] = [.agg [.str x.atom,.list (S.avs x.list) (ownB x.o)]] by simp [S.avs,S.av_eq]] at e3
       refine ⟨ex,st',?_,e4⟩
       simp [l_sx_all_0,h1,e1,e2,hb1,hb2,hc1,hc2,ownA_ok,ownI_ok,Fr.noLast]
       rw [show intsA (st ++ [i]) = intsA st ++ [AV.int .i64 (i:Int)] by simp [intsA]] at e3
       exact e3
   · have h1 : i = s.length := by omega
     subst h1
     simp only [if_neg h0,PTRok]
     simp [l_sx_all_0]
theorem recv_D (hp:List HObj) (v2 v3 v4 v5:AV) (j:Nat) (e:Int) (lo:Nat) (hlo:lo ≤ hp.length) : evalRecv G0 IP (callD G0 IP) (loopD G0 IP lo) lo n_sx_all_1 [.ptr hp.length 0,.ptr (hp.length + 1) 0,.ptr (hp.length + 2) 0,.ptr (hp.length + 3) 0]
   (hp ++ [.cells 0 [v2],.cells 0 [v3],.cells 0 [v4],.cells 0 [v5]]) (failAV j e) = some (hp ++ [.cells 0 [.list [] .nil],.cells 0 [.list [] .nil],.cells 0 [.int .i64 j],.cells 0 [.int .i64 e]]) := by
 have h1 : lo ≤ hp.length + 1 := by omega
 have h2 : lo ≤ hp.length + 2 := by omega
 have h3 : lo ≤ hp.length + 3 := by omega
 simp [IP_sx_all_1,i_sx_all_1,hlo,h1,h2,h3,List.getElem?_append_right,List.set_append_right]
theorem recv0_D (hp:List HObj) (v2 v3 v4 v5:AV) (lo:Nat) : evalRecv G0 IP (callD G0 IP) (loopD G0 IP lo) lo n_sx_all_1 [.ptr hp.length 0,.ptr (hp.length + 1) 0,.ptr (hp.length + 2) 0,.ptr (hp.length + 3) 0]
   (hp ++ [.cells 0 [v2],.cells 0 [v3],.cells 0 [v4],.cells 0 [v5]]) .nili = some (hp ++ [.cells 0 [v2],.cells 0 [v3],.cells 0 [v4],.cells 0 [v5]]) := by
 simp [IP_sx_all_1,i_sx_all_1]
end
end Go.Proofs.YtkofimhnehkdoaaGreatDoor.Rf
end
section
namespace Go.Proofs.YtkofimhnehkdoaaGreatDoor.Rf
def outAll : PTR → AV
 | .ok l st => .tup [.list (S.avs l) (ownB l.isEmpty),.list (intsA st) (ownB st.isEmpty),.int .i64 0,.int .i64 0]
 | .err j e => .tup [.list [] .nil,.list [] .nil,.int .i64 j,.int .i64 e]
theorem ints_closed (n:Nat) : ∀ l : List Nat,AV.closedL n (intsA l) = true
 | [] => rfl
 | x :: r => by simp [intsA,AV.closedL]; simpa [intsA] using ints_closed n r
theorem PH_fold (hp:List HObj) (s:List UInt8) (v:Int) : hp ++ [.cells 0 [.str s,.int .i64 v,.list [] .nil]] = PH hp s v := rfl
theorem get4_2 {α:Type} (xs:List α) (a b c d:α) (h:xs.length + 1 + 1 < (xs ++ [a,b,c,d]).length) : (xs ++ [a,b,c,d])[xs.length + 1 + 1] = c := by
 rw [List.getElem_append_right (by omega)]
 simp [show xs.length + 1 + 1 - xs.length = 2 by omega]
theorem get4_3 {α:Type} (xs:List α) (a b c d:α) (h:xs.length + 1 + 1 + 1 < (xs ++ [a,b,c,d]).length) : (xs ++ [a,b,c,d])[xs.length + 1 + 1 + 1] = d := by
 rw [List.getElem_append_right (by omega)]
 simp [show xs.length + 1 + 1 + 1 - xs.length = 3 by omega]
section
variable {s:List UInt8} {hp:List HObj} {lo:Nat}
theorem all_D (q:Bool) : callD G0 IP n_sx_all [.str s] hp lo q = some (.ret (outAll (pAll s)) hp) := by
 rw [callD_eq]
 by_cases hs : s.length ≤ 65536
 · have h1 : ¬ (65536:Int) < (s.length : Int) := by omega
   have h1' : ¬ s.length > 65536 := by omega
   have e2 : callD G0 IP n_sp_skip [.ptr hp.length 0] (PH hp s 0) hp.length false = some (.ret (.tup []) (PH hp s (skipN s 0))) := skip2_D (by omega) (Nat.le_refl _) 0 (by omega)
   have hk := skipN_le (s := s) (i := 0) (by omega)
   obtain ⟨ex,st',e3,e4⟩ := top2_L (hp := hp) (lo := hp.length) hs (Nat.le_refl _) (s.length + 1) (skipN s 0) [] [] hk.2 (by simp) (by simp) (by omega)
   simp [ownA,ownI] at e3
   simp only [pAll,if_neg h1']
   cases hx : pTop s (s.length + 1) (skipN s 0) [] [] with
   | err j e =>
     rw [hx] at e4
     obtain ⟨rfl,e5,v2,v3,v4,v5,g2,g3,g4,g5⟩ := e4
     have hr := recv_D (PH hp s j) v2 v3 v4 v5 j e hp.length (by rw [PH_len]; omega)
     simp [-evalRecv,IP_sx_all,i_sx_all,h1,PH_fold,e2,e3,e5,g2,g3,g4,g5,hr,outAll,get4_2,get4_3]
   | ok l st =>
     rw [hx] at e4
     obtain ⟨rfl,rfl⟩ := e4
     simp [-evalRecv,IP_sx_all,i_sx_all,h1,PH_fold,e2,e3,recv0_D,outAll,get4_2,get4_3,S.avs_closed,ints_closed]
 · have h1 : (65536:Int) < (s.length : Int) := by omega
   have h1' : s.length > 65536 := by omega
   simp [IP_sx_all,i_sx_all,h1,pAll,h1',outAll]
end
end Go.Proofs.YtkofimhnehkdoaaGreatDoor.Rf
end
section
namespace Go.Proofs.YtkofimhnehkdoaaGreatDoor.Rf
theorem top_err (s:List UInt8) : ∀ n i acc st j e,pTop s n i acc st = .err j e → ¬ e = 0
 | 0,i,acc,st,j,e,h => by simp [pTop] at h
 | n + 1,i,acc,st,j,e,h => by
   simp only [pTop] at h
   split at h
   · split at h
     · rename_i hx; cases h; exact perr_ne s _ _ _ _ _ hx
     · exact top_err s n _ _ _ _ _ h
   · cases h
theorem pAll_err {s:List UInt8} {j:Nat} {e:Int} (h:pAll s = .err j e) : ¬ e = 0 := by
 unfold pAll at h
 split at h
 · cases h; simp
 · exact top_err s _ _ _ _ _ _ h
section
variable {s:List UInt8} {hp:List HObj} {lo:Nat}
theorem parseAll2_D (q:Bool) : callD G0 IP n_sx_ParseAll [.str s] hp lo q = some (.ret (outA (fun l => ownB l.isEmpty) (pAll s)) hp) := by
 rw [callD_eq]
 have e1 : ∀ q,callD G0 IP n_sx_all [.str s] hp hp.length q = some (.ret (outAll (pAll s)) hp) := fun q => all_D q
 cases hx : pAll s with
 | err j e =>
   simp only [hx,outAll] at e1
   simp [IP_sx_ParseAll,i_sx_ParseAll,e1,outA]
 | ok l st =>
   simp only [hx,outAll] at e1
   simp [IP_sx_ParseAll,i_sx_ParseAll,e1,outA,S.avs_closed]
end
end Go.Proofs.YtkofimhnehkdoaaGreatDoor.Rf
end
section
namespace Go.Proofs.YtkofimhnehkdoaaGreatDoor.Rf
section
variable {hp:List HObj} {lo:Nat}
end
theorem p_wf (s : List UInt8) (hs:s.length ≤ 65536) : ∀ n,(∀ i d x j,i < s.length → pOne s n i d = .ok x j → x.wf) ∧ (∀ i d acc j acc',i ≤ s.length → acc.length ≤ i → (∀ t,t ∈ acc → t.wf) → pLoop s n i d acc = .stop j acc' → ∀ t,t ∈ acc' → t.wf)
 | 0 => ⟨fun i d x j hi h => by simp [pOne] at h,fun i d acc j acc' hi ha hw h => by simp [pLoop] at h; obtain ⟨_,rfl⟩ := h; exact hw⟩
 | n + 1 => by
   obtain ⟨h1,h2⟩ := p_wf s hs n
   refine ⟨fun i d x j hi h => ?_,fun i d acc j acc' hi ha hw h => ?_⟩
   · simp only [pOne] at h
     have hk := skipN_le (s := s) (i := i + 1) (by omega)
     split at h
     · split at h
       · cases h
       · split at h
         · cases h
         · rename_i j' acc' hl
           have hle := (p_le s n).2 _ _ _ _ _ hk.2 (by simp) hl
           have hw := h2 _ _ _ _ _ hk.2 (by simp) (by simp) hl
           split at h
           · cases h
           · cases h
             rw [S.wf_eq]
             simp only [S.atom,S.list,S.o]
             exact ⟨by simp,by omega,by simp,hw⟩
     · split at h
       · split at h
         · cases h
         · cases h
           rw [S.wf_eq]
           simp only [S.atom,S.list,S.o]
           exact ⟨by simp; omega,by simp,by simp,by simp⟩
       · cases h
   · simp only [pLoop] at h
     split at h
     · rename_i hlt
       split at h
       · cases h; exact hw
       · split at h
         · cases h
         · rename_i x j' ho
           have hj := (p_le s n).1 _ _ _ _ hlt ho
           have hk := skipN_le (s := s) (i := j') (by omega)
           refine h2 _ _ _ _ _ hk.2 (by simp; omega) (fun t ht => ?_) h
           rcases List.mem_append.1 ht with ht | ht
           · exact hw t ht
           · simp at ht; subst ht; exact h1 _ _ _ _ hlt ho
     · cases h; exact hw
theorem top_wf (s:List UInt8) (hs:s.length ≤ 65536) : ∀ n i acc st l st',i ≤ s.length → acc.length ≤ i → (∀ t,t ∈ acc → t.wf) → pTop s n i acc st = .ok l st' → (∀ t,t ∈ l → t.wf) ∧ l.length ≤ s.length
 | 0,i,acc,st,l,st',hi,ha,hw,h => by simp [pTop] at h; obtain ⟨rfl,rfl⟩ := h; exact ⟨hw,by omega⟩
 | n + 1,i,acc,st,l,st',hi,ha,hw,h => by
   simp only [pTop] at h
   split at h
   · rename_i hlt
     split at h
     · cases h
     · rename_i x j hx
       have hj := (p_le s _).1 _ _ _ _ hlt hx
       have hk := skipN_le (s := s) (i := j) (by omega)
       refine top_wf s hs n _ _ _ _ _ hk.2 (by simp; omega) (fun t ht => ?_) h
       rcases List.mem_append.1 ht with ht | ht
       · exact hw t ht
       · simp at ht; subst ht; exact (p_wf s hs _).1 _ _ _ _ hlt hx
   · cases h; exact ⟨hw,by omega⟩
theorem pAll_wf {s:List UInt8} {l:List S} {st:List Nat} (h:pAll s = .ok l st) : (∀ t,t ∈ l → t.wf) ∧ l.length ≤ 65536 := by
 unfold pAll at h
 split at h
 · cases h
 · have hk := skipN_le (s := s) (i := 0) (by omega)
   have := top_wf s (by omega) _ _ _ _ _ _ hk.2 (by simp) (by simp) h
   exact ⟨this.1,by omega⟩
end Go.Proofs.YtkofimhnehkdoaaGreatDoor.Rf
end
section
namespace Go.Proofs.YtkofimhnehkdoaaGreatDoor.Rf
mutual
def S.fit : S → Prop
 | .mk a _ l => a.length ≤ 65536 ∧ l.length ≤ 65536 ∧ (a ≠ [] → l = []) ∧ S.fits l
def S.fits : List S → Prop
 | [] => True
 | t :: r => t.fit ∧ S.fits r
end
theorem S.fits_iff : ∀ l : List S,S.fits l ↔ ∀ t,t ∈ l → t.fit
 | [] => by simp [S.fits]
 | t :: r => by simp [S.fits,S.fits_iff r]
theorem S.fit_eq (t:S) : t.fit ↔ t.atom.length ≤ 65536 ∧ t.list.length ≤ 65536 ∧ (t.atom ≠ [] → t.list = []) ∧ ∀ u,u ∈ t.list → u.fit := by
 cases t; simp only [S.fit,S.atom,S.list,S.fits_iff]
theorem p_fit (s:List UInt8) (hs:s.length ≤ 65536) : ∀ n,(∀ i d x j,i < s.length → pOne s n i d = .ok x j → x.fit) ∧ (∀ i d acc j acc',i ≤ s.length → acc.length ≤ i → (∀ t,t ∈ acc → t.fit) → pLoop s n i d acc = .stop j acc' → ∀ t,t ∈ acc' → t.fit)
 | 0 => ⟨fun i d x j hi h => by simp [pOne] at h,fun i d acc j acc' hi ha hw h => by simp [pLoop] at h; obtain ⟨_,rfl⟩ := h; exact hw⟩
 | n + 1 => by
   obtain ⟨h1,h2⟩ := p_fit s hs n
   refine ⟨fun i d x j hi h => ?_,fun i d acc j acc' hi ha hw h => ?_⟩
   · simp only [pOne] at h
     have hk := skipN_le (s := s) (i := i + 1) (by omega)
     split at h
     · split at h
       · cases h
       · split at h
         · cases h
         · rename_i j' acc' hl
           have hle := (p_le s n).2 _ _ _ _ _ hk.2 (by simp) hl
           have hw := h2 _ _ _ _ _ hk.2 (by simp) (by simp) hl
           split at h
           · cases h
           · cases h
             rw [S.fit_eq]
             simp only [S.atom,S.list,S.o]
             exact ⟨by simp,by omega,by simp,hw⟩
     · split at h
       · split at h
         · cases h
         · cases h
           rw [S.fit_eq]
           simp only [S.atom,S.list,S.o]
           exact ⟨by simp; omega,by simp,by simp,by simp⟩
       · cases h
   · simp only [pLoop] at h
     split at h
     · rename_i hlt
       split at h
       · cases h; exact hw
       · split at h
         · cases h
         · rename_i x j' ho
           have hj := (p_le s n).1 _ _ _ _ hlt ho
           have hk := skipN_le (s := s) (i := j') (by omega)
           refine h2 _ _ _ _ _ hk.2 (by simp; omega) (fun t ht => ?_) h
           rcases List.mem_append.1 ht with ht | ht
           · exact hw t ht
           · simp at ht; subst ht; exact h1 _ _ _ _ hlt ho
     · cases h; exact hw
theorem top_fit (s:List UInt8) (hs:s.length ≤ 65536) : ∀ n i acc st l st',i ≤ s.length → acc.length ≤ i → (∀ t,t ∈ acc → t.fit) → pTop s n i acc st = .ok l st' → (∀ t,t ∈ l → t.fit)
 | 0,i,acc,st,l,st',hi,ha,hw,h => by simp [pTop] at h; obtain ⟨rfl,rfl⟩ := h; exact hw
 | n + 1,i,acc,st,l,st',hi,ha,hw,h => by
   simp only [pTop] at h
   split at h
   · rename_i hlt
     split at h
     · cases h
     · rename_i x j hx
       have hj := (p_le s _).1 _ _ _ _ hlt hx
       have hk := skipN_le (s := s) (i := j) (by omega)
       refine top_fit s hs n _ _ _ _ _ hk.2 (by simp; omega) (fun t ht => ?_) h
       rcases List.mem_append.1 ht with ht | ht
       · exact hw t ht
       · simp at ht; subst ht; exact (p_fit s hs _).1 _ _ _ _ hlt hx
   · cases h; exact hw
theorem pAll_fit {s:List UInt8} {l:List S} {st:List Nat} (h:pAll s = .ok l st) : ∀ t,t ∈ l → t.fit := by
 unfold pAll at h
 split at h
 · cases h
 · have hk := skipN_le (s := s) (i := 0) (by omega)
   exact top_fit s (by omega) _ _ _ _ _ _ hk.2 (by simp) (by simp) h
def refsS : List S → Option (List Int)
 | [] => some []
 | x :: r => if (intE x.atom).2 = 0 then (match refsS r with | some l => some ((intE x.atom).1 :: l) | none => none) else none
def ownN (acc:List Int) : Own := if acc.isEmpty then .nil else .own 1 0
@[simp] theorem ownN_cp (acc:List Int) : (ownN acc).cp = ownB acc.isEmpty := by cases acc <;> rfl
@[simp] theorem ownN_app (acc:List Int) (x:Int) : ownN (acc ++ [x]) = .own 1 0 := by cases acc <;> rfl
theorem ownN_ok (acc:List Int) : ownN acc = .nil ∨ ownN acc = .own 1 0 := by cases acc <;> simp [ownN]
theorem i64s_app (a b:List Int) : i64s (a ++ b) = i64s a ++ i64s b := by simp [i64s]
@[simp] theorem i64s_nil : i64s [] = [] := rfl
theorem i64s_one (x:Int) : i64s [x] = [.int .i64 x] := rfl
theorem i64s_closed (n:Nat) : ∀ l : List Int,AV.closedL n (i64s l) = true
 | [] => rfl
 | x :: r => by have := i64s_closed n r; simp only [i64s] at this; simp [i64s,AV.closedL,AV.closed,this]
@[simp] theorem okSize_i64s (l:List Int) : okSize 1 (i64s l) = true := by cases l <;> simp [i64s]
def outR (e:S) (hp:List HObj) (acc:List Int) : Option (List Int) → Ex × St
 | none => (.ret,⟨[(2,.list [] .nil),(3,.bool false)],hp⟩)
 | some l => (.exit 0,⟨[(1,.box [.str e.atom,.list (S.avs e.list) (ownB e.o)]),(4,.list (i64s (acc ++ l)) (ownN (acc ++ l))),(5,.int .i64 e.list.length),(15,.bool false)],hp⟩)
section
variable {hp:List HObj} {lo:Nat}
theorem refs36_L (e:S) (he:e.fit) : ∀ (r p:List S) (acc:List Int),e.list = p ++ r → acc.length ≤ p.length →
   loopD G0 IP lo l_sr36_refs_0 ⟨[(1,.box [.str e.atom,.list (S.avs e.list) (ownB e.o)]),(4,.list (i64s acc) (ownN acc)),(5,.int .i64 p.length)],hp⟩ = some (outR e hp acc (refsS r))
 | [],p,acc,h,ha => by
   rw [loopD_eq,loopBody]
   simp at h
   simp [l_sr36_refs_0,refsS,outR,h]
 | x :: r,p,acc,h,ha => by
   rw [loopD_eq,loopBody]
   have hf := (S.fit_eq e).1 he
   have hlen : e.list.length = p.length + (r.length + 1) := by rw [h]; simp
   have h1 : (p.length : Int) < (e.list.length : Int) := by omega
   have hl : p.length < e.list.length := by omega
   have h2 : e.list[p.length] = x := by simp [h]
   have hx := (S.fit_eq x).1 (hf.2.2.2 x (by rw [h]; simp))
   have hw : IntKind.wrap .i64 ((p.length : Int) + 1) = (p.length : Int) + 1 := wrap_small (by omega) (by omega)
   have e1 := fun (l:List AV) (o:Own) => number36_D x.atom (by omega) l o hp lo false
   have ih := refs36_L e he r (p ++ [x]) (acc ++ [(intE x.atom).1]) (by rw [h]; simp) (by simp; omega)
   simp only [List.length_append,List.length_cons,List.length_nil,Nat.zero_add,Int.natCast_add,Int.natCast_one] at ih
   have hb1 : (acc.length + 1) * 8 ≤ 140737488355328 := by omega
   have hb2 : acc.length + 1 ≤ 9223372036854775807 := by omega
   rw [refsS]
   by_cases hz : (intE x.atom).2 = 0
   · rw [if_pos hz]
     have hout : outR e hp acc (match refsS r with | some l => some ((intE x.atom).1 :: l) | none => none) = outR e hp (acc ++ [(intE x.atom).1]) (refsS r) := by
       cases refsS r <;> simp [outR]
     rw [hout]
     rw [i64s_app,i64s_one,ownN_app] at ih
     simp [l_sr36_refs_0,hl,h1,h2,S.av_eq x,e1,hz,hw,hb1,hb2,ownN_ok]
     exact ih
   · rw [if_neg hz]
     simp [l_sr36_refs_0,hl,h1,h2,S.av_eq x,e1,hz,outR]
def refsE (e:S) : Option (List Int) := if e.atom ≠ [] then none else refsS e.list
theorem refs36_D (e:S) (he:e.fit) (hp:List HObj) (lo:Nat) (q:Bool) : callD G0 IP n_sr36_refs [e.av] hp lo q = some (.ret (match refsE e with | some l => .tup [.list (i64s l) (ownN l),.bool true] | none => .tup [.list [] .nil,.bool false]) hp) := by
 rw [callD_eq,S.av_eq]
 by_cases h0 : e.atom = []
 · have e1 := refs36_L (hp := hp) (lo := hp.length) e he e.list [] [] rfl (by simp)
   have hr : refsE e = refsS e.list := by simp [refsE,h0]
   rw [hr]
   simp [ownN,h0] at e1
   cases hx : refsS e.list with
   | none =>
     rw [hx] at e1
     simp only [outR] at e1
     simp [IP_sr36_refs,i_sr36_refs,h0,e1]
   | some l =>
     rw [hx] at e1
     simp only [outR,List.nil_append] at e1
     simp [IP_sr36_refs,i_sr36_refs,h0,e1,i64s_closed]
 · have hr : refsE e = none := by simp [refsE,h0]
   rw [hr]
   simp [IP_sr36_refs,i_sr36_refs,h0]
end
end Go.Proofs.YtkofimhnehkdoaaGreatDoor.Rf
end
section
namespace Go.Proofs.YtkofimhnehkdoaaGreatDoor.Rf
def pairB (x:S) : Bool := decide (x.list.length = 2) && !decide ((x.list.getD 0 (.mk [] true [])).atom = [])
def namedB (e:S) : Bool := e.list.all pairB && decide (e.atom = [])
section
variable {hp:List HObj} {lo:Nat}
theorem named_D (e:S) (he:e.fit) (hp:List HObj) (lo:Nat) (q:Bool) : callD G0 IP n_sr36_named [e.av] hp lo q = some (.ret (.bool (namedB e)) hp) := by
 have hf := (S.fit_eq e).1 he
 rw [callD_eq,S.av_eq]
 have hpair : ∀ (i:Nat) (hi:i < e.list.length),pairB e.list[i] = false → evalC G0 (callD G0 IP) (loopD G0 IP hp.length) hp.length l_sr36_named_0 ⟨[(1,.box [.str e.atom,.list (S.avs e.list) (ownB e.o)]),(3,.int .i64 i)],hp⟩ = some (.ret,⟨[(2,.bool false)],hp⟩) := by
   intro i hi hb
   have hI : (i:Int) < (e.list.length : Int) := by omega
   by_cases h2 : e.list[i].list.length = 2
   · match hl : e.list[i].list,h2 with
     | [a,b],_ =>
       have ha : a.atom = [] := by simpa [pairB,hl] using hb
       simp [l_sr36_named_0,hi,hI,S.av_eq e.list[i],hl,S.avs,S.av_eq a,S.av_eq b,ha]
   · have h2' : ¬ (e.list[i].list.length : Int) = 2 := by omega
     simp [l_sr36_named_0,hi,hI,S.av_eq e.list[i],h2']
 have hgood : ∀ (i:Nat) (hi:i < e.list.length),pairB e.list[i] = true → evalC G0 (callD G0 IP) (loopD G0 IP hp.length) hp.length l_sr36_named_0 ⟨[(1,.box [.str e.atom,.list (S.avs e.list) (ownB e.o)]),(3,.int .i64 i)],hp⟩ = some (.normal,⟨[(1,.box [.str e.atom,.list (S.avs e.list) (ownB e.o)]),(3,.int .i64 ((i + 1 : Nat) : Int))],hp⟩) := by
   intro i hi hb
   have hI : (i:Int) < (e.list.length : Int) := by omega
   have hw : IntKind.wrap .i64 ((i:Int) + 1) = (i:Int) + 1 := wrap_small (by omega) (by omega)
   simp only [pairB,Bool.and_eq_true,decide_eq_true_eq,Bool.not_eq_true',decide_eq_false_iff_not] at hb
   obtain ⟨h2,ha⟩ := hb
   match hl : e.list[i].list,h2 with
   | [a,b],_ =>
     rw [hl] at ha
     have ha : ¬ a.atom = [] := by simpa using ha
     simp [l_sr36_named_0,hi,hI,S.av_eq e.list[i],hl,S.avs,S.av_eq a,S.av_eq b,ha,hw]
 have hloop := loop_find (G := G0) (IP := IP) (lo := hp.length) (b := l_sr36_named_0)
   (fun i => ⟨[(1,.box [.str e.atom,.list (S.avs e.list) (ownB e.o)]),(3,.int .i64 i)],hp⟩) e.list.length (fun i => !pairB (e.list.getD i (.mk [] true [])))
   (.ret,⟨[(2,.bool false)],hp⟩) (.exit 0,⟨[(1,.box [.str e.atom,.list (S.avs e.list) (ownB e.o)]),(3,.int .i64 e.list.length),(8,.bool false)],hp⟩)
   (fun i hi hp1 => hgood i hi (by simpa [hi] using hp1))
   (fun i hi hp1 => hpair i hi (by simpa [hi] using hp1))
   (fun s => by simp) (by simp [l_sr36_named_0]) (fun s => by simp)
 have hall : ((List.range e.list.length).any fun i => !pairB (e.list.getD i (.mk [] true []))) = !(e.list.all pairB) := by
   have : ∀ l : List S,((List.range l.length).any fun i => !pairB (l.getD i (.mk [] true []))) = !(l.all pairB) := by
     intro l
     induction l with
     | nil => rfl
     | cons x r ih => rw [List.length_cons,List.range_succ_eq_map]; simp only [List.any_cons,List.any_map,Function.comp_def,List.all_cons]; simp only [List.getD_cons_zero,List.getD_cons_succ]; rw [ih]; cases pairB x <;> simp
   exact this e.list
 rw [hall] at hloop
 simp only [Int.natCast_zero] at hloop
 cases ha : e.list.all pairB with
 | false =>
   rw [ha] at hloop
   simp only [Bool.not_false,if_true] at hloop
   simp [IP_sr36_named,i_sr36_named,hloop,namedB,ha]
 | true =>
   rw [ha] at hloop
   simp only [Bool.not_true,Bool.false_eq_true,if_false] at hloop
   simp [IP_sr36_named,i_sr36_named,hloop,namedB,ha]
   cases e.atom <;> simp
end
end Go.Proofs.YtkofimhnehkdoaaGreatDoor.Rf
end
section
namespace Go.Proofs.YtkofimhnehkdoaaGreatDoor.Rf
def opN : List (List UInt8) := [[],[118,97,114],[99,111,110,115,116],[110,111,116],[110,101,103],[97,110,100],[111,114],[120,111,114],[97,100,100],[115,117,98],[109,117,108],[117,100,105,118],[117,114,101,109],[115,104,108],[108,115,104,114],[97,115,104,114],[101,113],[117,108,116],[115,108,116],[105,116,101],[99,111,110,99,97,116],[101,120,116,114,97,99,116],[122,101,120,116],[115,101,120,116],[104,111,108,101],[110,117,109],[101,118,97,108]]
theorem g_0_eq : g_0 = opN.map AV.str := rfl
theorem g_0_len : g_0.length = 27 := rfl
def nm (n:Nat) : List UInt8 := opN.getD n []
theorem g_0_at {n:Nat} (h:n < 27) : (g_0.drop n).take 1 = [AV.str (nm n)] := by
 rw [g_0_eq,List.drop_eq_getElem_cons (by simpa [opN] using h)]
 simp [nm,List.getD,show n < opN.length by simpa [opN] using h]
def opOk (op:Int) : Bool := decide (1 ≤ op) && decide (op ≤ 26)
theorem opOk_cases {op:Int} (h:opOk op = true) : op = 1 ∨ op = 2 ∨ op = 3 ∨ op = 4 ∨ op = 5 ∨ op = 6 ∨ op = 7 ∨ op = 8 ∨ op = 9 ∨ op = 10 ∨ op = 11 ∨ op = 12 ∨ op = 13 ∨ op = 14 ∨ op = 15 ∨ op = 16 ∨ op = 17 ∨ op = 18 ∨ op = 19 ∨ op = 20 ∨ op = 21 ∨ op = 22 ∨ op = 23 ∨ op = 24 ∨ op = 25 ∨ op = 26 := by
 simp [opOk] at h; omega
theorem opOk_nat {op:Int} (h:opOk op = true) : ∃ n : Nat,op = n ∧ 1 ≤ n ∧ n ≤ 26 := by
 simp [opOk] at h; exact ⟨op.toNat,by omega,by omega,by omega⟩
def nameE (op:Int) : List UInt8 := if opOk op then nm op.toNat else []
def ofE (s:List UInt8) : Int × Bool := match (List.range 26).find? fun i => decide (nm (i + 1) = s) with | some i => (((i + 1 : Nat) : Int),true) | none => (0,false)
def arE (op:Int) : Int := if opOk op = false then -1 else if op = 1 ∨ op = 2 ∨ op = 24 ∨ op = 25 then 0 else if op = 3 ∨ op = 4 ∨ op = 21 ∨ op = 22 ∨ op = 23 ∨ op = 26 then 1 else if op = 19 then 3 else 2
def insE (w:Int) : Bool := decide (0 ≤ w) && decide (w ≤ 64)
def leafE (op w v:Int) : Int × Int := if insE w = false ∨ (op = 2 ∧ 0 < w ∧ 2 ^ w.toNat ≤ v) then (0,3) else (w,0)
def resE (op w v f:Int) : Int × Int := if w < 1 ∨ 64 < w ∨ f < 1 then (0,3) else if (op ≠ 21 ∧ w < f) ∨ (op = 21 ∧ (f < w ∨ f - w < v)) then (0,3) else (w,0)
def widE (op w v:Int) (as:List Int) : Int × Int :=
 if opOk op = false ∨ (as.length : Int) ≠ arE op then (0,4) else
 if as.all insE = false then (0,3) else
 if op = 1 ∨ op = 2 ∨ op = 24 ∨ op = 25 then leafE op w v else
 if op = 3 ∨ op = 4 ∨ op = 26 then (as.getD 0 0,0) else
 if op = 21 ∨ op = 22 ∨ op = 23 then resE op w v (as.getD 0 0) else
 if op = 19 then (if as.getD 0 0 = 1 ∧ as.getD 1 0 = as.getD 2 0 then (as.getD 1 0,0) else (0,3)) else
 if op = 20 then (if 1 ≤ as.getD 0 0 ∧ 1 ≤ as.getD 1 0 ∧ as.getD 0 0 + as.getD 1 0 ≤ 64 then (as.getD 0 0 + as.getD 1 0,0) else (0,3)) else
 if op = 16 ∨ op = 17 ∨ op = 18 then (if as.getD 0 0 = as.getD 1 0 then (1,0) else (0,3)) else
 if as.getD 0 0 = as.getD 1 0 then (as.getD 0 0,0) else (0,3)
section
variable {hp:List HObj} {lo:Nat} (q:Bool)
theorem known_D (op:Int) : callD G0 IP n_oi_known [.int .i64 op] hp lo q = some (.ret (.bool (opOk op)) hp) := by
 rw [callD_eq]
 by_cases h : 1 ≤ op
 · by_cases h2 : op ≤ 26 <;> simp [IP_oi_known,i_oi_known,opOk,h,h2]
 · simp [IP_oi_known,i_oi_known,opOk,h]
theorem opOf_D (s:List UInt8) : callD G0 IP n_oi_Of [.str s] hp lo q = some (.ret (.tup [.int .i64 (ofE s).1,.bool (ofE s).2]) hp) := by
 rw [callD_eq]
 have hloop := loop_some (G := G0) (IP := IP) (lo := hp.length) (b := l_oi_Of_0)
   (fun i => ⟨[(0,.str s),(4,.int .i64 ((i:Int) + 1))],hp⟩) 26 (fun i => decide (nm (i + 1) = s)) (fun i => (.ret,⟨[(2,.int .i64 ((i:Int) + 1)),(3,.bool true)],hp⟩))
   (.exit 0,⟨[(0,.str s),(4,.int .i64 27),(6,.bool false)],hp⟩)
   (fun i hi hp => by
     have e1 : (i:Int) + 1 ≤ 26 := by omega
     have e2 : (0:Int) ≤ (i:Int) + 1 := by omega
     have e3 : (i:Int) + 1 < 27 := by omega
     have e4 : i + 1 + 1 ≤ 27 := by omega
     have e5 : IntKind.wrap .i64 ((i:Int) + 1 + 1) = (i:Int) + 1 + 1 := wrap_small (by omega) (by omega)
     have e6 : ((i:Int) + 1).toNat = i + 1 := by omega
     simp only [decide_eq_false_iff_not] at hp
     simp [l_oi_Of_0,G0_0,e1,e2,e3,e4,e5,e6,g_0_at (show i + 1 < 27 by omega),g_0_len,hp])
   (fun i hi hp => by
     have e1 : (i:Int) + 1 ≤ 26 := by omega
     have e2 : (0:Int) ≤ (i:Int) + 1 := by omega
     have e3 : (i:Int) + 1 < 27 := by omega
     have e4 : i + 1 + 1 ≤ 27 := by omega
     have e6 : ((i:Int) + 1).toNat = i + 1 := by omega
     simp only [decide_eq_true_eq] at hp
     simp [l_oi_Of_0,G0_0,e1,e2,e3,e4,e6,g_0_at (show i + 1 < 27 by omega),g_0_len,hp])
   (fun i s => by simp) (by simp [l_oi_Of_0]) (by simp)
 simp only [Int.natCast_zero,Int.zero_add] at hloop
 rcases hloop with ⟨m,hm,hp1,hp2,hl⟩ | ⟨hno,hl⟩
 · have hf : (List.range 26).find? (fun i => decide (nm (i + 1) = s)) = some m := by
     rw [List.find?_range_eq_some]
     exact ⟨hp1,by simpa using hm,fun j hj => by simpa using hp2 j hj⟩
   have he : ofE s = (((m + 1 : Nat) : Int),true) := by simp [ofE,hf]
   simp [IP_oi_Of,i_oi_Of,hl,he]
 · have hf : (List.range 26).find? (fun i => decide (nm (i + 1) = s)) = none := by
     rw [List.find?_eq_none]
     intro i hi; simp at hi; have := hno i hi; simpa using this
   have he : ofE s = (0,false) := by simp [ofE,hf]
   simp [IP_oi_Of,i_oi_Of,hl,he]
theorem arity_D (op:Int) : callD G0 IP n_oi_Arity [.int .i64 op] hp lo q = some (.ret (.int .i64 (arE op)) hp) := by
 rw [callD_eq]
 cases h : opOk op with
 | true =>
   rcases opOk_cases h with rfl | rfl | rfl | rfl | rfl | rfl | rfl | rfl | rfl | rfl | rfl | rfl | rfl | rfl | rfl | rfl | rfl | rfl | rfl | rfl | rfl | rfl | rfl | rfl | rfl | rfl
   all_goals simp [IP_oi_Arity,i_oi_Arity,arE,opOk,show IntKind.wrap .i64 1 = 1 from rfl,show IntKind.wrap .i64 2 = 2 from rfl,show IntKind.wrap .i64 3 = 3 from rfl]
 | false =>
   have hk : ∀ k : Int,1 ≤ k → k ≤ 26 → (op = k) = False := fun k h1 h2 => by
     simp only [eq_iff_iff,iff_false]; intro e; subst e; simp [opOk] at h; omega
   simp [IP_oi_Arity,i_oi_Arity,arE,h,hk]
theorem opLeaf_D (op:Int) : callD G0 IP n_oi_Leaf [.int .i64 op] hp lo q = some (.ret (.bool (decide (arE op = 0))) hp) := by
 rw [callD_eq]
 simp [IP_oi_Leaf,i_oi_Leaf,arity_D]
theorem inside_D (w:Int) : callD G0 IP n_oi_inside [.int .i64 w] hp lo q = some (.ret (.bool (insE w)) hp) := by
 rw [callD_eq]
 by_cases h : 0 ≤ w
 · by_cases h2 : w ≤ 64 <;> simp [IP_oi_inside,i_oi_inside,insE,h,h2]
 · simp [IP_oi_inside,i_oi_inside,insE,h]
theorem agreed_D (ok:Bool) (r:Int) : callD G0 IP n_oi_agreed [.bool ok,.int .i64 r] hp lo q = some (.ret (.tup [.int .i64 (if ok then r else 0),.int .i64 (if ok then 0 else 3)]) hp) := by
 rw [callD_eq]
 cases ok <;> simp [IP_oi_agreed,i_oi_agreed]
end
end Go.Proofs.YtkofimhnehkdoaaGreatDoor.Rf
end
section
namespace Go.Proofs.YtkofimhnehkdoaaGreatDoor.Rf
theorem fdiv_pow {v:Int} (h0:0 ≤ v) {w:Nat} : (v.fdiv (2 ^ w) = 0) ↔ v < 2 ^ w := by
 have hp : (0:Int) < 2 ^ w := Int.pow_pos (by omega)
 rw [Int.fdiv_eq_ediv_of_nonneg _ (by omega)]
 constructor
 · intro h
   have := Int.lt_ediv_add_one_mul_self v hp
   rw [h] at this; simpa using this
 · intro h; exact Int.ediv_eq_zero_of_lt h0 h
section
variable {hp:List HObj} {lo:Nat} (q:Bool)
theorem opLeafW_D (op w v:Int) (hv:0 ≤ v) : callD G0 IP n_oi_leaf [.int .i64 op,.int .i64 w,.int .u64 v] hp lo q = some (.ret (.tup [.int .i64 (leafE op w v).1,.int .i64 (leafE op w v).2]) hp) := by
 rw [callD_eq]
 cases hi : insE w with
 | false => simp [IP_oi_leaf,i_oi_leaf,inside_D,hi,leafE]
 | true =>
   by_cases h1 : op = 2
   · by_cases h2 : 0 < w
     · have hw : w ≤ 64 := by simp [insE] at hi; exact hi.2
       have h3 : ¬ w < 0 := by omega
       have hm : min w.toNat 64 = w.toNat := by omega
       have hd := fdiv_pow hv (w := w.toNat)
       by_cases h4 : v < 2 ^ w.toNat
       · have h5 : ¬ (2:Int) ^ w.toNat ≤ v := by omega
         simp [IP_oi_leaf,i_oi_leaf,inside_D,hi,leafE,h1,h2,h3,IntKind.bits,hm,hd.2 h4,h5]
       · have h5 : (2:Int) ^ w.toNat ≤ v := by omega
         have h6 : ¬ v.fdiv (2 ^ w.toNat) = 0 := fun e => h4 (hd.1 e)
         simp [IP_oi_leaf,i_oi_leaf,inside_D,hi,leafE,h1,h2,h3,IntKind.bits,hm,h6,h5]
     · simp [IP_oi_leaf,i_oi_leaf,inside_D,hi,leafE,h1,h2]
   · simp [IP_oi_leaf,i_oi_leaf,inside_D,hi,leafE,h1]
theorem resized_D (op w v f:Int) (hf:f ≤ 64) (hv:0 ≤ v) : callD G0 IP n_oi_resized [.int .i64 op,.int .i64 w,.int .u64 v,.int .i64 f] hp lo q = some (.ret (.tup [.int .i64 (resE op w v f).1,.int .i64 (resE op w v f).2]) hp) := by
 rw [callD_eq]
 by_cases h1 : w < 1
 · simp [IP_oi_resized,i_oi_resized,resE,h1]
 · by_cases h2 : 64 < w
   · simp [IP_oi_resized,i_oi_resized,resE,h1,h2]
   · by_cases h3 : f < 1
     · simp [IP_oi_resized,i_oi_resized,resE,h1,h2,h3]
     · by_cases h4 : op = 21
       · by_cases h5 : f < w
         · simp [IP_oi_resized,i_oi_resized,resE,h1,h2,h3,h4,h5]
         · have e1 : IntKind.wrap .i64 (f - w) = f - w := wrap_small (by omega) (by omega)
           have e2 : IntKind.wrap .u64 (f - w) = f - w := wrapU_small (by omega) (by omega)
           by_cases h6 : f - w < v
           · simp [IP_oi_resized,i_oi_resized,resE,h1,h2,h3,h4,h5,h6,e1,e2]
           · simp [IP_oi_resized,i_oi_resized,resE,h1,h2,h3,h4,h5,h6,e1,e2]
       · by_cases h5 : w < f
         · simp [IP_oi_resized,i_oi_resized,resE,h1,h2,h3,h4,h5]
         · simp [IP_oi_resized,i_oi_resized,resE,h1,h2,h3,h4,h5]
theorem any_ins (as:List Int) : ((List.range as.length).any fun i => !insE (as.getD i 0)) = !as.all insE := by
 induction as with
 | nil => rfl
 | cons c r ih =>
   rw [List.length_cons,List.range_succ_eq_map]
   simp [List.any_map,Function.comp_def] at ih ⊢
   rw [ih]
end
end Go.Proofs.YtkofimhnehkdoaaGreatDoor.Rf
end
section
namespace Go.Proofs.YtkofimhnehkdoaaGreatDoor.Rf
section
variable {hp:List HObj} {lo:Nat} (q:Bool)
def wfr (op w v:Int) (as:List Int) (o:Own) (i:Nat) : Fr := [(0,.int .i64 op),(1,.int .i64 w),(2,.int .u64 v),(3,.list (as.map (AV.int .i64)) o),(22,.list (as.map (AV.int .i64)) o.cp),(23,.int .i64 as.length),(24,.int .i64 i)]
theorem width_loop (op w v:Int) (as:List Int) (o:Own) (ha:as.length ≤ 9223372036854775807) (hp:List HObj) (lo:Nat) : loopD G0 IP lo l_oi_Width_0 ⟨wfr op w v as o 0,hp⟩ =
   some (if as.all insE = false then (.ret,⟨[(8,.int .i64 0),(9,.int .i64 3)],hp⟩) else (.exit 0,⟨wfr op w v as o as.length ++ [(25,.bool false)],hp⟩)) := by
 have hloop := loop_find (G := G0) (IP := IP) (lo := lo) (b := l_oi_Width_0)
   (fun i => ⟨wfr op w v as o i,hp⟩) as.length (fun i => !insE (as.getD i 0))
   (.ret,⟨[(8,.int .i64 0),(9,.int .i64 3)],hp⟩)
   (.exit 0,⟨wfr op w v as o as.length ++ [(25,.bool false)],hp⟩)
   (fun i hi hp => by
     have hw := wrap_succ hi ha
     simp [List.getD,hi] at hp
     simp only [wfr]
     rw [← hw]
     simp [l_oi_Width_0,hi,inside_D,hp])
   (fun i hi hp => by
     simp [List.getD,hi] at hp
     simp [l_oi_Width_0,wfr,hi,inside_D,hp])
   (by simp) (by simp [l_oi_Width_0,wfr]) (by simp)
 rw [any_ins] at hloop
 rw [hloop]
 cases as.all insE <;> rfl
theorem width_bad (op w v:Int) (as:List Int) (o:Own) (h:opOk op = false ∨ (as.length : Int) ≠ arE op) : callD G0 IP n_oi_Width [.int .i64 op,.int .i64 w,.int .u64 v,.list (as.map (AV.int .i64)) o] hp lo q = some (.ret (.tup [.int .i64 0,.int .i64 4]) hp) := by
 rw [callD_eq]
 cases hk : opOk op with
 | false => simp [IP_oi_Width,i_oi_Width,known_D,hk]
 | true =>
   have hl : ¬ (as.length : Int) = arE op := by rcases h with h | h; rw [h] at hk; cases hk; exact h
   simp [IP_oi_Width,i_oi_Width,known_D,arity_D,hk,hl]
theorem width_out (op w v:Int) (as:List Int) (o:Own) (ha:as.length ≤ 9223372036854775807) (hk:opOk op = true) (hl:(as.length : Int) = arE op) (hall:as.all insE = false) : callD G0 IP n_oi_Width [.int .i64 op,.int .i64 w,.int .u64 v,.list (as.map (AV.int .i64)) o] hp lo q = some (.ret (.tup [.int .i64 0,.int .i64 3]) hp) := by
 rw [callD_eq]
 have hloop := width_loop op w v as o ha hp hp.length
 rw [if_pos hall] at hloop
 simp only [wfr,Int.natCast_zero,hl] at hloop
 simp [IP_oi_Width,i_oi_Width,known_D,arity_D,hk,hl,hloop]
theorem width_1 (w v:Int) (hv:0 ≤ v)  (o:Own) (hall:List.all [] insE = true) : callD G0 IP n_oi_Width [.int .i64 1,.int .i64 w,.int .u64 v,.list (([] : List Int).map (AV.int .i64)) o] hp lo q =
   some (.ret (.tup [.int .i64 (leafE 1 w v).1,.int .i64 (leafE 1 w v).2]) hp) := by
 rw [callD_eq]
 have hloop := width_loop 1 w v [] o (by simp) hp hp.length
 rw [if_neg (by simp [hall])] at hloop
 simp [wfr] at hloop
 have hk : opOk 1 = true := rfl
 have hb : arE 1 = 0 := rfl
 have e := fun (hp:List HObj) (lo:Nat) (q:Bool) => opLeafW_D (hp := hp) (lo := lo) q 1 w v hv
 simp [IP_oi_Width,i_oi_Width,known_D,arity_D,hk,hb,hloop,e]
theorem width_2 (w v:Int) (hv:0 ≤ v)  (o:Own) (hall:List.all [] insE = true) : callD G0 IP n_oi_Width [.int .i64 2,.int .i64 w,.int .u64 v,.list (([] : List Int).map (AV.int .i64)) o] hp lo q =
   some (.ret (.tup [.int .i64 (leafE 2 w v).1,.int .i64 (leafE 2 w v).2]) hp) := by
 rw [callD_eq]
 have hloop := width_loop 2 w v [] o (by simp) hp hp.length
 rw [if_neg (by simp [hall])] at hloop
 simp [wfr] at hloop
 have hk : opOk 2 = true := rfl
 have hb : arE 2 = 0 := rfl
 have e := fun (hp:List HObj) (lo:Nat) (q:Bool) => opLeafW_D (hp := hp) (lo := lo) q 2 w v hv
 simp [IP_oi_Width,i_oi_Width,known_D,arity_D,hk,hb,hloop,e]
theorem width_24 (w v:Int) (hv:0 ≤ v)  (o:Own) (hall:List.all [] insE = true) : callD G0 IP n_oi_Width [.int .i64 24,.int .i64 w,.int .u64 v,.list (([] : List Int).map (AV.int .i64)) o] hp lo q =
   some (.ret (.tup [.int .i64 (leafE 24 w v).1,.int .i64 (leafE 24 w v).2]) hp) := by
 rw [callD_eq]
 have hloop := width_loop 24 w v [] o (by simp) hp hp.length
 rw [if_neg (by simp [hall])] at hloop
 simp [wfr] at hloop
 have hk : opOk 24 = true := rfl
 have hb : arE 24 = 0 := rfl
 have e := fun (hp:List HObj) (lo:Nat) (q:Bool) => opLeafW_D (hp := hp) (lo := lo) q 24 w v hv
 simp [IP_oi_Width,i_oi_Width,known_D,arity_D,hk,hb,hloop,e]
theorem width_25 (w v:Int) (hv:0 ≤ v)  (o:Own) (hall:List.all [] insE = true) : callD G0 IP n_oi_Width [.int .i64 25,.int .i64 w,.int .u64 v,.list (([] : List Int).map (AV.int .i64)) o] hp lo q =
   some (.ret (.tup [.int .i64 (leafE 25 w v).1,.int .i64 (leafE 25 w v).2]) hp) := by
 rw [callD_eq]
 have hloop := width_loop 25 w v [] o (by simp) hp hp.length
 rw [if_neg (by simp [hall])] at hloop
 simp [wfr] at hloop
 have hk : opOk 25 = true := rfl
 have hb : arE 25 = 0 := rfl
 have e := fun (hp:List HObj) (lo:Nat) (q:Bool) => opLeafW_D (hp := hp) (lo := lo) q 25 w v hv
 simp [IP_oi_Width,i_oi_Width,known_D,arity_D,hk,hb,hloop,e]
theorem width_3 (w v:Int) (hv:0 ≤ v) (a:Int) (o:Own) (hall:List.all [a] insE = true) : callD G0 IP n_oi_Width [.int .i64 3,.int .i64 w,.int .u64 v,.list (([a] : List Int).map (AV.int .i64)) o] hp lo q =
   some (.ret (.tup [.int .i64 (((a,0) : Int × Int)).1,.int .i64 (((a,0) : Int × Int)).2]) hp) := by
 rw [callD_eq]
 have hloop := width_loop 3 w v [a] o (by simp) hp hp.length
 rw [if_neg (by simp [hall])] at hloop
 simp [wfr] at hloop
 have hk : opOk 3 = true := rfl
 have hb : arE 3 = 1 := rfl
 simp [IP_oi_Width,i_oi_Width,known_D,arity_D,hk,hb,hloop]
theorem width_4 (w v:Int) (hv:0 ≤ v) (a:Int) (o:Own) (hall:List.all [a] insE = true) : callD G0 IP n_oi_Width [.int .i64 4,.int .i64 w,.int .u64 v,.list (([a] : List Int).map (AV.int .i64)) o] hp lo q =
   some (.ret (.tup [.int .i64 (((a,0) : Int × Int)).1,.int .i64 (((a,0) : Int × Int)).2]) hp) := by
 rw [callD_eq]
 have hloop := width_loop 4 w v [a] o (by simp) hp hp.length
 rw [if_neg (by simp [hall])] at hloop
 simp [wfr] at hloop
 have hk : opOk 4 = true := rfl
 have hb : arE 4 = 1 := rfl
 simp [IP_oi_Width,i_oi_Width,known_D,arity_D,hk,hb,hloop]
theorem width_26 (w v:Int) (hv:0 ≤ v) (a:Int) (o:Own) (hall:List.all [a] insE = true) : callD G0 IP n_oi_Width [.int .i64 26,.int .i64 w,.int .u64 v,.list (([a] : List Int).map (AV.int .i64)) o] hp lo q =
   some (.ret (.tup [.int .i64 (((a,0) : Int × Int)).1,.int .i64 (((a,0) : Int × Int)).2]) hp) := by
 rw [callD_eq]
 have hloop := width_loop 26 w v [a] o (by simp) hp hp.length
 rw [if_neg (by simp [hall])] at hloop
 simp [wfr] at hloop
 have hk : opOk 26 = true := rfl
 have hb : arE 26 = 1 := rfl
 simp [IP_oi_Width,i_oi_Width,known_D,arity_D,hk,hb,hloop]
theorem width_21 (w v:Int) (hv:0 ≤ v) (a:Int) (o:Own) (hall:List.all [a] insE = true) : callD G0 IP n_oi_Width [.int .i64 21,.int .i64 w,.int .u64 v,.list (([a] : List Int).map (AV.int .i64)) o] hp lo q =
   some (.ret (.tup [.int .i64 (resE 21 w v a).1,.int .i64 (resE 21 w v a).2]) hp) := by
 rw [callD_eq]
 have hloop := width_loop 21 w v [a] o (by simp) hp hp.length
 rw [if_neg (by simp [hall])] at hloop
 simp [wfr] at hloop
 have hk : opOk 21 = true := rfl
 have hb : arE 21 = 1 := rfl
 have ha64 : a ≤ 64 := by simp [insE] at hall; exact hall.2
 have e := fun (hp:List HObj) (lo:Nat) (q:Bool) => resized_D (hp := hp) (lo := lo) q 21 w v a ha64 hv
 simp [IP_oi_Width,i_oi_Width,known_D,arity_D,hk,hb,hloop,e]
theorem width_22 (w v:Int) (hv:0 ≤ v) (a:Int) (o:Own) (hall:List.all [a] insE = true) : callD G0 IP n_oi_Width [.int .i64 22,.int .i64 w,.int .u64 v,.list (([a] : List Int).map (AV.int .i64)) o] hp lo q =
   some (.ret (.tup [.int .i64 (resE 22 w v a).1,.int .i64 (resE 22 w v a).2]) hp) := by
 rw [callD_eq]
 have hloop := width_loop 22 w v [a] o (by simp) hp hp.length
 rw [if_neg (by simp [hall])] at hloop
 simp [wfr] at hloop
 have hk : opOk 22 = true := rfl
 have hb : arE 22 = 1 := rfl
 have ha64 : a ≤ 64 := by simp [insE] at hall; exact hall.2
 have e := fun (hp:List HObj) (lo:Nat) (q:Bool) => resized_D (hp := hp) (lo := lo) q 22 w v a ha64 hv
 simp [IP_oi_Width,i_oi_Width,known_D,arity_D,hk,hb,hloop,e]
theorem width_23 (w v:Int) (hv:0 ≤ v) (a:Int) (o:Own) (hall:List.all [a] insE = true) : callD G0 IP n_oi_Width [.int .i64 23,.int .i64 w,.int .u64 v,.list (([a] : List Int).map (AV.int .i64)) o] hp lo q =
   some (.ret (.tup [.int .i64 (resE 23 w v a).1,.int .i64 (resE 23 w v a).2]) hp) := by
 rw [callD_eq]
 have hloop := width_loop 23 w v [a] o (by simp) hp hp.length
 rw [if_neg (by simp [hall])] at hloop
 simp [wfr] at hloop
 have hk : opOk 23 = true := rfl
 have hb : arE 23 = 1 := rfl
 have ha64 : a ≤ 64 := by simp [insE] at hall; exact hall.2
 have e := fun (hp:List HObj) (lo:Nat) (q:Bool) => resized_D (hp := hp) (lo := lo) q 23 w v a ha64 hv
 simp [IP_oi_Width,i_oi_Width,known_D,arity_D,hk,hb,hloop,e]
theorem width_19 (w v:Int) (hv:0 ≤ v) (a:Int) (b:Int) (c:Int) (o:Own) (hall:List.all [a,b,c] insE = true) : callD G0 IP n_oi_Width [.int .i64 19,.int .i64 w,.int .u64 v,.list (([a,b,c] : List Int).map (AV.int .i64)) o] hp lo q =
   some (.ret (.tup [.int .i64 (if a = 1 ∧ b = c then ((b,0) : Int × Int) else (0,3)).1,.int .i64 (if a = 1 ∧ b = c then ((b,0) : Int × Int) else (0,3)).2]) hp) := by
 rw [callD_eq]
 have hloop := width_loop 19 w v [a,b,c] o (by simp) hp hp.length
 rw [if_neg (by simp [hall])] at hloop
 simp [wfr] at hloop
 have hk : opOk 19 = true := rfl
 have hb : arE 19 = 3 := rfl
 by_cases h1 : a = 1
 · subst h1
   by_cases h2 : b = c
   · subst h2
     simp [IP_oi_Width,i_oi_Width,known_D,arity_D,hk,hb,hloop,agreed_D]
   · simp [IP_oi_Width,i_oi_Width,known_D,arity_D,hk,hb,hloop,agreed_D,h2]
 · simp [IP_oi_Width,i_oi_Width,known_D,arity_D,hk,hb,hloop,agreed_D,h1]
theorem width_20 (w v:Int) (hv:0 ≤ v) (a:Int) (b:Int) (o:Own) (hall:List.all [a,b] insE = true) : callD G0 IP n_oi_Width [.int .i64 20,.int .i64 w,.int .u64 v,.list (([a,b] : List Int).map (AV.int .i64)) o] hp lo q =
   some (.ret (.tup [.int .i64 (if 1 ≤ a ∧ 1 ≤ b ∧ a + b ≤ 64 then ((a + b,0) : Int × Int) else (0,3)).1,.int .i64 (if 1 ≤ a ∧ 1 ≤ b ∧ a + b ≤ 64 then ((a + b,0) : Int × Int) else (0,3)).2]) hp) := by
 rw [callD_eq]
 have hloop := width_loop 20 w v [a,b] o (by simp) hp hp.length
 rw [if_neg (by simp [hall])] at hloop
 simp [wfr] at hloop
 have hk : opOk 20 = true := rfl
 have hb : arE 20 = 2 := rfl
 have ha : 0 ≤ a ∧ a ≤ 64 ∧ 0 ≤ b ∧ b ≤ 64 := by simp [insE] at hall; omega
 have e1 : IntKind.wrap .i64 (a + b) = a + b := wrap_small (by omega) (by omega)
 by_cases h1 : 1 ≤ a
 · by_cases h2 : 1 ≤ b
   · by_cases h3 : a + b ≤ 64
     · simp [IP_oi_Width,i_oi_Width,known_D,arity_D,hk,hb,hloop,agreed_D,h1,h2,h3,e1]
     · simp [IP_oi_Width,i_oi_Width,known_D,arity_D,hk,hb,hloop,agreed_D,h1,h2,h3,e1]
   · simp [IP_oi_Width,i_oi_Width,known_D,arity_D,hk,hb,hloop,agreed_D,h1,h2,e1]
 · simp [IP_oi_Width,i_oi_Width,known_D,arity_D,hk,hb,hloop,agreed_D,h1,e1]
theorem width_16 (w v:Int) (hv:0 ≤ v) (a:Int) (b:Int) (o:Own) (hall:List.all [a,b] insE = true) : callD G0 IP n_oi_Width [.int .i64 16,.int .i64 w,.int .u64 v,.list (([a,b] : List Int).map (AV.int .i64)) o] hp lo q =
   some (.ret (.tup [.int .i64 (if a = b then ((1,0) : Int × Int) else (0,3)).1,.int .i64 (if a = b then ((1,0) : Int × Int) else (0,3)).2]) hp) := by
 rw [callD_eq]
 have hloop := width_loop 16 w v [a,b] o (by simp) hp hp.length
 rw [if_neg (by simp [hall])] at hloop
 simp [wfr] at hloop
 have hk : opOk 16 = true := rfl
 have hb : arE 16 = 2 := rfl
 by_cases h1 : a = b
 · subst h1
   simp [IP_oi_Width,i_oi_Width,known_D,arity_D,hk,hb,hloop,agreed_D]
 · simp [IP_oi_Width,i_oi_Width,known_D,arity_D,hk,hb,hloop,agreed_D,h1]
theorem width_17 (w v:Int) (hv:0 ≤ v) (a:Int) (b:Int) (o:Own) (hall:List.all [a,b] insE = true) : callD G0 IP n_oi_Width [.int .i64 17,.int .i64 w,.int .u64 v,.list (([a,b] : List Int).map (AV.int .i64)) o] hp lo q =
   some (.ret (.tup [.int .i64 (if a = b then ((1,0) : Int × Int) else (0,3)).1,.int .i64 (if a = b then ((1,0) : Int × Int) else (0,3)).2]) hp) := by
 rw [callD_eq]
 have hloop := width_loop 17 w v [a,b] o (by simp) hp hp.length
 rw [if_neg (by simp [hall])] at hloop
 simp [wfr] at hloop
 have hk : opOk 17 = true := rfl
 have hb : arE 17 = 2 := rfl
 by_cases h1 : a = b
 · subst h1
   simp [IP_oi_Width,i_oi_Width,known_D,arity_D,hk,hb,hloop,agreed_D]
 · simp [IP_oi_Width,i_oi_Width,known_D,arity_D,hk,hb,hloop,agreed_D,h1]
theorem width_18 (w v:Int) (hv:0 ≤ v) (a:Int) (b:Int) (o:Own) (hall:List.all [a,b] insE = true) : callD G0 IP n_oi_Width [.int .i64 18,.int .i64 w,.int .u64 v,.list (([a,b] : List Int).map (AV.int .i64)) o] hp lo q =
   some (.ret (.tup [.int .i64 (if a = b then ((1,0) : Int × Int) else (0,3)).1,.int .i64 (if a = b then ((1,0) : Int × Int) else (0,3)).2]) hp) := by
 rw [callD_eq]
 have hloop := width_loop 18 w v [a,b] o (by simp) hp hp.length
 rw [if_neg (by simp [hall])] at hloop
 simp [wfr] at hloop
 have hk : opOk 18 = true := rfl
 have hb : arE 18 = 2 := rfl
 by_cases h1 : a = b
 · subst h1
   simp [IP_oi_Width,i_oi_Width,known_D,arity_D,hk,hb,hloop,agreed_D]
 · simp [IP_oi_Width,i_oi_Width,known_D,arity_D,hk,hb,hloop,agreed_D,h1]
theorem width_5 (w v:Int) (hv:0 ≤ v) (a:Int) (b:Int) (o:Own) (hall:List.all [a,b] insE = true) : callD G0 IP n_oi_Width [.int .i64 5,.int .i64 w,.int .u64 v,.list (([a,b] : List Int).map (AV.int .i64)) o] hp lo q =
   some (.ret (.tup [.int .i64 (if a = b then ((a,0) : Int × Int) else (0,3)).1,.int .i64 (if a = b then ((a,0) : Int × Int) else (0,3)).2]) hp) := by
 rw [callD_eq]
 have hloop := width_loop 5 w v [a,b] o (by simp) hp hp.length
 rw [if_neg (by simp [hall])] at hloop
 simp [wfr] at hloop
 have hk : opOk 5 = true := rfl
 have hb : arE 5 = 2 := rfl
 by_cases h1 : a = b
 · subst h1
   simp [IP_oi_Width,i_oi_Width,known_D,arity_D,hk,hb,hloop,agreed_D]
 · simp [IP_oi_Width,i_oi_Width,known_D,arity_D,hk,hb,hloop,agreed_D,h1]
theorem width_6 (w v:Int) (hv:0 ≤ v) (a:Int) (b:Int) (o:Own) (hall:List.all [a,b] insE = true) : callD G0 IP n_oi_Width [.int .i64 6,.int .i64 w,.int .u64 v,.list (([a,b] : List Int).map (AV.int .i64)) o] hp lo q =
   some (.ret (.tup [.int .i64 (if a = b then ((a,0) : Int × Int) else (0,3)).1,.int .i64 (if a = b then ((a,0) : Int × Int) else (0,3)).2]) hp) := by
 rw [callD_eq]
 have hloop := width_loop 6 w v [a,b] o (by simp) hp hp.length
 rw [if_neg (by simp [hall])] at hloop
 simp [wfr] at hloop
 have hk : opOk 6 = true := rfl
 have hb : arE 6 = 2 := rfl
 by_cases h1 : a = b
 · subst h1
   simp [IP_oi_Width,i_oi_Width,known_D,arity_D,hk,hb,hloop,agreed_D]
 · simp [IP_oi_Width,i_oi_Width,known_D,arity_D,hk,hb,hloop,agreed_D,h1]
theorem width_7 (w v:Int) (hv:0 ≤ v) (a:Int) (b:Int) (o:Own) (hall:List.all [a,b] insE = true) : callD G0 IP n_oi_Width [.int .i64 7,.int .i64 w,.int .u64 v,.list (([a,b] : List Int).map (AV.int .i64)) o] hp lo q =
   some (.ret (.tup [.int .i64 (if a = b then ((a,0) : Int × Int) else (0,3)).1,.int .i64 (if a = b then ((a,0) : Int × Int) else (0,3)).2]) hp) := by
 rw [callD_eq]
 have hloop := width_loop 7 w v [a,b] o (by simp) hp hp.length
 rw [if_neg (by simp [hall])] at hloop
 simp [wfr] at hloop
 have hk : opOk 7 = true := rfl
 have hb : arE 7 = 2 := rfl
 by_cases h1 : a = b
 · subst h1
   simp [IP_oi_Width,i_oi_Width,known_D,arity_D,hk,hb,hloop,agreed_D]
 · simp [IP_oi_Width,i_oi_Width,known_D,arity_D,hk,hb,hloop,agreed_D,h1]
theorem width_8 (w v:Int) (hv:0 ≤ v) (a:Int) (b:Int) (o:Own) (hall:List.all [a,b] insE = true) : callD G0 IP n_oi_Width [.int .i64 8,.int .i64 w,.int .u64 v,.list (([a,b] : List Int).map (AV.int .i64)) o] hp lo q =
   some (.ret (.tup [.int .i64 (if a = b then ((a,0) : Int × Int) else (0,3)).1,.int .i64 (if a = b then ((a,0) : Int × Int) else (0,3)).2]) hp) := by
 rw [callD_eq]
 have hloop := width_loop 8 w v [a,b] o (by simp) hp hp.length
 rw [if_neg (by simp [hall])] at hloop
 simp [wfr] at hloop
 have hk : opOk 8 = true := rfl
 have hb : arE 8 = 2 := rfl
 by_cases h1 : a = b
 · subst h1
   simp [IP_oi_Width,i_oi_Width,known_D,arity_D,hk,hb,hloop,agreed_D]
 · simp [IP_oi_Width,i_oi_Width,known_D,arity_D,hk,hb,hloop,agreed_D,h1]
theorem width_9 (w v:Int) (hv:0 ≤ v) (a:Int) (b:Int) (o:Own) (hall:List.all [a,b] insE = true) : callD G0 IP n_oi_Width [.int .i64 9,.int .i64 w,.int .u64 v,.list (([a,b] : List Int).map (AV.int .i64)) o] hp lo q =
   some (.ret (.tup [.int .i64 (if a = b then ((a,0) : Int × Int) else (0,3)).1,.int .i64 (if a = b then ((a,0) : Int × Int) else (0,3)).2]) hp) := by
 rw [callD_eq]
 have hloop := width_loop 9 w v [a,b] o (by simp) hp hp.length
 rw [if_neg (by simp [hall])] at hloop
 simp [wfr] at hloop
 have hk : opOk 9 = true := rfl
 have hb : arE 9 = 2 := rfl
 by_cases h1 : a = b
 · subst h1
   simp [IP_oi_Width,i_oi_Width,known_D,arity_D,hk,hb,hloop,agreed_D]
 · simp [IP_oi_Width,i_oi_Width,known_D,arity_D,hk,hb,hloop,agreed_D,h1]
theorem width_10 (w v:Int) (hv:0 ≤ v) (a:Int) (b:Int) (o:Own) (hall:List.all [a,b] insE = true) : callD G0 IP n_oi_Width [.int .i64 10,.int .i64 w,.int .u64 v,.list (([a,b] : List Int).map (AV.int .i64)) o] hp lo q =
   some (.ret (.tup [.int .i64 (if a = b then ((a,0) : Int × Int) else (0,3)).1,.int .i64 (if a = b then ((a,0) : Int × Int) else (0,3)).2]) hp) := by
 rw [callD_eq]
 have hloop := width_loop 10 w v [a,b] o (by simp) hp hp.length
 rw [if_neg (by simp [hall])] at hloop
 simp [wfr] at hloop
 have hk : opOk 10 = true := rfl
 have hb : arE 10 = 2 := rfl
 by_cases h1 : a = b
 · subst h1
   simp [IP_oi_Width,i_oi_Width,known_D,arity_D,hk,hb,hloop,agreed_D]
 · simp [IP_oi_Width,i_oi_Width,known_D,arity_D,hk,hb,hloop,agreed_D,h1]
theorem width_11 (w v:Int) (hv:0 ≤ v) (a:Int) (b:Int) (o:Own) (hall:List.all [a,b] insE = true) : callD G0 IP n_oi_Width [.int .i64 11,.int .i64 w,.int .u64 v,.list (([a,b] : List Int).map (AV.int .i64)) o] hp lo q =
   some (.ret (.tup [.int .i64 (if a = b then ((a,0) : Int × Int) else (0,3)).1,.int .i64 (if a = b then ((a,0) : Int × Int) else (0,3)).2]) hp) := by
 rw [callD_eq]
 have hloop := width_loop 11 w v [a,b] o (by simp) hp hp.length
 rw [if_neg (by simp [hall])] at hloop
 simp [wfr] at hloop
 have hk : opOk 11 = true := rfl
 have hb : arE 11 = 2 := rfl
 by_cases h1 : a = b
 · subst h1
   simp [IP_oi_Width,i_oi_Width,known_D,arity_D,hk,hb,hloop,agreed_D]
 · simp [IP_oi_Width,i_oi_Width,known_D,arity_D,hk,hb,hloop,agreed_D,h1]
theorem width_12 (w v:Int) (hv:0 ≤ v) (a:Int) (b:Int) (o:Own) (hall:List.all [a,b] insE = true) : callD G0 IP n_oi_Width [.int .i64 12,.int .i64 w,.int .u64 v,.list (([a,b] : List Int).map (AV.int .i64)) o] hp lo q =
   some (.ret (.tup [.int .i64 (if a = b then ((a,0) : Int × Int) else (0,3)).1,.int .i64 (if a = b then ((a,0) : Int × Int) else (0,3)).2]) hp) := by
 rw [callD_eq]
 have hloop := width_loop 12 w v [a,b] o (by simp) hp hp.length
 rw [if_neg (by simp [hall])] at hloop
 simp [wfr] at hloop
 have hk : opOk 12 = true := rfl
 have hb : arE 12 = 2 := rfl
 by_cases h1 : a = b
 · subst h1
   simp [IP_oi_Width,i_oi_Width,known_D,arity_D,hk,hb,hloop,agreed_D]
 · simp [IP_oi_Width,i_oi_Width,known_D,arity_D,hk,hb,hloop,agreed_D,h1]
theorem width_13 (w v:Int) (hv:0 ≤ v) (a:Int) (b:Int) (o:Own) (hall:List.all [a,b] insE = true) : callD G0 IP n_oi_Width [.int .i64 13,.int .i64 w,.int .u64 v,.list (([a,b] : List Int).map (AV.int .i64)) o] hp lo q =
   some (.ret (.tup [.int .i64 (if a = b then ((a,0) : Int × Int) else (0,3)).1,.int .i64 (if a = b then ((a,0) : Int × Int) else (0,3)).2]) hp) := by
 rw [callD_eq]
 have hloop := width_loop 13 w v [a,b] o (by simp) hp hp.length
 rw [if_neg (by simp [hall])] at hloop
 simp [wfr] at hloop
 have hk : opOk 13 = true := rfl
 have hb : arE 13 = 2 := rfl
 by_cases h1 : a = b
 · subst h1
   simp [IP_oi_Width,i_oi_Width,known_D,arity_D,hk,hb,hloop,agreed_D]
 · simp [IP_oi_Width,i_oi_Width,known_D,arity_D,hk,hb,hloop,agreed_D,h1]
theorem width_14 (w v:Int) (hv:0 ≤ v) (a:Int) (b:Int) (o:Own) (hall:List.all [a,b] insE = true) : callD G0 IP n_oi_Width [.int .i64 14,.int .i64 w,.int .u64 v,.list (([a,b] : List Int).map (AV.int .i64)) o] hp lo q =
   some (.ret (.tup [.int .i64 (if a = b then ((a,0) : Int × Int) else (0,3)).1,.int .i64 (if a = b then ((a,0) : Int × Int) else (0,3)).2]) hp) := by
 rw [callD_eq]
 have hloop := width_loop 14 w v [a,b] o (by simp) hp hp.length
 rw [if_neg (by simp [hall])] at hloop
 simp [wfr] at hloop
 have hk : opOk 14 = true := rfl
 have hb : arE 14 = 2 := rfl
 by_cases h1 : a = b
 · subst h1
   simp [IP_oi_Width,i_oi_Width,known_D,arity_D,hk,hb,hloop,agreed_D]
 · simp [IP_oi_Width,i_oi_Width,known_D,arity_D,hk,hb,hloop,agreed_D,h1]
theorem width_15 (w v:Int) (hv:0 ≤ v) (a:Int) (b:Int) (o:Own) (hall:List.all [a,b] insE = true) : callD G0 IP n_oi_Width [.int .i64 15,.int .i64 w,.int .u64 v,.list (([a,b] : List Int).map (AV.int .i64)) o] hp lo q =
   some (.ret (.tup [.int .i64 (if a = b then ((a,0) : Int × Int) else (0,3)).1,.int .i64 (if a = b then ((a,0) : Int × Int) else (0,3)).2]) hp) := by
 rw [callD_eq]
 have hloop := width_loop 15 w v [a,b] o (by simp) hp hp.length
 rw [if_neg (by simp [hall])] at hloop
 simp [wfr] at hloop
 have hk : opOk 15 = true := rfl
 have hb : arE 15 = 2 := rfl
 by_cases h1 : a = b
 · subst h1
   simp [IP_oi_Width,i_oi_Width,known_D,arity_D,hk,hb,hloop,agreed_D]
 · simp [IP_oi_Width,i_oi_Width,known_D,arity_D,hk,hb,hloop,agreed_D,h1]
end
end Go.Proofs.YtkofimhnehkdoaaGreatDoor.Rf
end
section
namespace Go.Proofs.YtkofimhnehkdoaaGreatDoor.Rf
def leafB (op:Int) : Bool := decide (op = 1) || (decide (op = 2) || (decide (op = 24) || decide (op = 25)))
theorem any_eq (op:Int) (l:List Int) : ((List.range l.length).any fun i => decide (l.getD i 0 = op)) = l.any fun x => decide (x = op) := by
 induction l with
 | nil => rfl
 | cons c r ih =>
   rw [List.length_cons,List.range_succ_eq_map]
   simp [List.any_map,Function.comp_def] at ih ⊢
   rw [ih]
theorem eq_comm_dec (a b:Int) : decide (a = b) = decide (b = a) := by
 by_cases h : a = b
 · simp [h]
 · rw [decide_eq_false h,decide_eq_false fun e : b = a => h e.symm]
section
variable {hp:List HObj} {lo:Nat} (q:Bool)
theorem is4_D (op:Int) (l:List Int) (o:Own) (hl:l.length ≤ 9223372036854775807) : callD G0 IP n_sr04_Is [.int .i64 op,.list (l.map (AV.int .i64)) o] hp lo q = some (.ret (.bool (l.any fun x => decide (x = op))) hp) := by
 rw [callD_eq]
 have hloop := loop_find (G := G0) (IP := IP) (lo := hp.length) (b := l_sr04_Is_0)
   (fun i => ⟨[(0,.int .i64 op),(1,.list (l.map (AV.int .i64)) o),(7,.int .i64 l.length),(8,.int .i64 i)],hp⟩) l.length (fun i => decide (l.getD i 0 = op))
   (.ret,⟨[(4,.bool true)],hp⟩) (.exit 0,⟨[(0,.int .i64 op),(1,.list (l.map (AV.int .i64)) o),(7,.int .i64 l.length),(8,.int .i64 l.length),(9,.bool false)],hp⟩)
   (fun i hi hp => by
     have hw := wrap_succ hi hl
     simp [List.getD,hi] at hp
     rw [← hw]
     simp [l_sr04_Is_0,hi,show (i:Int) < (l.length : Int) by omega,hp])
   (fun i hi hp => by
     simp [List.getD,hi] at hp
     simp [l_sr04_Is_0,hi,show (i:Int) < (l.length : Int) by omega,hp])
   (by simp) (by simp [l_sr04_Is_0]) (by simp)
 rw [any_eq] at hloop
 simp only [Int.natCast_zero] at hloop
 cases h : l.any fun x => decide (x = op) with
 | true => rw [h] at hloop; simp only [if_true] at hloop; simp [IP_sr04_Is,i_sr04_Is,hloop]
 | false => rw [h] at hloop; simp only [Bool.false_eq_true,if_false] at hloop; simp [IP_sr04_Is,i_sr04_Is,hloop]
theorem leaf4_D (op:Int) : callD G0 IP n_sr04_Leaf [.int .i64 op] hp lo q = some (.ret (.bool (leafB op)) hp) := by
 rw [callD_eq]
 have e := fun (hp:List HObj) (lo:Nat) (q:Bool) (o:Own) => is4_D (hp := hp) (lo := lo) q op [1,2,24,25] o (by simp)
 simp only [List.map_cons,List.map_nil,List.any_cons,List.any_nil,Bool.or_false,eq_comm_dec _ op] at e
 simp [IP_sr04_Leaf,i_sr04_Leaf,e,leafB]
theorem arity4_D (op:Int) : callD G0 IP n_sr04_Arity [.int .i64 op] hp lo q = some (.ret (.int .i64 (arE op)) hp) := by
 rw [callD_eq]
 have e := fun (hp:List HObj) (lo:Nat) (q:Bool) (o:Own) => is4_D (hp := hp) (lo := lo) q op [3,4,21,22,23,26] o (by simp)
 simp only [List.map_cons,List.map_nil,List.any_cons,List.any_nil,Bool.or_false,eq_comm_dec _ op] at e
 by_cases h1 : op < 1
 · have hk : opOk op = false := by simp [opOk]; omega
   simp [IP_sr04_Arity,i_sr04_Arity,arE,hk,h1]
 · by_cases h2 : 26 < op
   · have hk : opOk op = false := by simp [opOk]; omega
     simp [IP_sr04_Arity,i_sr04_Arity,arE,hk,h1,h2]
   · have hk : opOk op = true := by simp [opOk]; omega
     cases hL : leafB op with
     | true =>
       have h3 : op = 1 ∨ op = 2 ∨ op = 24 ∨ op = 25 := by simpa [leafB] using hL
       simp [IP_sr04_Arity,i_sr04_Arity,arE,hk,h1,h2,leaf4_D,hL,h3]
     | false =>
       have h3 : ¬ (op = 1 ∨ op = 2 ∨ op = 24 ∨ op = 25) := by simpa [leafB] using hL
       by_cases h4 : op = 3 ∨ op = 4 ∨ op = 21 ∨ op = 22 ∨ op = 23 ∨ op = 26
       · have h5 : (decide (op = 3) || (decide (op = 4) || (decide (op = 21) || (decide (op = 22) || (decide (op = 23) || decide (op = 26)))))) = true := by simpa using h4
         rw [h5] at e
         rw [arE,if_neg (by simp [hk]),if_neg h3,if_pos h4]
         simp [IP_sr04_Arity,i_sr04_Arity,h1,h2,leaf4_D,hL,e]
       · have h5 : (decide (op = 3) || (decide (op = 4) || (decide (op = 21) || (decide (op = 22) || (decide (op = 23) || decide (op = 26)))))) = false := by simpa using h4
         rw [h5] at e
         rw [arE,if_neg (by simp [hk]),if_neg h3,if_neg h4]
         by_cases h6 : op = 19
         · subst h6
           simp [IP_sr04_Arity,i_sr04_Arity,leaf4_D,hL,e]
         · simp [IP_sr04_Arity,i_sr04_Arity,h1,h2,leaf4_D,hL,e,h6]
theorem wid4_D (w:Int) : callD G0 IP n_sr04_width [.int .i64 w] hp lo q = some (.ret (.bool (insE w)) hp) := by
 rw [callD_eq]
 by_cases h : 0 ≤ w
 · by_cases h2 : w ≤ 64 <;> simp [IP_sr04_width,i_sr04_width,insE,h,h2]
 · simp [IP_sr04_width,i_sr04_width,insE,h]
theorem leafW4_D (op w v:Int) (hv:v < 18446744073709551616) : callD G0 IP n_sr04_leaf [.int .i64 op,.int .i64 w,.int .u64 v] hp lo q = some (.ret (.tup [.int .i64 (leafE op w v).1,.int .i64 (leafE op w v).2]) hp) := by
 rw [callD_eq]
 cases hi : insE w with
 | false => simp [IP_sr04_leaf,i_sr04_leaf,wid4_D,hi,leafE]
 | true =>
   have hw : 0 ≤ w ∧ w ≤ 64 := by simpa [insE] using hi
   by_cases h1 : op = 2
   · by_cases h2 : 0 < w
     · by_cases h3 : w < 64
       · have e1 : IntKind.wrap .u64 w = w := wrapU_small (by omega) (by omega)
         have h4 : ¬ w < 0 := by omega
         have hm : min w.toNat 64 = w.toNat := by omega
         have hp2 : (2:Int) ^ w.toNat < 18446744073709551616 := by
           have : (2:Nat) ^ w.toNat < 2 ^ 64 := Nat.pow_lt_pow_right (by omega) (by omega)
           have h := Int.ofNat_lt.2 this
           simpa using h
         have hp0 : (0:Int) < 2 ^ w.toNat := Int.pow_pos (by omega)
         have e2 : IntKind.wrap .u64 (1 * 2 ^ w.toNat) = 2 ^ w.toNat := by rw [Int.one_mul]; exact wrapU_small (by omega) (by omega)
         rw [Int.one_mul] at e2
         by_cases h5 : (2:Int) ^ w.toNat ≤ v
         · simp [IP_sr04_leaf,i_sr04_leaf,wid4_D,hi,leafE,h1,h2,h3,e1,h4,IntKind.bits,hm,e2,h5]
         · simp [IP_sr04_leaf,i_sr04_leaf,wid4_D,hi,leafE,h1,h2,h3,e1,h4,IntKind.bits,hm,e2,h5]
       · have hw64 : w = 64 := by omega
         subst hw64
         have h5 : ¬ (18446744073709551616:Int) ≤ v := by omega
         have h6 : ¬ (2:Int) ^ (64:Int).toNat ≤ v := h5
         simp [IP_sr04_leaf,i_sr04_leaf,wid4_D,hi,leafE,h1,h5,h6]
     · simp [IP_sr04_leaf,i_sr04_leaf,wid4_D,hi,leafE,h1,h2]
   · simp [IP_sr04_leaf,i_sr04_leaf,wid4_D,hi,leafE,h1]
theorem parts4_D (op w v f:Int) (hf:f ≤ 64) : callD G0 IP n_sr04_parts [.int .i64 op,.int .i64 w,.int .u64 v,.int .i64 f] hp lo q = some (.ret (.tup [.int .i64 (resE op w v f).1,.int .i64 (resE op w v f).2]) hp) := by
 rw [callD_eq]
 cases hi : insE w with
 | false =>
   have h1 : w < 1 ∨ 64 < w ∨ f < 1 := by simp [insE] at hi; omega
   simp [IP_sr04_parts,i_sr04_parts,wid4_D,hi,resE,h1]
 | true =>
   have hw : 0 ≤ w ∧ w ≤ 64 := by simpa [insE] using hi
   have h2 : ¬ 64 < w := by omega
   by_cases h1 : w < 1
   · simp [IP_sr04_parts,i_sr04_parts,wid4_D,hi,resE,h1]
   · by_cases h3 : f < 1
     · simp [IP_sr04_parts,i_sr04_parts,wid4_D,hi,resE,h1,h2,h3]
     · by_cases h4 : op = 21
       · by_cases h5 : f < w
         · simp [IP_sr04_parts,i_sr04_parts,wid4_D,hi,resE,h1,h2,h3,h4,h5]
         · have e1 : IntKind.wrap .i64 (f - w) = f - w := wrap_small (by omega) (by omega)
           have e2 : IntKind.wrap .u64 (f - w) = f - w := wrapU_small (by omega) (by omega)
           by_cases h6 : f - w < v
           · simp [IP_sr04_parts,i_sr04_parts,wid4_D,hi,resE,h1,h2,h3,h4,h5,h6,e1,e2]
           · simp [IP_sr04_parts,i_sr04_parts,wid4_D,hi,resE,h1,h2,h3,h4,h5,h6,e1,e2]
       · by_cases h5 : w < f
         · simp [IP_sr04_parts,i_sr04_parts,wid4_D,hi,resE,h1,h2,h3,h4,h5]
         · simp [IP_sr04_parts,i_sr04_parts,wid4_D,hi,resE,h1,h2,h3,h4,h5]
end
end Go.Proofs.YtkofimhnehkdoaaGreatDoor.Rf
end
section
namespace Go.Proofs.YtkofimhnehkdoaaGreatDoor.Rf
theorem len0 {as:List Int} (h:(as.length : Int) = 0) : as = [] := List.eq_nil_of_length_eq_zero (by omega)
theorem len1 {as:List Int} (h:(as.length : Int) = 1) : ∃ a,as = [a] := by
 rcases as with _ | ⟨a,_ | ⟨b,r⟩⟩
 · simp at h
 · exact ⟨a,rfl⟩
 · simp at h; omega
theorem len2 {as:List Int} (h:(as.length : Int) = 2) : ∃ a b,as = [a,b] := by
 rcases as with _ | ⟨a,_ | ⟨b,_ | ⟨c,r⟩⟩⟩
 · simp at h
 · simp at h
 · exact ⟨a,b,rfl⟩
 · simp at h; omega
theorem len3 {as:List Int} (h:(as.length : Int) = 3) : ∃ a b c,as = [a,b,c] := by
 rcases as with _ | ⟨a,_ | ⟨b,_ | ⟨c,_ | ⟨d,r⟩⟩⟩⟩
 · simp at h
 · simp at h
 · simp at h
 · exact ⟨a,b,c,rfl⟩
 · simp at h; omega
theorem widE_in {op w v:Int} {as:List Int} (h:¬ (opOk op = false ∨ (as.length : Int) ≠ arE op)) (hall:as.all insE = true) : widE op w v as = (if op = 1 ∨ op = 2 ∨ op = 24 ∨ op = 25 then leafE op w v else
       if op = 3 ∨ op = 4 ∨ op = 26 then (as.getD 0 0,0) else
       if op = 21 ∨ op = 22 ∨ op = 23 then resE op w v (as.getD 0 0) else
       if op = 19 then (if as.getD 0 0 = 1 ∧ as.getD 1 0 = as.getD 2 0 then (as.getD 1 0,0) else (0,3)) else
       if op = 20 then (if 1 ≤ as.getD 0 0 ∧ 1 ≤ as.getD 1 0 ∧ as.getD 0 0 + as.getD 1 0 ≤ 64 then (as.getD 0 0 + as.getD 1 0,0) else (0,3)) else
       if op = 16 ∨ op = 17 ∨ op = 18 then (if as.getD 0 0 = as.getD 1 0 then (1,0) else (0,3)) else
       if as.getD 0 0 = as.getD 1 0 then (as.getD 0 0,0) else (0,3)) := by
 rw [widE,if_neg h,if_neg (by simp [hall])]
section
variable {hp:List HObj} {lo:Nat} (q:Bool)
theorem width_D (op w v:Int) (hv:0 ≤ v) (as:List Int) (o:Own) (ha:as.length ≤ 9223372036854775807) : callD G0 IP n_oi_Width [.int .i64 op,.int .i64 w,.int .u64 v,.list (as.map (AV.int .i64)) o] hp lo q =
   some (.ret (.tup [.int .i64 (widE op w v as).1,.int .i64 (widE op w v as).2]) hp) := by
 by_cases h : opOk op = false ∨ (as.length : Int) ≠ arE op
 · rw [width_bad q op w v as o h,widE,if_pos h]
 · have hk : opOk op = true := by cases hk : opOk op <;> simp_all
   have hl : (as.length : Int) = arE op := Decidable.byContradiction fun e => h (.inr e)
   cases hall : as.all insE with
   | false => rw [width_out q op w v as o ha hk hl hall,widE,if_neg h,if_pos hall]
   | true =>
     rw [widE_in h hall]
     rcases opOk_cases hk with rfl | rfl | rfl | rfl | rfl | rfl | rfl | rfl | rfl | rfl | rfl | rfl | rfl | rfl | rfl | rfl | rfl | rfl | rfl | rfl | rfl | rfl | rfl | rfl | rfl | rfl
     · obtain rfl := len0 hl; exact width_1 q w v hv o hall
     · obtain rfl := len0 hl; exact width_2 q w v hv o hall
     · obtain ⟨a,rfl⟩ := len1 hl; exact width_3 q w v hv a o hall
     · obtain ⟨a,rfl⟩ := len1 hl; exact width_4 q w v hv a o hall
     · obtain ⟨a,b,rfl⟩ := len2 hl; exact width_5 q w v hv a b o hall
     · obtain ⟨a,b,rfl⟩ := len2 hl; exact width_6 q w v hv a b o hall
     · obtain ⟨a,b,rfl⟩ := len2 hl; exact width_7 q w v hv a b o hall
     · obtain ⟨a,b,rfl⟩ := len2 hl; exact width_8 q w v hv a b o hall
     · obtain ⟨a,b,rfl⟩ := len2 hl; exact width_9 q w v hv a b o hall
     · obtain ⟨a,b,rfl⟩ := len2 hl; exact width_10 q w v hv a b o hall
     · obtain ⟨a,b,rfl⟩ := len2 hl; exact width_11 q w v hv a b o hall
     · obtain ⟨a,b,rfl⟩ := len2 hl; exact width_12 q w v hv a b o hall
     · obtain ⟨a,b,rfl⟩ := len2 hl; exact width_13 q w v hv a b o hall
     · obtain ⟨a,b,rfl⟩ := len2 hl; exact width_14 q w v hv a b o hall
     · obtain ⟨a,b,rfl⟩ := len2 hl; exact width_15 q w v hv a b o hall
     · obtain ⟨a,b,rfl⟩ := len2 hl; exact width_16 q w v hv a b o hall
     · obtain ⟨a,b,rfl⟩ := len2 hl; exact width_17 q w v hv a b o hall
     · obtain ⟨a,b,rfl⟩ := len2 hl; exact width_18 q w v hv a b o hall
     · obtain ⟨a,b,c,rfl⟩ := len3 hl; exact width_19 q w v hv a b c o hall
     · obtain ⟨a,b,rfl⟩ := len2 hl; exact width_20 q w v hv a b o hall
     · obtain ⟨a,rfl⟩ := len1 hl; exact width_21 q w v hv a o hall
     · obtain ⟨a,rfl⟩ := len1 hl; exact width_22 q w v hv a o hall
     · obtain ⟨a,rfl⟩ := len1 hl; exact width_23 q w v hv a o hall
     · obtain rfl := len0 hl; exact width_24 q w v hv o hall
     · obtain rfl := len0 hl; exact width_25 q w v hv o hall
     · obtain ⟨a,rfl⟩ := len1 hl; exact width_26 q w v hv a o hall
end
end Go.Proofs.YtkofimhnehkdoaaGreatDoor.Rf
end
section
namespace Go.Proofs.YtkofimhnehkdoaaGreatDoor.Rf
section
variable {hp:List HObj} {lo:Nat} (q:Bool)
theorem nameSel {n:Nat} (h:n < 27) : ([AV.str [],AV.str [118,97,114],AV.str [99,111,110,115,116],AV.str [110,111,116],AV.str [110,101,103],AV.str [97,110,100],AV.str [111,114],AV.str [120,111,114],AV.str [97,100,100],AV.str [115,117,98],AV.str [109,117,108],AV.str [117,100,105,118],AV.str [117,114,101,109],AV.str [115,104,108],AV.str [108,115,104,114],AV.str [97,115,104,114],AV.str [101,113],AV.str [117,108,116],AV.str [115,108,116],AV.str [105,116,101],AV.str [99,111,110,99,97,116],AV.str [101,120,116,114,97,99,116],AV.str [122,101,120,116],AV.str [115,101,120,116],AV.str [104,111,108,101],AV.str [110,117,109],AV.str [101,118,97,108]])[n]? = some (AV.str (nm n)) := by
 have e := g_0_at h
 rw [List.drop_eq_getElem_cons (by rw [g_0_len]; exact h)] at e
 simp only [List.take_succ_cons,List.take_zero,List.cons.injEq,and_true] at e
 show g_0[n]? = _
 rw [List.getElem?_eq_getElem (by rw [g_0_len]; exact h),e]
theorem name4_D (op:Int) : callD G0 IP n_sr04_Name [.int .i64 op] hp lo q = some (.ret (.str (nameE op)) hp) := by
 rw [callD_eq]
 cases h : opOk op with
 | false =>
   have h1 : op < 1 ∨ ¬ op < 1 ∧ 26 < op := by simp [opOk] at h; omega
   rcases h1 with h1 | ⟨h1,h2⟩
   · simp [IP_sr04_Name,i_sr04_Name,h1,h,nameE]
   · simp [IP_sr04_Name,i_sr04_Name,h1,h2,h,nameE]
 | true =>
   obtain ⟨n,rfl,h1,h2⟩ := opOk_nat h
   have e1 : (n:Int) < 27 := by omega
   have e2 : n + 1 ≤ 27 := by omega
   have e3 : ¬ (n:Int) < 1 := by omega
   have e4 : ¬ (26:Int) < n := by omega
   simp [IP_sr04_Name,i_sr04_Name,h,nameE,e1,e2,e3,e4,nameSel (show n < 27 by omega)]
end
end Go.Proofs.YtkofimhnehkdoaaGreatDoor.Rf
end
section
namespace Go.Proofs.YtkofimhnehkdoaaGreatDoor.Rf
section
variable {hp:List HObj} {lo:Nat} (q:Bool)
def wfr4 (op w v:Int) (as:List Int) (o:Own) (i:Nat) : Fr := [(0,.int .i64 op),(1,.int .i64 w),(2,.int .u64 v),(3,.list (as.map (AV.int .i64)) o),(22,.int .i64 as.length),(23,.int .i64 i)]
theorem width4_loop (op w v:Int) (as:List Int) (o:Own) (ha:as.length ≤ 9223372036854775807) (hp:List HObj) (lo:Nat) : loopD G0 IP lo l_sr04_Width_0 ⟨wfr4 op w v as o 0,hp⟩ =
   some (if as.all insE = false then (.ret,⟨[(8,.int .i64 0),(9,.int .i64 3)],hp⟩) else (.exit 0,⟨wfr4 op w v as o as.length ++ [(24,.bool false)],hp⟩)) := by
 have hloop := loop_find (G := G0) (IP := IP) (lo := lo) (b := l_sr04_Width_0)
   (fun i => ⟨wfr4 op w v as o i,hp⟩) as.length (fun i => !insE (as.getD i 0))
   (.ret,⟨[(8,.int .i64 0),(9,.int .i64 3)],hp⟩)
   (.exit 0,⟨wfr4 op w v as o as.length ++ [(24,.bool false)],hp⟩)
   (fun i hi hp => by
     have hw := wrap_succ hi ha
     simp [List.getD,hi] at hp
     simp only [wfr4]
     rw [← hw]
     simp [l_sr04_Width_0,hi,wid4_D,hp])
   (fun i hi hp => by
     simp [List.getD,hi] at hp
     simp [l_sr04_Width_0,wfr4,hi,wid4_D,hp])
   (by simp) (by simp [l_sr04_Width_0,wfr4]) (by simp)
 rw [any_ins] at hloop
 rw [hloop]
 cases as.all insE <;> rfl
theorem width4_bad (op w v:Int) (as:List Int) (o:Own) (h:opOk op = false ∨ (as.length : Int) ≠ arE op) : callD G0 IP n_sr04_Width [.int .i64 op,.int .i64 w,.int .u64 v,.list (as.map (AV.int .i64)) o] hp lo q = some (.ret (.tup [.int .i64 0,.int .i64 4]) hp) := by
 rw [callD_eq]
 by_cases hl : arE op < 0
 · simp [IP_sr04_Width,i_sr04_Width,arity4_D,hl]
 · have hl2 : ¬ (as.length : Int) = arE op := by
     rcases h with h | h
     · exact absurd (by simp [arE,h]) hl
     · exact h
   simp [IP_sr04_Width,i_sr04_Width,arity4_D,hl,hl2]
theorem width4_out (op w v:Int) (as:List Int) (o:Own) (ha:as.length ≤ 9223372036854775807) (hl:(as.length : Int) = arE op) (hall:as.all insE = false) : callD G0 IP n_sr04_Width [.int .i64 op,.int .i64 w,.int .u64 v,.list (as.map (AV.int .i64)) o] hp lo q = some (.ret (.tup [.int .i64 0,.int .i64 3]) hp) := by
 rw [callD_eq]
 have hloop := width4_loop op w v as o ha hp hp.length
 rw [if_pos hall] at hloop
 simp only [wfr4,Int.natCast_zero,hl] at hloop
 have hn : ¬ arE op < 0 := by omega
 simp [IP_sr04_Width,i_sr04_Width,arity4_D,hl,hn,hloop]
theorem width4_1 (w v:Int) (hv:v < 18446744073709551616)  (o:Own) (hall:List.all ([] : List Int) insE = true) : callD G0 IP n_sr04_Width [.int .i64 1,.int .i64 w,.int .u64 v,.list (([] : List Int).map (AV.int .i64)) o] hp lo q =
   some (.ret (.tup [.int .i64 (leafE 1 w v).1,.int .i64 (leafE 1 w v).2]) hp) := by
 rw [callD_eq]
 have hloop := width4_loop 1 w v [] o (by simp) hp hp.length
 rw [if_neg (by simp [hall])] at hloop
 simp [wfr4] at hloop
 have hb : arE 1 = 0 := rfl
 have hL : leafB 1 = true := rfl
 have e := fun (hp:List HObj) (lo:Nat) (q:Bool) => leafW4_D (hp := hp) (lo := lo) q 1 w v hv
 simp [IP_sr04_Width,i_sr04_Width,arity4_D,leaf4_D,hb,hL,hloop,e]
theorem width4_2 (w v:Int) (hv:v < 18446744073709551616)  (o:Own) (hall:List.all ([] : List Int) insE = true) : callD G0 IP n_sr04_Width [.int .i64 2,.int .i64 w,.int .u64 v,.list (([] : List Int).map (AV.int .i64)) o] hp lo q =
   some (.ret (.tup [.int .i64 (leafE 2 w v).1,.int .i64 (leafE 2 w v).2]) hp) := by
 rw [callD_eq]
 have hloop := width4_loop 2 w v [] o (by simp) hp hp.length
 rw [if_neg (by simp [hall])] at hloop
 simp [wfr4] at hloop
 have hb : arE 2 = 0 := rfl
 have hL : leafB 2 = true := rfl
 have e := fun (hp:List HObj) (lo:Nat) (q:Bool) => leafW4_D (hp := hp) (lo := lo) q 2 w v hv
 simp [IP_sr04_Width,i_sr04_Width,arity4_D,leaf4_D,hb,hL,hloop,e]
theorem width4_24 (w v:Int) (hv:v < 18446744073709551616)  (o:Own) (hall:List.all ([] : List Int) insE = true) : callD G0 IP n_sr04_Width [.int .i64 24,.int .i64 w,.int .u64 v,.list (([] : List Int).map (AV.int .i64)) o] hp lo q =
   some (.ret (.tup [.int .i64 (leafE 24 w v).1,.int .i64 (leafE 24 w v).2]) hp) := by
 rw [callD_eq]
 have hloop := width4_loop 24 w v [] o (by simp) hp hp.length
 rw [if_neg (by simp [hall])] at hloop
 simp [wfr4] at hloop
 have hb : arE 24 = 0 := rfl
 have hL : leafB 24 = true := rfl
 have e := fun (hp:List HObj) (lo:Nat) (q:Bool) => leafW4_D (hp := hp) (lo := lo) q 24 w v hv
 simp [IP_sr04_Width,i_sr04_Width,arity4_D,leaf4_D,hb,hL,hloop,e]
theorem width4_25 (w v:Int) (hv:v < 18446744073709551616)  (o:Own) (hall:List.all ([] : List Int) insE = true) : callD G0 IP n_sr04_Width [.int .i64 25,.int .i64 w,.int .u64 v,.list (([] : List Int).map (AV.int .i64)) o] hp lo q =
   some (.ret (.tup [.int .i64 (leafE 25 w v).1,.int .i64 (leafE 25 w v).2]) hp) := by
 rw [callD_eq]
 have hloop := width4_loop 25 w v [] o (by simp) hp hp.length
 rw [if_neg (by simp [hall])] at hloop
 simp [wfr4] at hloop
 have hb : arE 25 = 0 := rfl
 have hL : leafB 25 = true := rfl
 have e := fun (hp:List HObj) (lo:Nat) (q:Bool) => leafW4_D (hp := hp) (lo := lo) q 25 w v hv
 simp [IP_sr04_Width,i_sr04_Width,arity4_D,leaf4_D,hb,hL,hloop,e]
theorem width4_21 (w v:Int) (hv:v < 18446744073709551616) (a:Int) (o:Own) (hall:List.all ([a] : List Int) insE = true) : callD G0 IP n_sr04_Width [.int .i64 21,.int .i64 w,.int .u64 v,.list (([a] : List Int).map (AV.int .i64)) o] hp lo q =
   some (.ret (.tup [.int .i64 (resE 21 w v a).1,.int .i64 (resE 21 w v a).2]) hp) := by
 rw [callD_eq]
 have hloop := width4_loop 21 w v [a] o (by simp) hp hp.length
 rw [if_neg (by simp [hall])] at hloop
 simp [wfr4] at hloop
 have hb : arE 21 = 1 := rfl
 have hL : leafB 21 = false := rfl
 have ha : a ≤ 64 := by simp [insE] at hall; omega
 have e := fun (hp:List HObj) (lo:Nat) (q:Bool) => parts4_D (hp := hp) (lo := lo) q 21 w v a ha
 simp [IP_sr04_Width,i_sr04_Width,arity4_D,leaf4_D,hb,hL,hloop,e]
theorem width4_22 (w v:Int) (hv:v < 18446744073709551616) (a:Int) (o:Own) (hall:List.all ([a] : List Int) insE = true) : callD G0 IP n_sr04_Width [.int .i64 22,.int .i64 w,.int .u64 v,.list (([a] : List Int).map (AV.int .i64)) o] hp lo q =
   some (.ret (.tup [.int .i64 (resE 22 w v a).1,.int .i64 (resE 22 w v a).2]) hp) := by
 rw [callD_eq]
 have hloop := width4_loop 22 w v [a] o (by simp) hp hp.length
 rw [if_neg (by simp [hall])] at hloop
 simp [wfr4] at hloop
 have hb : arE 22 = 1 := rfl
 have hL : leafB 22 = false := rfl
 have ha : a ≤ 64 := by simp [insE] at hall; omega
 have e := fun (hp:List HObj) (lo:Nat) (q:Bool) => parts4_D (hp := hp) (lo := lo) q 22 w v a ha
 simp [IP_sr04_Width,i_sr04_Width,arity4_D,leaf4_D,hb,hL,hloop,e]
theorem width4_23 (w v:Int) (hv:v < 18446744073709551616) (a:Int) (o:Own) (hall:List.all ([a] : List Int) insE = true) : callD G0 IP n_sr04_Width [.int .i64 23,.int .i64 w,.int .u64 v,.list (([a] : List Int).map (AV.int .i64)) o] hp lo q =
   some (.ret (.tup [.int .i64 (resE 23 w v a).1,.int .i64 (resE 23 w v a).2]) hp) := by
 rw [callD_eq]
 have hloop := width4_loop 23 w v [a] o (by simp) hp hp.length
 rw [if_neg (by simp [hall])] at hloop
 simp [wfr4] at hloop
 have hb : arE 23 = 1 := rfl
 have hL : leafB 23 = false := rfl
 have ha : a ≤ 64 := by simp [insE] at hall; omega
 have e := fun (hp:List HObj) (lo:Nat) (q:Bool) => parts4_D (hp := hp) (lo := lo) q 23 w v a ha
 simp [IP_sr04_Width,i_sr04_Width,arity4_D,leaf4_D,hb,hL,hloop,e]
theorem width4_one (op:Int) (w v:Int) (hv:v < 18446744073709551616) (a:Int) (o:Own) (hall:List.all ([a] : List Int) insE = true) (hb:arE op = 1) (hL:leafB op = false) (h21:¬ op = 21) (h22:¬ op = 22) (h23:¬ op = 23) : callD G0 IP n_sr04_Width [.int .i64 op,.int .i64 w,.int .u64 v,.list (([a] : List Int).map (AV.int .i64)) o] hp lo q =
   some (.ret (.tup [.int .i64 (((a,0) : Int × Int)).1,.int .i64 (((a,0) : Int × Int)).2]) hp) := by
 rw [callD_eq]
 have hloop := width4_loop op w v [a] o (by simp) hp hp.length
 rw [if_neg (by simp [hall])] at hloop
 simp [wfr4] at hloop
 simp [IP_sr04_Width,i_sr04_Width,arity4_D,leaf4_D,hb,hL,hloop,h21,h22,h23]
theorem width4_20 (w v:Int) (hv:v < 18446744073709551616) (a:Int) (b:Int) (o:Own) (hall:List.all ([a,b] : List Int) insE = true) : callD G0 IP n_sr04_Width [.int .i64 20,.int .i64 w,.int .u64 v,.list (([a,b] : List Int).map (AV.int .i64)) o] hp lo q =
   some (.ret (.tup [.int .i64 (if 1 ≤ a ∧ 1 ≤ b ∧ a + b ≤ 64 then ((a + b,0) : Int × Int) else (0,3)).1,.int .i64 (if 1 ≤ a ∧ 1 ≤ b ∧ a + b ≤ 64 then ((a + b,0) : Int × Int) else (0,3)).2]) hp) := by
 rw [callD_eq]
 have hloop := width4_loop 20 w v [a,b] o (by simp) hp hp.length
 rw [if_neg (by simp [hall])] at hloop
 simp [wfr4] at hloop
 have hb : arE 20 = 2 := rfl
 have hL : leafB 20 = false := rfl
 have ha : 0 ≤ a ∧ a ≤ 64 ∧ 0 ≤ b ∧ b ≤ 64 := by simp [insE] at hall; omega
 have e1 : IntKind.wrap .i64 (a + b) = a + b := wrap_small (by omega) (by omega)
 by_cases h1 : a < 1
 · have g : ¬ (1 ≤ a ∧ 1 ≤ b ∧ a + b ≤ 64) := by omega
   simp only [if_neg g]
   simp [IP_sr04_Width,i_sr04_Width,arity4_D,leaf4_D,hb,hL,hloop,h1]
 · by_cases h2 : b < 1
   · have g : ¬ (1 ≤ a ∧ 1 ≤ b ∧ a + b ≤ 64) := by omega
     simp only [if_neg g]
     simp [IP_sr04_Width,i_sr04_Width,arity4_D,leaf4_D,hb,hL,hloop,h1,h2]
   · by_cases h3 : 64 < a + b
     · have g : ¬ (1 ≤ a ∧ 1 ≤ b ∧ a + b ≤ 64) := by omega
       simp only [if_neg g]
       simp [IP_sr04_Width,i_sr04_Width,arity4_D,leaf4_D,hb,hL,hloop,h1,h2,h3,e1]
     · have g : 1 ≤ a ∧ 1 ≤ b ∧ a + b ≤ 64 := by omega
       simp only [if_pos g]
       simp [IP_sr04_Width,i_sr04_Width,arity4_D,leaf4_D,hb,hL,hloop,h1,h2,h3,e1]
theorem width4_19 (w v:Int) (hv:v < 18446744073709551616) (a:Int) (b:Int) (c:Int) (o:Own) (hall:List.all ([a,b,c] : List Int) insE = true) : callD G0 IP n_sr04_Width [.int .i64 19,.int .i64 w,.int .u64 v,.list (([a,b,c] : List Int).map (AV.int .i64)) o] hp lo q =
   some (.ret (.tup [.int .i64 (if a = 1 ∧ b = c then ((b,0) : Int × Int) else (0,3)).1,.int .i64 (if a = 1 ∧ b = c then ((b,0) : Int × Int) else (0,3)).2]) hp) := by
 rw [callD_eq]
 have hloop := width4_loop 19 w v [a,b,c] o (by simp) hp hp.length
 rw [if_neg (by simp [hall])] at hloop
 simp [wfr4] at hloop
 have hb : arE 19 = 3 := rfl
 have hL : leafB 19 = false := rfl
 by_cases h1 : a = 1
 · subst h1
   by_cases h2 : b = c
   · subst h2
     simp [IP_sr04_Width,i_sr04_Width,arity4_D,leaf4_D,hb,hL,hloop]
   · simp [IP_sr04_Width,i_sr04_Width,arity4_D,leaf4_D,hb,hL,hloop,h2]
 · simp [IP_sr04_Width,i_sr04_Width,arity4_D,leaf4_D,hb,hL,hloop,h1]
theorem width4_16 (w v:Int) (hv:v < 18446744073709551616) (a:Int) (b:Int) (o:Own) (hall:List.all ([a,b] : List Int) insE = true) : callD G0 IP n_sr04_Width [.int .i64 16,.int .i64 w,.int .u64 v,.list (([a,b] : List Int).map (AV.int .i64)) o] hp lo q =
   some (.ret (.tup [.int .i64 (if a = b then ((1,0) : Int × Int) else (0,3)).1,.int .i64 (if a = b then ((1,0) : Int × Int) else (0,3)).2]) hp) := by
 rw [callD_eq]
 have hloop := width4_loop 16 w v [a,b] o (by simp) hp hp.length
 rw [if_neg (by simp [hall])] at hloop
 simp [wfr4] at hloop
 have hb : arE 16 = 2 := rfl
 have hL : leafB 16 = false := rfl
 by_cases h1 : a = b
 · subst h1
   simp [IP_sr04_Width,i_sr04_Width,arity4_D,leaf4_D,hb,hL,hloop]
 · simp [IP_sr04_Width,i_sr04_Width,arity4_D,leaf4_D,hb,hL,hloop,h1]
theorem width4_17 (w v:Int) (hv:v < 18446744073709551616) (a:Int) (b:Int) (o:Own) (hall:List.all ([a,b] : List Int) insE = true) : callD G0 IP n_sr04_Width [.int .i64 17,.int .i64 w,.int .u64 v,.list (([a,b] : List Int).map (AV.int .i64)) o] hp lo q =
   some (.ret (.tup [.int .i64 (if a = b then ((1,0) : Int × Int) else (0,3)).1,.int .i64 (if a = b then ((1,0) : Int × Int) else (0,3)).2]) hp) := by
 rw [callD_eq]
 have hloop := width4_loop 17 w v [a,b] o (by simp) hp hp.length
 rw [if_neg (by simp [hall])] at hloop
 simp [wfr4] at hloop
 have hb : arE 17 = 2 := rfl
 have hL : leafB 17 = false := rfl
 by_cases h1 : a = b
 · subst h1
   simp [IP_sr04_Width,i_sr04_Width,arity4_D,leaf4_D,hb,hL,hloop]
 · simp [IP_sr04_Width,i_sr04_Width,arity4_D,leaf4_D,hb,hL,hloop,h1]
theorem width4_18 (w v:Int) (hv:v < 18446744073709551616) (a:Int) (b:Int) (o:Own) (hall:List.all ([a,b] : List Int) insE = true) : callD G0 IP n_sr04_Width [.int .i64 18,.int .i64 w,.int .u64 v,.list (([a,b] : List Int).map (AV.int .i64)) o] hp lo q =
   some (.ret (.tup [.int .i64 (if a = b then ((1,0) : Int × Int) else (0,3)).1,.int .i64 (if a = b then ((1,0) : Int × Int) else (0,3)).2]) hp) := by
 rw [callD_eq]
 have hloop := width4_loop 18 w v [a,b] o (by simp) hp hp.length
 rw [if_neg (by simp [hall])] at hloop
 simp [wfr4] at hloop
 have hb : arE 18 = 2 := rfl
 have hL : leafB 18 = false := rfl
 by_cases h1 : a = b
 · subst h1
   simp [IP_sr04_Width,i_sr04_Width,arity4_D,leaf4_D,hb,hL,hloop]
 · simp [IP_sr04_Width,i_sr04_Width,arity4_D,leaf4_D,hb,hL,hloop,h1]
theorem width4_two (op:Int) (w v:Int) (hv:v < 18446744073709551616) (a:Int) (b:Int) (o:Own) (hall:List.all ([a,b] : List Int) insE = true) (hb:arE op = 2) (hL:leafB op = false) (h21:¬ op = 21) (h22:¬ op = 22) (h23:¬ op = 23) (h20:¬ op = 20) (h19:¬ op = 19) (h16:¬ op = 16) (h17:¬ op = 17) (h18:¬ op = 18) : callD G0 IP n_sr04_Width [.int .i64 op,.int .i64 w,.int .u64 v,.list (([a,b] : List Int).map (AV.int .i64)) o] hp lo q =
   some (.ret (.tup [.int .i64 (if a = b then ((a,0) : Int × Int) else (0,3)).1,.int .i64 (if a = b then ((a,0) : Int × Int) else (0,3)).2]) hp) := by
 rw [callD_eq]
 have hloop := width4_loop op w v [a,b] o (by simp) hp hp.length
 rw [if_neg (by simp [hall])] at hloop
 simp [wfr4] at hloop
 by_cases h1 : a = b
 · subst h1
   simp [IP_sr04_Width,i_sr04_Width,arity4_D,leaf4_D,hb,hL,hloop,h21,h22,h23,h20,h19,h16,h17,h18]
 · simp [IP_sr04_Width,i_sr04_Width,arity4_D,leaf4_D,hb,hL,hloop,h21,h22,h23,h20,h19,h16,h17,h18,h1]
theorem width4_D (op w v:Int) (hv:v < 18446744073709551616) (as:List Int) (o:Own) (ha:as.length ≤ 9223372036854775807) : callD G0 IP n_sr04_Width [.int .i64 op,.int .i64 w,.int .u64 v,.list (as.map (AV.int .i64)) o] hp lo q =
   some (.ret (.tup [.int .i64 (widE op w v as).1,.int .i64 (widE op w v as).2]) hp) := by
 by_cases h : opOk op = false ∨ (as.length : Int) ≠ arE op
 · rw [width4_bad q op w v as o h,widE,if_pos h]
 · have hk : opOk op = true := by cases hk : opOk op <;> simp_all
   have hl : (as.length : Int) = arE op := Decidable.byContradiction fun e => h (.inr e)
   cases hall : as.all insE with
   | false => rw [width4_out q op w v as o ha hl hall,widE,if_neg h,if_pos hall]
   | true =>
     rw [widE_in h hall]
     rcases opOk_cases hk with rfl | rfl | rfl | rfl | rfl | rfl | rfl | rfl | rfl | rfl | rfl | rfl | rfl | rfl | rfl | rfl | rfl | rfl | rfl | rfl | rfl | rfl | rfl | rfl | rfl | rfl
     · obtain rfl := len0 hl; exact width4_1 q w v hv o hall
     · obtain rfl := len0 hl; exact width4_2 q w v hv o hall
     · obtain ⟨a,rfl⟩ := len1 hl; exact width4_one q 3 w v hv a o hall rfl rfl (by decide) (by decide) (by decide)
     · obtain ⟨a,rfl⟩ := len1 hl; exact width4_one q 4 w v hv a o hall rfl rfl (by decide) (by decide) (by decide)
     · obtain ⟨a,b,rfl⟩ := len2 hl; exact width4_two q 5 w v hv a b o hall rfl rfl (by decide) (by decide) (by decide) (by decide) (by decide) (by decide) (by decide) (by decide)
     · obtain ⟨a,b,rfl⟩ := len2 hl; exact width4_two q 6 w v hv a b o hall rfl rfl (by decide) (by decide) (by decide) (by decide) (by decide) (by decide) (by decide) (by decide)
     · obtain ⟨a,b,rfl⟩ := len2 hl; exact width4_two q 7 w v hv a b o hall rfl rfl (by decide) (by decide) (by decide) (by decide) (by decide) (by decide) (by decide) (by decide)
     · obtain ⟨a,b,rfl⟩ := len2 hl; exact width4_two q 8 w v hv a b o hall rfl rfl (by decide) (by decide) (by decide) (by decide) (by decide) (by decide) (by decide) (by decide)
     · obtain ⟨a,b,rfl⟩ := len2 hl; exact width4_two q 9 w v hv a b o hall rfl rfl (by decide) (by decide) (by decide) (by decide) (by decide) (by decide) (by decide) (by decide)
     · obtain ⟨a,b,rfl⟩ := len2 hl; exact width4_two q 10 w v hv a b o hall rfl rfl (by decide) (by decide) (by decide) (by decide) (by decide) (by decide) (by decide) (by decide)
     · obtain ⟨a,b,rfl⟩ := len2 hl; exact width4_two q 11 w v hv a b o hall rfl rfl (by decide) (by decide) (by decide) (by decide) (by decide) (by decide) (by decide) (by decide)
     · obtain ⟨a,b,rfl⟩ := len2 hl; exact width4_two q 12 w v hv a b o hall rfl rfl (by decide) (by decide) (by decide) (by decide) (by decide) (by decide) (by decide) (by decide)
     · obtain ⟨a,b,rfl⟩ := len2 hl; exact width4_two q 13 w v hv a b o hall rfl rfl (by decide) (by decide) (by decide) (by decide) (by decide) (by decide) (by decide) (by decide)
     · obtain ⟨a,b,rfl⟩ := len2 hl; exact width4_two q 14 w v hv a b o hall rfl rfl (by decide) (by decide) (by decide) (by decide) (by decide) (by decide) (by decide) (by decide)
     · obtain ⟨a,b,rfl⟩ := len2 hl; exact width4_two q 15 w v hv a b o hall rfl rfl (by decide) (by decide) (by decide) (by decide) (by decide) (by decide) (by decide) (by decide)
     · obtain ⟨a,b,rfl⟩ := len2 hl; exact width4_16 q w v hv a b o hall
     · obtain ⟨a,b,rfl⟩ := len2 hl; exact width4_17 q w v hv a b o hall
     · obtain ⟨a,b,rfl⟩ := len2 hl; exact width4_18 q w v hv a b o hall
     · obtain ⟨a,b,c,rfl⟩ := len3 hl; exact width4_19 q w v hv a b c o hall
     · obtain ⟨a,b,rfl⟩ := len2 hl; exact width4_20 q w v hv a b o hall
     · obtain ⟨a,rfl⟩ := len1 hl; exact width4_21 q w v hv a o hall
     · obtain ⟨a,rfl⟩ := len1 hl; exact width4_22 q w v hv a o hall
     · obtain ⟨a,rfl⟩ := len1 hl; exact width4_23 q w v hv a o hall
     · obtain rfl := len0 hl; exact width4_24 q w v hv o hall
     · obtain rfl := len0 hl; exact width4_25 q w v hv o hall
     · obtain ⟨a,rfl⟩ := len1 hl; exact width4_one q 26 w v hv a o hall rfl rfl (by decide) (by decide) (by decide)
end
end Go.Proofs.YtkofimhnehkdoaaGreatDoor.Rf
end
section
namespace Go.Proofs.YtkofimhnehkdoaaGreatDoor.Rf
def bt (s:List UInt8) (i:Nat) : Int := ((s.getD i 0).toNat : Int)
theorem bt_some {s:List UInt8} {i:Nat} (h:i < s.length) : ∃ c : UInt8,s[i]? = some c ∧ bt s i = (c.toNat : Int) := ⟨s[i],by simp [h],by simp [bt,h]⟩
def lowC (n:Int) : Bool := decide (97 ≤ n) && decide (n ≤ 122)
def nameC (n:Int) : Bool := lowC n || (decide (48 ≤ n) && decide (n ≤ 57)) || decide (n = 95)
def nameOk (s:List UInt8) : Bool := decide (1 ≤ s.length) && (decide (s.length ≤ 16) && (lowC (bt s 0) && s.all fun c => nameC (c.toNat : Int)))
inductive TR where
 | ok (t:T) | err (e:Int)
def T.z : T := .mk 0 0 0 [] true []
def TR.t : TR → T | .ok t => t | .err _ => T.z
def TR.e : TR → Int | .ok _ => 0 | .err e => e
def TR.out (hp:List HObj) : TR → COut
 | .ok t => .ret t.av hp
 | .err e => .pan (.iface 78 (.agg [.int .i64 e])) hp
def TR.tup (hp:List HObj) (r:TR) : COut := .ret (.tup [r.t.av,.int .i64 r.e]) hp
def constR (left:List UInt8) (w e:Int) : TR :=
 if (numE left).2 = 6 then .err 6 else
 if ¬ (e = 0 ∧ (numE left).2 = 0 ∧ w ≤ 64) then .err 2 else
 if (widE 2 w (numE left).1 []).2 ≠ 0 then .err (widE 2 w (numE left).1 []).2 else
 .ok (.mk 2 w (numE left).1 [] true [])
def leafOp (l:List UInt8) : Int := if bt l 0 = 63 then 24 else if bt l 0 = 35 then 25 else 1
def leafNm (l:List UInt8) : List UInt8 := if bt l 0 = 63 ∨ bt l 0 = 35 then l.drop 1 else l
def leafR (s:List UInt8) : TR :=
 if (cutB s 58).2.2 = false ∨ (numE (cutB s 58).2.1).2 = 6 then .err 6 else
 if 48 ≤ bt s 0 ∧ bt s 0 ≤ 57 then constR (cutB s 58).1 (numE (cutB s 58).2.1).1 (numE (cutB s 58).2.1).2 else
 if nameOk (leafNm (cutB s 58).1) = false then .err 5 else
 if ¬ ((numE (cutB s 58).2.1).2 = 0 ∧ (numE (cutB s 58).2.1).1 ≤ 64) then .err 2 else
 .ok (.mk (leafOp (cutB s 58).1) (numE (cutB s 58).2.1).1 0 (leafNm (cutB s 58).1) true [])
end Go.Proofs.YtkofimhnehkdoaaGreatDoor.Rf
end
section
namespace Go.Proofs.YtkofimhnehkdoaaGreatDoor.Rf
abbrev zS : S := .mk [] true []
def lineK (l:List S) : Int := kindOf (l.getD 0 zS).atom
def shapeB (e:S) : Bool := decide (2 ≤ e.list.length) && ((!decide (lineK e.list = 0) && ((refsE (e.list.getD 1 zS)).isSome && decide ((e.list.length : Int) = partsE (lineK e.list)))) &&
 ((if lineK e.list = 5 ∨ lineK e.list = 12 then decide ((intE (e.list.getD 2 zS).atom).2 = 0) else true) && (!decide (lineK e.list = 5) || namedB (e.list.getD 3 zS))))
def shapeS (e:S) : St7 := ⟨lineK e.list,((refsE (e.list.getD 1 zS)).getD []).isEmpty,(refsE (e.list.getD 1 zS)).getD [],if lineK e.list = 5 ∨ lineK e.list = 12 then (intE (e.list.getD 2 zS).atom).1 else 0,true,[],T.z,T.z⟩
section
variable {hp:List HObj} {lo:Nat}
set_option maxHeartbeats 4000000 in
theorem shape_D (e:S) (he:e.fit) (hp:List HObj) (lo:Nat) (q:Bool) : ∃ s : St7,callD G0 IP n_sr36_shape [e.av] hp lo q = some (.ret (.tup [s.av,.bool (shapeB e)]) hp) ∧ (shapeB e = true → s = shapeS e) := by
 have hf := (S.fit_eq e).1 he
 rw [callD_eq,S.av_eq]
 cases e with | mk a o l =>
 simp only [S.atom,S.list,S.o] at hf ⊢
 match l,hf with
 | [],_ => exact ⟨⟨0,true,[],0,true,[],T.z,T.z⟩,by simp [IP_sr36_shape,i_sr36_shape,shapeB,S.list]; rfl,by simp [shapeB,S.list]⟩
 | [x],_ => exact ⟨⟨0,true,[],0,true,[],T.z,T.z⟩,by simp [IP_sr36_shape,i_sr36_shape,shapeB,S.list,S.avs,S.av_eq x]; rfl,by simp [shapeB,S.list]⟩
 | x :: y :: r, hf =>
   have g2 : ¬ (r.length : Int) + 1 + 1 < 2 := by omega
   have g3 : (0:Int) < (r.length : Int) + 1 + 1 := by omega
   have g4 : (1:Int) < (r.length : Int) + 1 + 1 := by omega
   have hy : y.fit := hf.2.2.2 y (by simp)
   have e1 := fun (hp:List HObj) (lo:Nat) (q:Bool) => kind36_D x.atom hp lo q
   have e2 := refs36_D y hy
   have k0 : lineK (x :: y :: r) = kindOf x.atom := rfl
   have k1 : (x :: y :: r).getD 1 zS = y := rfl
   have hb := kindOf_bd x.atom
   have hsB : shapeB (.mk a o (x :: y :: r)) = ((!decide (kindOf x.atom = 0) && ((refsE y).isSome && decide ((((x :: y :: r).length : Nat) : Int) = partsE (kindOf x.atom)))) &&
     ((if kindOf x.atom = 5 ∨ kindOf x.atom = 12 then decide ((intE ((x :: y :: r).getD 2 zS).atom).2 = 0) else true) && (!decide (kindOf x.atom = 5) || namedB ((x :: y :: r).getD 3 zS)))) := by
     simp only [shapeB,S.list,k0,k1]; simp
   have hsS : shapeS (.mk a o (x :: y :: r)) = ⟨kindOf x.atom,((refsE y).getD []).isEmpty,(refsE y).getD [],if kindOf x.atom = 5 ∨ kindOf x.atom = 12 then (intE ((x :: y :: r).getD 2 zS).atom).1 else 0,true,[],T.z,T.z⟩ := by
     simp only [shapeS,S.list,k0,k1]
   rw [hsB,hsS]
   generalize kindOf x.atom = k at *
   have e3 := fun (hp:List HObj) (lo:Nat) (q:Bool) => parts_D k hp lo q
   rw [S.av_eq] at e2
   by_cases hk : k = 0
   · refine ⟨⟨k,true,[],0,true,[],T.z,T.z⟩,?_,by simp [hk]⟩
     subst hk
     cases hr : refsE y with
     | none =>
       rw [hr] at e2
       simp [IP_sr36_shape,i_sr36_shape,S.avs,S.av_eq x,S.av_eq y,g2,g3,g4,e1,e2]; rfl
     | some rl =>
       rw [hr] at e2
       simp [IP_sr36_shape,i_sr36_shape,S.avs,S.av_eq x,S.av_eq y,g2,g3,g4,e1,e2]; rfl
   cases hr : refsE y with
   | none =>
     rw [hr] at e2
     refine ⟨⟨k,true,[],0,true,[],T.z,T.z⟩,?_,by simp⟩
     simp [IP_sr36_shape,i_sr36_shape,S.avs,S.av_eq x,S.av_eq y,g2,g3,g4,e1,e2,hk]; rfl
   | some rl =>
     rw [hr] at e2
     by_cases hp3 : (r.length : Int) + 1 + 1 = partsE k
     · have hp3' : (((x :: y :: r).length : Nat) : Int) = partsE k := by rw [← hp3]; simp
       by_cases h5 : k = 5
       · subst h5
         have : r.length = 2 := by have : partsE 5 = 4 := rfl; omega
         match r,this with
         | [z,w],_ =>
           have hz : z.fit := hf.2.2.2 z (by simp)
           have hw : w.fit := hf.2.2.2 w (by simp)
           have e4 := fun (l:List AV) (oo:Own) (hp:List HObj) (lo:Nat) (q:Bool) => number36_D z.atom (by have := (S.fit_eq z).1 hz; omega) l oo hp lo q
           have e5 := named_D w hw
           rw [S.av_eq] at e5
           have c2 : [x,y,z,w].getD 2 zS = z := rfl
           have c3 : [x,y,z,w].getD 3 zS = w := rfl
           rw [c2,c3]
           have hpe : partsE 5 = 4 := rfl
           refine ⟨⟨5,rl.isEmpty,rl,(intE z.atom).1,true,[],T.z,T.z⟩,?_,fun _ => by simp⟩
           cases hi : decide ((intE z.atom).2 = 0) with
           | false =>
             have hi' : ¬ (intE z.atom).2 = 0 := by simpa using hi
             simp [IP_sr36_shape,i_sr36_shape,S.avs,S.av_eq x,S.av_eq y,g2,g3,g4,e1,S.av_eq z,S.av_eq w,e2,e3,e4,e5,hi',hpe]
             exact ⟨i64s_closed _ _,rfl⟩
           | true =>
             have hi' : (intE z.atom).2 = 0 := by simpa using hi
             simp [IP_sr36_shape,i_sr36_shape,S.avs,S.av_eq x,S.av_eq y,g2,g3,g4,e1,S.av_eq z,S.av_eq w,e2,e3,e4,e5,hi',hpe]
             exact ⟨i64s_closed _ _,rfl⟩
       · by_cases h12 : k = 12
         · subst h12
           have : r.length = 1 := by have : partsE 12 = 3 := rfl; omega
           match r,this with
           | [z],_ =>
             have hz : z.fit := hf.2.2.2 z (by simp)
             have e4 := fun (l:List AV) (oo:Own) (hp:List HObj) (lo:Nat) (q:Bool) => number36_D z.atom (by have := (S.fit_eq z).1 hz; omega) l oo hp lo q
             have c2 : [x,y,z].getD 2 zS = z := rfl
             rw [c2]
             have hpe : partsE 12 = 3 := rfl
             refine ⟨⟨12,rl.isEmpty,rl,(intE z.atom).1,true,[],T.z,T.z⟩,?_,fun _ => by simp⟩
             cases hi : decide ((intE z.atom).2 = 0) with
             | false =>
               have hi' : ¬ (intE z.atom).2 = 0 := by simpa using hi
               simp [IP_sr36_shape,i_sr36_shape,S.avs,S.av_eq x,S.av_eq y,g2,g3,g4,e1,S.av_eq z,e2,e3,e4,hi',hpe]
               exact ⟨i64s_closed _ _,rfl⟩
             | true =>
               have hi' : (intE z.atom).2 = 0 := by simpa using hi
               simp [IP_sr36_shape,i_sr36_shape,S.avs,S.av_eq x,S.av_eq y,g2,g3,g4,e1,S.av_eq z,e2,e3,e4,hi',hpe]
               exact ⟨i64s_closed _ _,rfl⟩
         · have hp3s : partsE k = (r.length : Int) + 1 + 1 := hp3.symm
           refine ⟨⟨k,rl.isEmpty,rl,0,true,[],T.z,T.z⟩,?_,fun _ => by simp [h5,h12]⟩
           simp [IP_sr36_shape,i_sr36_shape,S.avs,S.av_eq x,S.av_eq y,g2,g3,g4,e1,e2,e3,hk,h5,h12,hp3s]
           exact ⟨i64s_closed _ _,rfl⟩
     · refine ⟨⟨k,true,[],0,true,[],T.z,T.z⟩,?_,?_⟩
       · have hp4 : ¬ ((r.length : Int) + 1 + 1 = partsE k) := hp3
         simp [IP_sr36_shape,i_sr36_shape,S.avs,S.av_eq x,S.av_eq y,g2,g3,g4,e1,e2,e3,hk,hp4]
         rfl
       · intro h
         simp at h
         omega
end
end Go.Proofs.YtkofimhnehkdoaaGreatDoor.Rf
end
section
namespace Go.Proofs.YtkofimhnehkdoaaGreatDoor.Rf
theorem any_names (s:List UInt8) : ((List.range s.length).any fun i => !nameC (bt s i)) = !(s.all fun c => nameC (c.toNat : Int)) := by
 induction s with
 | nil => rfl
 | cons c r ih =>
   rw [List.length_cons,List.range_succ_eq_map]
   simp [List.any_map,Function.comp_def,bt] at ih ⊢
   rw [ih]
section
variable {hp:List HObj} {lo:Nat} (q:Bool)
theorem must_D (ok:Bool) (e:Int) : callD G0 IP n_tt_must [.bool ok,.int .i64 e] hp lo false = some (if ok then .ret (.tup []) hp else .pan (.iface 78 (.agg [.int .i64 e])) hp) := by
 rw [callD_eq]
 cases ok <;> simp [IP_tt_must,i_tt_must]
theorem failT_D (e:Int) : callD G0 IP n_tt_fail [.int .i64 e] hp lo false = some (if e = 0 then .ret (.tup []) hp else .pan (.iface 78 (.agg [.int .i64 e])) hp) := by
 rw [callD_eq]
 by_cases h : e = 0 <;> simp [IP_tt_fail,i_tt_fail,h]
theorem name_D (s : List UInt8) (hs:s.length ≤ 9223372036854775807) : callD G0 IP n_term_Name [.str s] hp lo q = some (.ret (.bool (nameOk s)) hp) := by
 rw [callD_eq]
 by_cases h1 : s.length < 1
 · have h0 : ¬ 1 ≤ s.length := by omega
   have hi : (s.length : Int) < 1 := by omega
   simp [IP_term_Name,i_term_Name,nameOk,hi,h0]
 · have h1' : 1 ≤ s.length := by omega
   have hi : ¬ (s.length : Int) < 1 := by omega
   by_cases h2 : 16 < s.length
   · have h2' : (16:Int) < (s.length : Int) := by omega
     have h0 : ¬ s.length ≤ 16 := by omega
     simp [IP_term_Name,i_term_Name,nameOk,hi,h2',h0]
   · have h2' : ¬ (16 : Int) < (s.length : Int) := by omega
     obtain ⟨c,h4,hb⟩ := bt_some (s := s) (i := 0) (by omega)
     have h3 : s.length ≤ 16 := by omega
     by_cases h5 : (c.toNat : Int) < 97
     · have g : lowC (c.toNat : Int) = false := by simp [lowC]; omega
       simp [IP_term_Name,i_term_Name,nameOk,hi,h2',h4,hb,h5,g]
     · by_cases h6 : 122 < (c.toNat : Int)
       · have g : lowC (c.toNat : Int) = false := by simp [lowC]; omega
         simp [IP_term_Name,i_term_Name,nameOk,hi,h2',h4,hb,h5,h6,g]
       · have g : lowC (c.toNat : Int) = true := by simp [lowC]; omega
         have hloop := loop_find (G := G0) (IP := IP) (lo := hp.length) (b := l_term_Name_0)
           (fun i => ⟨[(0,.str s),(24,.int .i64 s.length),(25,.int .i64 i)],hp⟩) s.length (fun i => !nameC (bt s i))
           (.ret,⟨[(2,.bool false)],hp⟩) (.exit 0,⟨[(0,.str s),(24,.int .i64 s.length),(25,.int .i64 s.length),(26,.bool false)],hp⟩)
           (fun i hi hp => by
             have hw := wrap_succ hi hs
             obtain ⟨c,h4,hb⟩ := bt_some (s := s) (i := i) hi
             have h4' : s[i] = c := by simpa [hi] using h4
             rw [hb] at hp
             rw [← hw]
             by_cases a1 : (c.toNat : Int) < 97
             · by_cases a2 : (c.toNat : Int) < 48
               · simp [nameC,lowC] at hp; omega
               · by_cases a3 : 57 < (c.toNat : Int)
                 · have a4 : (c.toNat : Int) = 95 := by simp [nameC,lowC] at hp; omega
                   simp [l_term_Name_0,h4,h4',hi,a1,a2,a3,a4]
                 · simp [l_term_Name_0,h4,h4',hi,a1,a2,a3]
             · by_cases a2 : 122 < (c.toNat : Int)
               · simp [nameC,lowC] at hp; omega
               · simp [l_term_Name_0,h4,h4',hi,a1,a2])
           (fun i hi hp => by
             obtain ⟨c,h4,hb⟩ := bt_some (s := s) (i := i) hi
             have h4' : s[i] = c := by simpa [hi] using h4
             rw [hb] at hp
             have a4 : ¬ (c.toNat : Int) = 95 := by simp [nameC,lowC] at hp; omega
             by_cases a1 : (c.toNat : Int) < 97
             · by_cases a2 : (c.toNat : Int) < 48
               · simp [l_term_Name_0,h4,h4',hi,a1,a2,a4]
               · have a3 : 57 < (c.toNat : Int) := by simp [nameC,lowC] at hp; omega
                 simp [l_term_Name_0,h4,h4',hi,a1,a2,a3,a4]
             · have a2 : 122 < (c.toNat : Int) := by simp [nameC,lowC] at hp; omega
               have a3 : 57 < (c.toNat : Int) := by omega
               have a5 : ¬ (c.toNat : Int) < 48 := by omega
               simp [l_term_Name_0,h4,h4',hi,a1,a2,a3,a4,a5])
           (by simp) (by simp [l_term_Name_0]) (by simp)
         rw [any_names] at hloop
         simp only [Int.natCast_zero] at hloop
         cases h : s.all fun c => nameC (c.toNat : Int) with
         | true => rw [h] at hloop; simp only [Bool.not_true,Bool.false_eq_true,if_false] at hloop; simp [IP_term_Name,i_term_Name,hi,h2',h4,h5,h6,hloop,nameOk,hb,g,h1',h3,h]
         | false => rw [h] at hloop; simp only [Bool.not_false,if_true] at hloop; simp [IP_term_Name,i_term_Name,hi,h2',h4,h5,h6,hloop,nameOk,hb,g,h1',h3,h]
theorem name7_D (s : List UInt8) (hs:s.length ≤ 9223372036854775807) : callD G0 IP n_sr07_Name [.str s] hp lo q = some (.ret (.bool (nameOk s)) hp) := by
 rw [callD_eq]
 by_cases h1 : s.length < 1
 · have h0 : ¬ 1 ≤ s.length := by omega
   have hi : (s.length : Int) < 1 := by omega
   simp [IP_sr07_Name,i_sr07_Name,nameOk,hi,h0]
 · have h1' : 1 ≤ s.length := by omega
   have hi : ¬ (s.length : Int) < 1 := by omega
   by_cases h2 : 16 < s.length
   · have h2' : (16:Int) < (s.length : Int) := by omega
     have h0 : ¬ s.length ≤ 16 := by omega
     simp [IP_sr07_Name,i_sr07_Name,nameOk,hi,h2',h0]
   · have h2' : ¬ (16 : Int) < (s.length : Int) := by omega
     obtain ⟨c,h4,hb⟩ := bt_some (s := s) (i := 0) (by omega)
     have h3 : s.length ≤ 16 := by omega
     by_cases h5 : (c.toNat : Int) < 97
     · have g : lowC (c.toNat : Int) = false := by simp [lowC]; omega
       simp [IP_sr07_Name,i_sr07_Name,nameOk,hi,h2',h4,hb,h5,g]
     · by_cases h6 : 122 < (c.toNat : Int)
       · have g : lowC (c.toNat : Int) = false := by simp [lowC]; omega
         simp [IP_sr07_Name,i_sr07_Name,nameOk,hi,h2',h4,hb,h5,h6,g]
       · have g : lowC (c.toNat : Int) = true := by simp [lowC]; omega
         have hloop := loop_find (G := G0) (IP := IP) (lo := hp.length) (b := l_sr07_Name_0)
           (fun i => ⟨[(0,.str s),(3,.int .i64 i)],hp⟩) s.length (fun i => !nameC (bt s i))
           (.ret,⟨[(2,.bool false)],hp⟩) (.exit 0,⟨[(0,.str s),(3,.int .i64 s.length),(26,.bool false)],hp⟩)
           (fun i hi hp => by
             have hw := wrap_succ hi hs
             obtain ⟨c,h4,hb⟩ := bt_some (s := s) (i := i) hi
             have h4' : s[i] = c := by simpa [hi] using h4
             rw [hb] at hp
             rw [← hw]
             by_cases a1 : 97 ≤ (c.toNat : Int)
             · by_cases a2 : (c.toNat : Int) ≤ 122
               · simp [l_sr07_Name_0,h4,h4',hi,a1,a2]
               · simp [nameC,lowC] at hp; omega
             · by_cases a2 : 48 ≤ (c.toNat : Int)
               · by_cases a3 : (c.toNat : Int) ≤ 57
                 · simp [l_sr07_Name_0,h4,h4',hi,a1,a2,a3]
                 · have a4 : (c.toNat : Int) = 95 := by simp [nameC,lowC] at hp; omega
                   simp [l_sr07_Name_0,h4,h4',hi,a1,a2,a3,a4]
               · simp [nameC,lowC] at hp; omega)
           (fun i hi hp => by
             obtain ⟨c,h4,hb⟩ := bt_some (s := s) (i := i) hi
             have h4' : s[i] = c := by simpa [hi] using h4
             rw [hb] at hp
             have a4 : ¬ (c.toNat : Int) = 95 := by simp [nameC,lowC] at hp; omega
             by_cases a1 : 97 ≤ (c.toNat : Int)
             · have a2 : ¬ (c.toNat : Int) ≤ 122 := by simp [nameC,lowC] at hp; omega
               have a3 : ¬ (c.toNat : Int) ≤ 57 := by omega
               have a5 : 48 ≤ (c.toNat : Int) := by omega
               simp [l_sr07_Name_0,h4,h4',hi,a1,a2,a3,a4,a5]
             · by_cases a2 : 48 ≤ (c.toNat : Int)
               · have a3 : ¬ (c.toNat : Int) ≤ 57 := by simp [nameC,lowC] at hp; omega
                 simp [l_sr07_Name_0,h4,h4',hi,a1,a2,a3,a4]
               · simp [l_sr07_Name_0,h4,h4',hi,a1,a2,a4])
           (by simp) (by simp [l_sr07_Name_0]) (by simp)
         rw [any_names] at hloop
         simp only [Int.natCast_zero] at hloop
         cases h : s.all fun c => nameC (c.toNat : Int) with
         | true => rw [h] at hloop; simp only [Bool.not_true,Bool.false_eq_true,if_false] at hloop; simp [IP_sr07_Name,i_sr07_Name,hi,h2',h4,h5,h6,hloop,nameOk,hb,g,h1',h3,h]
         | false => rw [h] at hloop; simp only [Bool.not_false,if_true] at hloop; simp [IP_sr07_Name,i_sr07_Name,hi,h2',h4,h5,h6,hloop,nameOk,hb,g,h1',h3,h]
end
end Go.Proofs.YtkofimhnehkdoaaGreatDoor.Rf
end
