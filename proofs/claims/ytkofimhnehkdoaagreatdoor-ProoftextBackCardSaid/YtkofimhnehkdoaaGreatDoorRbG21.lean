/- A part of the proof: see the last text. -/
import Derived.Test.YtkofimhnehkdoaaGreatDoorRbG20
import Derived.Test.YtkofimhnehkdoaaGreatDoorRbG19
set_option linter.unusedVariables false
set_option linter.unusedSimpArgs false
section
namespace Go.Proofs.YtkofimhnehkdoaaGreatDoor.Rf
inductive PTR where
 | ok (l:List S) (st:List Nat)
 | err (i:Nat) (code:Int)
def pTop (s:List UInt8) : Nat → Nat → List S → List Nat → PTR
 | 0,_,acc,st => .ok acc st
 | n + 1,i,acc,st =>
   if i < s.length then
     match pOne s (2 * s.length) i 0 with
     | .err j e => .err j e
     | .ok x j => pTop s n (skipN s j) (acc ++ [x]) (st ++ [i])
   else .ok acc st
def pAll (s:List UInt8) : PTR := if s.length > 65536 then .err 0 7 else pTop s (s.length + 1) (skipN s 0) [] []
section
variable {s:List UInt8} {hp:List HObj} {lo:Nat}
def outA (own:List S → Own) : PTR → AV
 | .ok l _ => .tup [.list (S.avs l) (own l),.int .i64 0,.int .i64 0]
 | .err j e => .tup [.list [] .nil,.int .i64 j,.int .i64 e]
abbrev intsA (l:List Nat) : List AV := l.map fun n : Nat => AV.int .i64 (n:Int)
def ownI (l:List Nat) : Own := if l.isEmpty then .nil else .own 1 0
@[simp] theorem ownI_cp (l:List Nat) : (ownI l).cp = ownB l.isEmpty := by cases l <;> rfl
@[simp] theorem ownI_app (l:List Nat) (x:Nat) : ownI (l ++ [x]) = .own 1 0 := by cases l <;> rfl
theorem ownI_ok (l:List Nat) : ownI l = .nil ∨ ownI l = .own 1 0 := by cases l <;> simp [ownI]
@[simp] theorem okSize_ints (l:List Nat) : okSize 1 (intsA l) = true := by cases l <;> simp [intsA]
def PTRok (hp:List HObj) (s:List UInt8) : PTR → Ex → St → Prop
 | .err j e,ex,st => ex = .pan (failAV j e) ∧ st.hp = PH hp s j ∧ ∃ v2 v3 v4 v5,st.fr.get 2 = .box [v2] ∧ st.fr.get 3 = .box [v3] ∧ st.fr.get 4 = .box [v4] ∧ st.fr.get 5 = .box [v5]
 | .ok l st',ex,st => ex = .exit 0 ∧ st = ⟨[(0,.str s),(2,.box [.list (S.avs l) (ownA l)]),(3,.box [.list (intsA st') (ownI st')]),(4,.box [.int .i64 0]),(5,.box [.int .i64 0]),(6,.ptr hp.length 0),(22,.bool false)],PH hp s s.length⟩
theorem top2_L (hs:s.length ≤ 65536) (hlo:lo ≤ hp.length) : ∀ (n i:Nat) (acc:List S) (st:List Nat),i ≤ s.length → acc.length ≤ i → st.length ≤ i → s.length - i < n →
   ∃ ex st',loopD G0 IP lo l_sx_all_0 ⟨[(0,.str s),(2,.box [.list (S.avs acc) (ownA acc)]),(3,.box [.list (intsA st) (ownI st)]),(4,.box [.int .i64 0]),(5,.box [.int .i64 0]),(6,.ptr hp.length 0)],PH hp s i⟩ = some (ex,st') ∧ PTRok hp s (pTop s n i acc st) ex st' := by
 have hs' : s.length ≤ 9223372036854775807 := by omega
 intro n
 induction n with
 | zero => intro i acc st hi ha _ h; omega
 | succ n ih =>
   intro i acc st hi ha hst h
   rw [loopD_eq,loopBody]
   simp only [pTop]
   by_cases h0 : i < s.length
   · have h1 : (i:Int) < (s.length : Int) := by omega
     have e1 : callD G0 IP n_sp_expression [.ptr hp.length 0,.int .i64 0] (PH hp s i) lo false = some (outE hp s (pOne s (2 * s.length) i 0)) := (expr_W hs hlo (2 * s.length)).1 i 0 h0 (by omega) (by omega)
     have hc1 : (st.length + 1) * 8 ≤ 140737488355328 := by omega
     have hc2 : st.length + 1 ≤ 9223372036854775807 := by omega
     simp only [if_pos h0]
     cases hx : pOne s (2 * s.length) i 0 with
     | err j e =>
       rw [hx] at e1
       simp only [outE] at e1
       simp [l_sx_all_0,h1,e1,hc1,hc2,ownI_ok]
       exact ⟨_,_,⟨rfl,rfl⟩,rfl,rfl,_,_,_,_,rfl,rfl,rfl,rfl⟩
     | ok x j =>
       rw [hx] at e1
       simp only [outE] at e1
       obtain ⟨hj1,hj2⟩ := (p_le s _).1 i 0 x j h0 hx
       have hsk := skipN_le (s := s) (i := j) hj2
       have e2 := skip2_D (hp := hp) (lo := lo) hs' hlo j hj2
       obtain ⟨ex,st',e3,e4⟩ := ih (skipN s j) (acc ++ [x]) (st ++ [i]) hsk.2 (by simp; omega) (by simp; omega) (by omega)
       have hb1 : (acc.length + 1) * 40 ≤ 140737488355328 := by omega
       have hb2 : acc.length + 1 ≤ 9223372036854775807 := by omega
       rw [S.av_eq] at e1
       rw [S.avs_app,ownA_app,ownI_app,show S.avs [x] = [.agg [.str x.atom,.list (S.avs x.list) (ownB x.o)]] by simp [S.avs,S.av_eq]] at e3
       refine ⟨ex,st',?_,e4⟩
       simp [l_sx_all_0,h1,e1,e2,hb1,hb2,hc1,hc2,ownA_ok,ownI_ok,Fr.noLast]
       rw [show intsA (st ++ [i]) = intsA st ++ [AV.int .i64 (i:Int)] by simp [intsA]] at e3
       exact e3
   · have h1 : i = s.length := by omega
     subst h1
     simp only [if_neg h0,PTRok]
     simp [l_sx_all_0]
theorem recv_D (hp:List HObj) (v2 v3 v4 v5:AV) (j:Nat) (e:Int) (lo:Nat) (hlo:lo ≤ hp.length) : evalRecv G0 IP (callD G0 IP) (loopD G0 IP lo) lo n_sx_all_1 [.ptr hp.length 0,.ptr (hp.length + 1) 0,.ptr (hp.length + 2) 0,.ptr (hp.length + 3) 0]
   (hp ++ [.cells 0 [v2],.cells 0 [v3],.cells 0 [v4],.cells 0 [v5]]) (failAV j e) = some (hp ++ [.cells 0 [.list [] .nil],.cells 0 [.list [] .nil],.cells 0 [.int .i64 j],.cells 0 [.int .i64 e]]) := by
 have h1 : lo ≤ hp.length + 1 := by omega
 have h2 : lo ≤ hp.length + 2 := by omega
 have h3 : lo ≤ hp.length + 3 := by omega
 simp [IP_sx_all_1,i_sx_all_1,hlo,h1,h2,h3,List.getElem?_append_right,List.set_append_right]
theorem recv0_D (hp:List HObj) (v2 v3 v4 v5:AV) (lo:Nat) : evalRecv G0 IP (callD G0 IP) (loopD G0 IP lo) lo n_sx_all_1 [.ptr hp.length 0,.ptr (hp.length + 1) 0,.ptr (hp.length + 2) 0,.ptr (hp.length + 3) 0]
   (hp ++ [.cells 0 [v2],.cells 0 [v3],.cells 0 [v4],.cells 0 [v5]]) .nili = some (hp ++ [.cells 0 [v2],.cells 0 [v3],.cells 0 [v4],.cells 0 [v5]]) := by
 simp [IP_sx_all_1,i_sx_all_1]
end
end Go.Proofs.YtkofimhnehkdoaaGreatDoor.Rf
end
section
namespace Go.Proofs.YtkofimhnehkdoaaGreatDoor.Rf
def outAll : PTR → AV
 | .ok l st => .tup [.list (S.avs l) (ownB l.isEmpty),.list (intsA st) (ownB st.isEmpty),.int .i64 0,.int .i64 0]
 | .err j e => .tup [.list [] .nil,.list [] .nil,.int .i64 j,.int .i64 e]
theorem ints_closed (n:Nat) : ∀ l : List Nat,AV.closedL n (intsA l) = true
 | [] => rfl
 | x :: r => by simp [intsA,AV.closedL]; simpa [intsA] using ints_closed n r
theorem PH_fold (hp:List HObj) (s:List UInt8) (v:Int) : hp ++ [.cells 0 [.str s,.int .i64 v,.list [] .nil]] = PH hp s v := rfl
theorem get4_2 {α:Type} (xs:List α) (a b c d:α) (h:xs.length + 1 + 1 < (xs ++ [a,b,c,d]).length) : (xs ++ [a,b,c,d])[xs.length + 1 + 1] = c := by
 rw [List.getElem_append_right (by omega)]
 simp [show xs.length + 1 + 1 - xs.length = 2 by omega]
theorem get4_3 {α:Type} (xs:List α) (a b c d:α) (h:xs.length + 1 + 1 + 1 < (xs ++ [a,b,c,d]).length) : (xs ++ [a,b,c,d])[xs.length + 1 + 1 + 1] = d := by
 rw [List.getElem_append_right (by omega)]
 simp [show xs.length + 1 + 1 + 1 - xs.length = 3 by omega]
section
variable {s:List UInt8} {hp:List HObj} {lo:Nat}
theorem all_D (q:Bool) : callD G0 IP n_sx_all [.str s] hp lo q = some (.ret (outAll (pAll s)) hp) := by
 rw [callD_eq]
 by_cases hs : s.length ≤ 65536
 · have h1 : ¬ (65536:Int) < (s.length : Int) := by omega
   have h1' : ¬ s.length > 65536 := by omega
   have e2 : callD G0 IP n_sp_skip [.ptr hp.length 0] (PH hp s 0) hp.length false = some (.ret (.tup []) (PH hp s (skipN s 0))) := skip2_D (by omega) (Nat.le_refl _) 0 (by omega)
   have hk := skipN_le (s := s) (i := 0) (by omega)
   obtain ⟨ex,st',e3,e4⟩ := top2_L (hp := hp) (lo := hp.length) hs (Nat.le_refl _) (s.length + 1) (skipN s 0) [] [] hk.2 (by simp) (by simp) (by omega)
   simp [ownA,ownI] at e3
   simp only [pAll,if_neg h1']
   cases hx : pTop s (s.length + 1) (skipN s 0) [] [] with
   | err j e =>
     rw [hx] at e4
     obtain ⟨rfl,e5,v2,v3,v4,v5,g2,g3,g4,g5⟩ := e4
     have hr := recv_D (PH hp s j) v2 v3 v4 v5 j e hp.length (by rw [PH_len]; omega)
     simp [-evalRecv,IP_sx_all,i_sx_all,h1,PH_fold,e2,e3,e5,g2,g3,g4,g5,hr,outAll,get4_2,get4_3]
   | ok l st =>
     rw [hx] at e4
     obtain ⟨rfl,rfl⟩ := e4
     simp [-evalRecv,IP_sx_all,i_sx_all,h1,PH_fold,e2,e3,recv0_D,outAll,get4_2,get4_3,S.avs_closed,ints_closed]
 · have h1 : (65536:Int) < (s.length : Int) := by omega
   have h1' : s.length > 65536 := by omega
   simp [IP_sx_all,i_sx_all,h1,pAll,h1',outAll]
end
end Go.Proofs.YtkofimhnehkdoaaGreatDoor.Rf
end
section
namespace Go.Proofs.YtkofimhnehkdoaaGreatDoor.Rf
theorem top_err (s:List UInt8) : ∀ n i acc st j e,pTop s n i acc st = .err j e → ¬ e = 0
 | 0,i,acc,st,j,e,h => by simp [pTop] at h
 | n + 1,i,acc,st,j,e,h => by
   simp only [pTop] at h
   split at h
   · split at h
     · rename_i hx; cases h; exact perr_ne s _ _ _ _ _ hx
     · exact top_err s n _ _ _ _ _ h
   · cases h
theorem pAll_err {s:List UInt8} {j:Nat} {e:Int} (h:pAll s = .err j e) : ¬ e = 0 := by
 unfold pAll at h
 split at h
 · cases h; simp
 · exact top_err s _ _ _ _ _ _ h
section
variable {s:List UInt8} {hp:List HObj} {lo:Nat}
theorem parseAll2_D (q:Bool) : callD G0 IP n_sx_ParseAll [.str s] hp lo q = some (.ret (outA (fun l => ownB l.isEmpty) (pAll s)) hp) := by
 rw [callD_eq]
 have e1 : ∀ q,callD G0 IP n_sx_all [.str s] hp hp.length q = some (.ret (outAll (pAll s)) hp) := fun q => all_D q
 cases hx : pAll s with
 | err j e =>
   simp only [hx,outAll] at e1
   simp [IP_sx_ParseAll,i_sx_ParseAll,e1,outA]
 | ok l st =>
   simp only [hx,outAll] at e1
   simp [IP_sx_ParseAll,i_sx_ParseAll,e1,outA,S.avs_closed]
end
end Go.Proofs.YtkofimhnehkdoaaGreatDoor.Rf
end
section
namespace Go.Proofs.YtkofimhnehkdoaaGreatDoor.Rf
section
variable {hp:List HObj} {lo:Nat}
end
theorem p_wf (s : List UInt8) (hs:s.length ≤ 65536) : ∀ n,(∀ i d x j,i < s.length → pOne s n i d = .ok x j → x.wf) ∧ (∀ i d acc j acc',i ≤ s.length → acc.length ≤ i → (∀ t,t ∈ acc → t.wf) → pLoop s n i d acc = .stop j acc' → ∀ t,t ∈ acc' → t.wf)
 | 0 => ⟨fun i d x j hi h => by simp [pOne] at h,fun i d acc j acc' hi ha hw h => by simp [pLoop] at h; obtain ⟨_,rfl⟩ := h; exact hw⟩
 | n + 1 => by
   obtain ⟨h1,h2⟩ := p_wf s hs n
   refine ⟨fun i d x j hi h => ?_,fun i d acc j acc' hi ha hw h => ?_⟩
   · simp only [pOne] at h
     have hk := skipN_le (s := s) (i := i + 1) (by omega)
     split at h
     · split at h
       · cases h
       · split at h
         · cases h
         · rename_i j' acc' hl
           have hle := (p_le s n).2 _ _ _ _ _ hk.2 (by simp) hl
           have hw := h2 _ _ _ _ _ hk.2 (by simp) (by simp) hl
           split at h
           · cases h
           · cases h
             rw [S.wf_eq]
             simp only [S.atom,S.list,S.o]
             exact ⟨by simp,by omega,by simp,hw⟩
     · split at h
       · split at h
         · cases h
         · cases h
           rw [S.wf_eq]
           simp only [S.atom,S.list,S.o]
           exact ⟨by simp; omega,by simp,by simp,by simp⟩
       · cases h
   · simp only [pLoop] at h
     split at h
     · rename_i hlt
       split at h
       · cases h; exact hw
       · split at h
         · cases h
         · rename_i x j' ho
           have hj := (p_le s n).1 _ _ _ _ hlt ho
           have hk := skipN_le (s := s) (i := j') (by omega)
           refine h2 _ _ _ _ _ hk.2 (by simp; omega) (fun t ht => ?_) h
           rcases List.mem_append.1 ht with ht | ht
           · exact hw t ht
           · simp at ht; subst ht; exact h1 _ _ _ _ hlt ho
     · cases h; exact hw
theorem top_wf (s:List UInt8) (hs:s.length ≤ 65536) : ∀ n i acc st l st',i ≤ s.length → acc.length ≤ i → (∀ t,t ∈ acc → t.wf) → pTop s n i acc st = .ok l st' → (∀ t,t ∈ l → t.wf) ∧ l.length ≤ s.length
 | 0,i,acc,st,l,st',hi,ha,hw,h => by simp [pTop] at h; obtain ⟨rfl,rfl⟩ := h; exact ⟨hw,by omega⟩
 | n + 1,i,acc,st,l,st',hi,ha,hw,h => by
   simp only [pTop] at h
   split at h
   · rename_i hlt
     split at h
     · cases h
     · rename_i x j hx
       have hj := (p_le s _).1 _ _ _ _ hlt hx
       have hk := skipN_le (s := s) (i := j) (by omega)
       refine top_wf s hs n _ _ _ _ _ hk.2 (by simp; omega) (fun t ht => ?_) h
       rcases List.mem_append.1 ht with ht | ht
       · exact hw t ht
       · simp at ht; subst ht; exact (p_wf s hs _).1 _ _ _ _ hlt hx
   · cases h; exact ⟨hw,by omega⟩
theorem pAll_wf {s:List UInt8} {l:List S} {st:List Nat} (h:pAll s = .ok l st) : (∀ t,t ∈ l → t.wf) ∧ l.length ≤ 65536 := by
 unfold pAll at h
 split at h
 · cases h
 · have hk := skipN_le (s := s) (i := 0) (by omega)
   have := top_wf s (by omega) _ _ _ _ _ _ hk.2 (by simp) (by simp) h
   exact ⟨this.1,by omega⟩
end Go.Proofs.YtkofimhnehkdoaaGreatDoor.Rf
end
section
namespace Go.Proofs.YtkofimhnehkdoaaGreatDoor.Rf
@[simp] theorem cp_data (xs:List AV) (e:Nat) : AV.cp (.data xs e) = .data xs e := rfl
abbrev bytesA (bs:List UInt8) : List AV := bs.map fun b => AV.int .u8 (b.toNat : Int)
def BW (hp:List HObj) (bs:List UInt8) : List HObj := hp ++ [.cells 110 [.ptr hp.length 0,.list (bytesA bs) (.own 1 5)]]
def B0 (hp:List HObj) : List HObj := hp ++ [.cells 110 [.nilp,.list [] .nil]]
def BH (hp:List HObj) (bs:List UInt8) : List HObj := if bs = [] then B0 hp else BW hp bs
section
variable {hp:List HObj} {lo:Nat}
@[simp] theorem BW_get (bs:List UInt8) : (BW hp bs)[hp.length]? = some (.cells 110 [.ptr hp.length 0,.list (bytesA bs) (.own 1 5)]) := by simp [BW]
@[simp] theorem B0_get : (B0 hp)[hp.length]? = some (.cells 110 [.nilp,.list [] .nil]) := by simp [B0]
@[simp] theorem okSize_bytes (bs:List UInt8) : okSize 1 (bytesA bs) = true := by cases bs <;> simp [bytesA]
theorem copyW_D (hlo:lo ≤ hp.length) (bs:List UInt8) : callD G0 IP n_sb_copyCheck [.ptr hp.length 0] (BW hp bs) lo false = some (.ret (.tup []) (BW hp bs)) := by
 rw [callD_eq]
 simp [IP_sb_copyCheck,i_sb_copyCheck]
theorem copy0_D (hlo:lo ≤ hp.length) : callD G0 IP n_sb_copyCheck [.ptr hp.length 0] (B0 hp) lo false = some (.ret (.tup []) (hp ++ [.cells 110 [.ptr hp.length 0,.list [] .nil]])) := by
 rw [callD_eq]
 simp [IP_sb_copyCheck,i_sb_copyCheck,hlo]
 simp [B0]
theorem wbyte_D (hlo:lo ≤ hp.length) (bs:List UInt8) (c:UInt8) (hb:bs.length + 1 ≤ 140737488355328) : callD G0 IP n_sb_WriteByte [.ptr hp.length 0,.int .u8 c.toNat] (BH hp bs) lo false = some (.ret .nili (BH hp (bs ++ [c]))) := by
 rw [callD_eq]
 have h63 : bs.length + 1 ≤ 9223372036854775807 := by omega
 by_cases h0 : bs = []
 · subst h0
   have e1 := copy0_D (hp := hp) (lo := lo) hlo
   simp [IP_sb_WriteByte,i_sb_WriteByte,BH,e1,hlo]
   simp [BW]
 · have e1 := copyW_D (hp := hp) (lo := lo) hlo bs
   simp [IP_sb_WriteByte,i_sb_WriteByte,BH,h0,e1,hlo,hb,h63]
   simp [BW]
theorem wstr_D (hlo:lo ≤ hp.length) (bs cs:List UInt8) (hc:cs ≠ []) (hb:bs.length + cs.length ≤ 140737488355328) : callD G0 IP n_sb_WriteString [.ptr hp.length 0,.str cs] (BH hp bs) lo false = some (.ret (.tup [.int .i64 cs.length,.nili]) (BH hp (bs ++ cs))) := by
 rw [callD_eq]
 have h63 : bs.length + cs.length ≤ 9223372036854775807 := by omega
 by_cases h0 : bs = []
 · subst h0
   have e1 := copy0_D (hp := hp) (lo := lo) hlo
   have hb' : cs.length ≤ 140737488355328 := by simpa using hb
   have h63' : cs.length ≤ 9223372036854775807 := by omega
   simp [IP_sb_WriteString,i_sb_WriteString,BH,e1,hlo,hc,hb',h63']
   simp [BW]
 · have e1 := copyW_D (hp := hp) (lo := lo) hlo bs
   simp [IP_sb_WriteString,i_sb_WriteString,BH,h0,hc,e1,hlo,hb,h63]
   simp [BW]
theorem bytesOf_bytes : ∀ bs : List UInt8,bytesOf (bytesA bs) = some bs
 | [] => rfl
 | b :: r => by
   have h := bytesOf_bytes r
   have h1 : (b.toNat : Int) < 256 := by have := b.toNat_lt; omega
   simp only [bytesA,List.map_cons,bytesOf]
   rw [if_pos ⟨by omega,h1⟩]
   simp only [bytesA] at h
   rw [h]; simp
theorem bstr_D (hlo:lo ≤ hp.length) (bs:List UInt8) (hb:bs.length ≤ 140737488355328) : callD G0 IP n_sb_String [.ptr hp.length 0] (BH hp bs) lo false = some (.ret (.str bs) (BH hp bs)) := by
 rw [callD_eq]
 have h63 : (bs.length : Int) ≤ 9223372036854775807 := by omega
 by_cases h0 : bs = []
 · subst h0
   simp [IP_sb_String,i_sb_String,BH]
 · have h1 := bytesOf_bytes bs
   simp only [bytesA] at h1
   simp [IP_sb_String,i_sb_String,BH,h0,Own.cp_own,Own.cp_view,h1,h63]
end
mutual
def S.text : S → List UInt8
 | .mk a _ l => if a = [] then 40 :: (S.texts true l ++ [41]) else a
def S.texts : Bool → List S → List UInt8
 | _,[] => []
 | b,t :: r => (if b then [] else [32]) ++ (t.text ++ S.texts false r)
end
theorem S.text_eq (t:S) : t.text = if t.atom = [] then 40 :: (S.texts true t.list ++ [41]) else t.atom := by cases t; rfl
theorem S.text_ne (t:S) : t.text ≠ [] := by
 rw [S.text_eq]; split <;> simp_all
theorem S.texts_app (b:Bool) : ∀ (l:List S) (t:S),S.texts b (l ++ [t]) = S.texts b l ++ ((if b && l.isEmpty then [] else [32]) ++ t.text)
 | [],t => by cases b <;> simp [S.texts]
 | u :: r,t => by
   rw [List.cons_append]
   simp only [S.texts]
   rw [S.texts_app false r t]
   simp
section
variable {hp:List HObj} {lo:Nat}
theorem texts_take_len {b:Bool} {l:List S} {i:Nat} (h:i < l.length) : S.texts b (l.take (i + 1)) = S.texts b (l.take i) ++ ((if b && decide (i = 0) then [] else [32]) ++ l[i].text) := by
 rw [List.take_succ_eq_append_getElem h,S.texts_app]
 have : (l.take i).isEmpty = decide (i = 0) := by
   cases i with
   | zero => simp
   | succ i => cases l with
     | nil => simp at h
     | cons x r => simp
 rw [this]
theorem texts_le {b:Bool} (l:List S) (i:Nat) : (S.texts b (l.take i)).length ≤ (S.texts b l).length := by
 have : ∀ (l:List S) (b:Bool) (i:Nat),(S.texts b (l.take i)).length ≤ (S.texts b l).length := by
   intro l
   induction l with
   | nil => intro b i; simp
   | cons x r ih =>
     intro b i
     cases i with
     | zero => simp [S.texts]
     | succ i =>
       simp only [List.take_succ_cons,S.texts,List.length_append]
       have := ih false i
       omega
 exact this l b i
theorem write_D (t:S) : t.wf → ∀ {hp:List HObj} {lo:Nat},lo ≤ hp.length → ∀ (bs:List UInt8),bs.length + t.text.length ≤ 140737488355328 → callD G0 IP n_sx_write [.ptr hp.length 0,t.av] (BH hp bs) lo false = some (.ret (.tup []) (BH hp (bs ++ t.text))) := by
 induction t using S.ind with | h t ih =>
 intro hw hp lo hlo bs hb
 rw [S.wf_eq] at hw
 obtain ⟨_,hl,_,hws⟩ := hw
 rw [callD_eq]
 have ht := S.text_eq t
 by_cases ha : t.atom = []
 · rw [if_pos ha] at ht
   rw [ht] at hb ⊢
   simp only [List.length_cons,List.length_append,List.length_nil] at hb
   have e1 := wbyte_D (hp := hp) (lo := lo) hlo bs 40 (by omega)
   have e2 := wbyte_D (hp := hp) (lo := lo) hlo (bs ++ 40 :: S.texts true t.list) 41 (by simp; omega)
   have hloop := loop_iter (G := G0) (IP := IP) (lo := lo) (b := l_sx_write_0)
     (fun i => ⟨[(0,.ptr hp.length 0),(16,.list (S.avs t.list) (ownB t.o)),(17,.int .i64 t.list.length),(18,.int .i64 i)],BH hp (bs ++ 40 :: S.texts true (t.list.take i))⟩) t.list.length
     (r := (.exit 0,⟨[(0,.ptr hp.length 0),(16,.list (S.avs t.list) (ownB t.o)),(17,.int .i64 t.list.length),(18,.int .i64 t.list.length),(19,.bool false)],BH hp (bs ++ 40 :: S.texts true t.list)⟩)) (fun i hi => by
       have hle := texts_le (b := true) t.list (i + 1)
       rw [texts_take_len hi] at hle
       simp only [List.length_append] at hle
       have hw := wrap_succ hi hl
       have hiI : (i:Int) < (t.list.length : Int) := by omega
       by_cases h0 : i = 0
       · subst h0
         have e3 := ih t.list[0] (List.getElem_mem hi) (hws _ (List.getElem_mem hi)) hlo (bs ++ [40]) (by simp at hle ⊢; omega)
         rw [S.av_eq] at e3
         rw [texts_take_len hi]
         simp [l_sx_write_0,hi,S.av_eq t.list[0],S.texts] at e3 ⊢
         simp [e3,show IntKind.wrap .i64 1 = 1 from rfl]
       · have h0' : 0 < i := by omega
         have hle2 : ((if true && decide (i = 0) then ([] : List UInt8) else [32])).length = 1 := by simp [h0]
         rw [hle2] at hle
         have e4 := wbyte_D (hp := hp) (lo := lo) hlo (bs ++ 40 :: S.texts true (t.list.take i)) 32 (by simp; omega)
         have e3 := ih t.list[i] (List.getElem_mem hi) (hws _ (List.getElem_mem hi)) hlo (bs ++ 40 :: S.texts true (t.list.take i) ++ [32]) (by simp; omega)
         rw [S.av_eq] at e3
         rw [texts_take_len hi,← hw]
         simp at e3 e4
         simp [l_sx_write_0,hi,hiI,h0,h0',S.av_eq t.list[i],e3,e4])
     (by simp [l_sx_write_0]) (by simp)
   simp [S.texts] at hloop
   simp at e1 e2
   rw [S.av_eq t]
   simp [IP_sx_write,i_sx_write,ha,e1,e2,hloop]
 · rw [if_neg ha] at ht
   rw [ht] at hb ⊢
   have e1 := wstr_D (hp := hp) (lo := lo) hlo bs t.atom ha hb
   rw [S.av_eq t]
   simp [IP_sx_write,i_sx_write,ha,e1]
end
end Go.Proofs.YtkofimhnehkdoaaGreatDoor.Rf
end
section
namespace Go.Proofs.YtkofimhnehkdoaaGreatDoor.Rf
def allText : List S → List UInt8
 | [] => []
 | t :: r => t.text ++ (10 :: allText r)
theorem allText_app : ∀ (l:List S) (t:S),allText (l ++ [t]) = allText l ++ (t.text ++ [10])
 | [],t => by simp [allText]
 | u :: r,t => by simp [allText,allText_app r t]
theorem allText_take {l:List S} {i:Nat} (h:i < l.length) : allText (l.take (i + 1)) = allText (l.take i) ++ (l[i].text ++ [10]) := by
 rw [List.take_succ_eq_append_getElem h,allText_app]
theorem allText_le : ∀ (l:List S) (i:Nat),(allText (l.take i)).length ≤ (allText l).length
 | [],i => by simp
 | x :: r,0 => by simp [allText]
 | x :: r,i + 1 => by
   have := allText_le r i
   simp only [List.take_succ_cons,allText,List.length_append,List.length_cons]; omega
section
variable {hp:List HObj} {lo:Nat}
theorem B0_fold (hp:List HObj) : hp ++ [.cells 110 [.nilp,.list [] .nil]] = BH hp [] := rfl
theorem print2_D {t:S} (hw:t.wf) (hb:t.text.length ≤ 140737488355328) (q:Bool) : callD G0 IP n_sx_Print [t.av] hp lo q = some (.ret (.str t.text) hp) := by
 rw [callD_eq]
 have e1 := write_D t hw (hp := hp) (lo := hp.length) (Nat.le_refl _) [] (by simpa using hb)
 have e2 := bstr_D (hp := hp) (lo := hp.length) (Nat.le_refl _) t.text hb
 rw [S.av_eq] at e1
 simp at e1
 rw [S.av_eq]
 simp [IP_sx_Print,i_sx_Print,B0_fold,e1,e2]
end
section
variable {lo:Nat}
end
end Go.Proofs.YtkofimhnehkdoaaGreatDoor.Rf
end
section
namespace Go.Proofs.YtkofimhnehkdoaaGreatDoor.Rf
theorem skipK_fuel (s:List UInt8) : ∀ (n m i:Nat),s.length - i ≤ n → s.length - i ≤ m → skipK s n i = skipK s m i
 | 0,0,i,_,_ => rfl
 | 0,m + 1,i,h,_ => by simp only [skipK]; rw [if_neg (by omega)]
 | n + 1,0,i,_,h => by simp only [skipK]; rw [if_neg (by omega)]
 | n + 1, m + 1,i,h1,h2 => by
   simp only [skipK]
   split
   · rename_i hi
     split
     · exact skipK_fuel s n m _ (by omega) (by omega)
     · split
       · rename_i h59
         have hgt : i < comK s (s.length - i) i := by
           obtain ⟨k,hk⟩ : ∃ k,s.length - i = k + 1 := ⟨s.length - i - 1,by omega⟩
           rw [hk]; simp only [comK,h59]
           have := comK_le s k (i + 1)
           simp; omega
         exact skipK_fuel s n m _ (by omega) (by omega)
       · rfl
   · rfl
theorem skipN_end {s:List UInt8} {i:Nat} (h:s.length ≤ i) : skipN s i = i := by
 unfold skipN
 cases hs : s.length with
 | zero => rfl
 | succ n => simp only [skipK]; rw [if_neg (by omega)]
theorem skipN_step {s:List UInt8} {i:Nat} (h:i < s.length) : skipN s i = if blankC (byt s i) then skipN s (i + 1) else if byt s i = 59 then skipN s (comK s (s.length - i) i) else i := by
 have h1 : skipN s i = skipK s (s.length + 1) i := skipK_fuel s _ _ i (by omega) (by omega)
 rw [h1]
 simp only [skipK,if_pos h]
 rfl
theorem byt_app {pre post:List UInt8} {c:UInt8} : byt (pre ++ c :: post) pre.length = (c.toNat : Int) := by
 simp [byt]
def tokC (c:UInt8) : Bool := !blankC (c.toNat : Int) && !decide ((c.toNat : Int) = 59)
theorem skipN_tok {pre post:List UInt8} {c:UInt8} (h:tokC c = true) : skipN (pre ++ c :: post) pre.length = pre.length := by
 simp only [tokC,Bool.and_eq_true,Bool.not_eq_true',decide_eq_false_iff_not] at h
 rw [skipN_step (by simp),byt_app,h.1]
 simp [h.2]
def Gp (g:List UInt8) : Prop := ∀ pre post,skipN (pre ++ (g ++ post)) pre.length = skipN (pre ++ (g ++ post)) (pre.length + g.length)
theorem Gp.nil : Gp [] := fun pre post => by simp
theorem Gp.blank {c:UInt8} (h:blankC (c.toNat : Int) = true) : Gp [c] := fun pre post => by
 have : pre ++ ([c] ++ post) = pre ++ c :: post := by simp
 rw [this,skipN_step (by simp),byt_app,h]; simp
theorem Gp.app {a b:List UInt8} (ha:Gp a) (hb:Gp b) : Gp (a ++ b) := fun pre post => by
 have h1 := ha pre (b ++ post)
 have h2 := hb (pre ++ a) post
 simp only [List.append_assoc,List.length_append] at h1 h2 ⊢
 rw [h1,h2]; congr 1; omega
theorem atomK_all (s:List UInt8) : ∀ (a pre post:List UInt8) (k:Nat),s = pre ++ (a ++ post) → (∀ c,c ∈ a → plainC (c.toNat : Int) = true) → (∀ c r,post = c :: r → plainC (c.toNat : Int) = false) → a.length + post.length = k → atomK s k pre.length = pre.length + a.length
 | [],pre,post,k,hs,ha,hp,hk => by
   cases post with
   | nil => simp at hk; subst hk; rfl
   | cons c r =>
     obtain ⟨k',rfl⟩ : ∃ k',k = k' + 1 := ⟨k - 1,by simp at hk; omega⟩
     have hb : byt s pre.length = (c.toNat : Int) := by rw [hs]; exact byt_app
     simp only [atomK,hb,hp c r rfl]; simp
 | c :: a,pre,post,k,hs,ha,hp,hk => by
   obtain ⟨k',rfl⟩ : ∃ k',k = k' + 1 := ⟨k - 1,by simp at hk; omega⟩
   have hb : byt s pre.length = (c.toNat : Int) := by rw [hs]; exact byt_app
   have ih := atomK_all s a (pre ++ [c]) post k' (by rw [hs]; simp) (fun x hx => ha x (by simp [hx])) hp (by simp at hk; omega)
   simp only [atomK,hb,ha c (by simp),if_true]
   simp at ih
   rw [ih]; simp; omega
theorem plain_tok {c:UInt8} (h:plainC (c.toNat : Int) = true) : tokC c = true ∧ ¬ (c.toNat : Int) = 40 ∧ ¬ (c.toNat : Int) = 41 := by
 simp only [plainC,Bool.and_eq_true,decide_eq_true_eq,Bool.not_eq_true',decide_eq_false_iff_not] at h
 obtain ⟨h1,h2,h3,h4,h5⟩ := h
 refine ⟨?_,h3,h4⟩
 simp only [tokC,blankC,Bool.and_eq_true,Bool.not_eq_true',decide_eq_false_iff_not,Bool.or_eq_false_iff]
 exact ⟨⟨by omega,by omega,by omega,by omega⟩,h5⟩
mutual
inductive Enc : S → List UInt8 → Prop
 | atom {a:List UInt8} {o:Bool} : a ≠ [] → (∀ c,c ∈ a → plainC (c.toNat : Int) = true) → Enc (.mk a o []) a
 | list {o:Bool} {l:List S} {b:List UInt8} : EncL l b → Enc (.mk [] o l) (40 :: (b ++ [41]))
inductive EncL : List S → List UInt8 → Prop
 | nil {g:List UInt8} : Gp g → EncL [] g
 | cons {g e b:List UInt8} {t:S} {r:List S} : Gp g → Enc t e → EncL r b → (t.atom ≠ [] → ∀ c r,b = c :: r → plainC (c.toNat : Int) = false) → EncL (t :: r) (g ++ (e ++ b))
end
mutual
def S.depth : S → Nat
 | .mk a _ l => if a = [] then S.depths l + 1 else 1
def S.depths : List S → Nat
 | [] => 0
 | t :: r => max t.depth (S.depths r)
end
theorem S.depth_eq (t:S) : t.depth = if t.atom = [] then S.depths t.list + 1 else 1 := by cases t; rfl
theorem S.sames_app : ∀ (a b:List S) (x y:S),S.sames a b = true → x.same y = true → S.sames (a ++ [x]) (b ++ [y]) = true
 | [],[],x,y,_,h => by simp [S.sames,h]
 | t :: r,u :: s,x,y,h,k => by
   simp only [S.sames,Bool.and_eq_true] at h
   simp only [List.cons_append,S.sames,Bool.and_eq_true]
   exact ⟨h.1,S.sames_app r s x y h.2 k⟩
 | [],_ :: _,_,_,h,_ => by simp [S.sames] at h
 | _ :: _,[],_,_,h,_ => by simp [S.sames] at h
theorem Enc.head {t:S} {e:List UInt8} (h:Enc t e) : ∃ c r,e = c :: r ∧ tokC c = true ∧ ¬ (c.toNat : Int) = 41 := by
 cases h with
 | atom h1 h2 =>
   cases e with
   | nil => exact absurd rfl h1
   | cons c r => exact ⟨c,r,rfl,(plain_tok (h2 c (by simp))).1,(plain_tok (h2 c (by simp))).2.2⟩
 | list h1 => exact ⟨40,_,rfl,by decide,by decide⟩
theorem enc_both (n:Nat) : (∀ (t:S) (e pre post:List UInt8) (d:Nat),Enc t e → t.depth + d ≤ 64 → (t.atom ≠ [] → ∀ c r,post = c :: r → plainC (c.toNat : Int) = false) → 2 * (e.length + post.length) ≤ n →
     ∃ x,pOne (pre ++ (e ++ post)) n pre.length d = .ok x (pre.length + e.length) ∧ x.same t = true) ∧
   (∀ (l:List S) (b pre post:List UInt8) (d:Nat) (acc base:List S),EncL l b → S.depths l + d + 1 ≤ 64 → S.sames acc base = true → 2 * (b.length + (post.length + 1)) + 1 ≤ n →
     ∃ acc',pLoop (pre ++ (b ++ (41 :: post))) n (skipN (pre ++ (b ++ (41 :: post))) pre.length) d acc = .stop (pre.length + b.length) acc' ∧ S.sames acc' (base ++ l) = true) := by
 induction n with
 | zero =>
   refine ⟨fun t e pre post d he _ _ hn => ?_,fun l b pre post d acc base _ _ _ hn => absurd hn (by omega)⟩
   obtain ⟨c,r,rfl,_⟩ := he.head
   simp at hn
   omega
 | succ n ih =>
   obtain ⟨ih1,ih2⟩ := ih
   refine ⟨fun t e pre post d he hd hp hn => ?_,fun l b pre post d acc base hl hd hs hn => ?_⟩
   · cases he with
     | atom h1 h2 =>
       rename_i o
       cases hee : e with
       | nil => exact absurd hee h1
       | cons c r =>
         have hb : byt (pre ++ (e ++ post)) pre.length = (c.toNat : Int) := by rw [hee]; exact byt_app
         obtain ⟨k1,k2,k3⟩ := plain_tok (h2 c (by rw [hee]; simp))
         have hpl := h2 c (by rw [hee]; simp)
         have ha := atomK_all (pre ++ (e ++ post)) e pre post (e.length + post.length) rfl h2 (hp h1) rfl
         have hd' : ¬ d ≥ 64 := by
           have : (S.mk e o []).depth = 1 := by simp [S.depth,h1]
           rw [this] at hd; omega
         have hN : atomN (pre ++ (e ++ post)) pre.length = pre.length + e.length := by
           unfold atomN
           rw [show (pre ++ (e ++ post)).length - pre.length = e.length + post.length by simp]
           exact ha
         rw [← hee]
         refine ⟨.mk (((pre ++ (e ++ post)).take (pre.length + e.length)).drop pre.length) true [],?_,?_⟩
         · simp only [pOne,hb,if_neg k2,hpl,if_true,if_neg hd',hN]
         · simp [S.same,S.sames,List.take_append]
     | list h1 =>
       rename_i o l b
       have hb : byt (pre ++ ((40 :: (b ++ [41])) ++ post)) pre.length = ((40:UInt8).toNat : Int) := byt_app
       have hd0 : S.depths l + 1 + d ≤ 64 := by rw [S.depth_eq] at hd; simpa [S.atom,S.list] using hd
       have hd' : ¬ d ≥ 64 := by omega
       have e0 : pre ++ ((40 :: (b ++ [41])) ++ post) = (pre ++ [40]) ++ (b ++ (41 :: post)) := by simp
       obtain ⟨acc',e1,e2⟩ := ih2 l b (pre ++ [40]) post d [] [] h1 (by omega) rfl (by simp at hn ⊢; omega)
       have hlen : (pre ++ [40]).length = pre.length + 1 := by simp
       rw [← e0,hlen] at e1
       have hne : ¬ pre.length + 1 + b.length = (pre ++ ((40 :: (b ++ [41])) ++ post)).length := by simp; omega
       refine ⟨.mk [] acc'.isEmpty acc',?_,?_⟩
       · simp only [pOne,hb,show (((40:UInt8).toNat : Int) = 40) from rfl,if_true,if_neg hd',e1,if_neg hne]
         simp; omega
       · simp only [List.nil_append] at e2
         simp [S.same,e2]
   · cases hl with
     | nil hg =>
       have h1 := hg pre (41 :: post)
       have h2 := skipN_tok (pre := pre ++ b) (post := post) (c := 41) (by decide)
       rw [List.append_assoc,List.length_append] at h2
       rw [h1,h2]
       have hb : byt (pre ++ (b ++ 41 :: post)) (pre.length + b.length) = ((41:UInt8).toNat : Int) := by
         have := byt_app (pre := pre ++ b) (post := post) (c := 41)
         rwa [List.append_assoc,List.length_append] at this
       refine ⟨acc,?_,by simpa using hs⟩
       simp only [pLoop,hb]
       rw [if_pos (by simp),if_pos (show ((41:UInt8).toNat : Int) = 41 from rfl)]
     | cons hg he hr hsep =>
       rename_i g e b t r
       obtain ⟨c,er,hce,k1,k2⟩ := he.head
       have e0 : pre ++ ((g ++ (e ++ b)) ++ (41 :: post)) = (pre ++ g) ++ (e ++ (b ++ (41 :: post))) := by simp
       have h1 := hg pre (e ++ (b ++ (41 :: post)))
       have e0' : pre ++ (g ++ (e ++ (b ++ (41 :: post)))) = (pre ++ g) ++ (e ++ (b ++ (41 :: post))) := by simp
       rw [e0'] at h1
       have h2 : skipN ((pre ++ g) ++ (e ++ (b ++ (41 :: post)))) (pre ++ g).length = (pre ++ g).length := by
         rw [hce]; exact skipN_tok k1
       rw [List.length_append] at h2
       rw [e0,h1,h2]
       have hb : byt ((pre ++ g) ++ (e ++ (b ++ (41 :: post)))) (pre.length + g.length) = (c.toNat : Int) := by
         rw [hce]
         have := byt_app (pre := pre ++ g) (post := er ++ (b ++ (41 :: post))) (c := c)
         rwa [List.length_append] at this
       simp only [S.depths] at hd
       obtain ⟨x,e1,e2⟩ := ih1 t e (pre ++ g) (b ++ (41 :: post)) (d + 1) he (by omega) (fun ha c r hc => by
         cases b with
         | nil => simp at hc; rw [← hc.1]; rfl
         | cons c' b' => simp at hc; rw [← hc.1]; exact hsep ha c' b' rfl) (by simp at hn ⊢; omega)
       rw [List.length_append] at e1
       have hce' : 1 ≤ e.length := by rw [hce]; simp
       obtain ⟨acc',e3,e4⟩ := ih2 r b ((pre ++ g) ++ e) post d (acc ++ [x]) (base ++ [t]) hr (by omega) (S.sames_app _ _ _ _ hs e2) (by simp at hn ⊢; omega)
       have e5 : ((pre ++ g) ++ e) ++ (b ++ (41 :: post)) = (pre ++ g) ++ (e ++ (b ++ (41 :: post))) := by simp
       rw [e5,List.length_append,List.length_append] at e3
       refine ⟨acc',?_,by simpa using e4⟩
       simp only [pLoop,hb]
       rw [if_pos (by simp; omega),if_neg k2,e1]
       simp only
       rw [e3]; simp; omega
end Go.Proofs.YtkofimhnehkdoaaGreatDoor.Rf
end
section
namespace Go.Proofs.YtkofimhnehkdoaaGreatDoor.Rf
def allPlain (a:List UInt8) : Bool := a.all fun c => plainC (c.toNat : Int)
mutual
def S.right : S → Bool
 | .mk a _ l => if a = [] then S.rights l else l.isEmpty && allPlain a
def S.rights : List S → Bool
 | [] => true
 | t :: r => t.right && S.rights r
end
mutual
def S.valid : S → Nat → Bool
 | .mk a _ l,d => decide (d < 64) && (if a = [] then S.valids l (d + 1) else allPlain a && l.isEmpty)
def S.valids : List S → Nat → Bool
 | [],_ => true
 | t :: r,d => t.valid d && S.valids r d
end
theorem S.right_eq (t:S) : t.right = if t.atom = [] then S.rights t.list else t.list.isEmpty && allPlain t.atom := by cases t; rfl
theorem S.rights_iff : ∀ l : List S,S.rights l = true ↔ ∀ t,t ∈ l → t.right = true
 | [] => by simp [S.rights]
 | t :: r => by simp [S.rights,S.rights_iff r]
section
variable {hp:List HObj} {lo:Nat}
end
end Go.Proofs.YtkofimhnehkdoaaGreatDoor.Rf
end
section
namespace Go.Proofs.YtkofimhnehkdoaaGreatDoor.Rf
section
variable {hp:List HObj} {lo:Nat}
end
end Go.Proofs.YtkofimhnehkdoaaGreatDoor.Rf
end
section
namespace Go.Proofs.YtkofimhnehkdoaaGreatDoor.Rf
theorem top_enc (s:List UInt8) : ∀ (l:List S) (b pre:List UInt8) (acc base:List S) (st:List Nat) (n:Nat),EncL l b → (∀ t,t ∈ l → t.depth ≤ 64) → S.sames acc base = true → s = pre ++ b → b.length < n →
   ∃ acc' st',pTop s n (skipN s pre.length) acc st = .ok acc' st' ∧ S.sames acc' (base ++ l) = true
 | l,b,pre,acc,base,st,0,_,_,_,_,hn => absurd hn (by omega)
 | l, b,pre,acc,base,st,n + 1,he,hd,hs,hsb,hn => by
   cases he with
   | nil hg =>
     have h1 := hg pre []
     simp only [List.append_nil] at h1
     rw [← hsb] at h1
     have h2 : skipN s (pre.length + b.length) = pre.length + b.length := skipN_end (by rw [hsb]; simp)
     refine ⟨acc,st,?_,by simpa using hs⟩
     simp only [pTop]
     rw [h1,h2,if_neg (by rw [hsb]; simp)]
   | cons hg he hr hsep =>
     rename_i g e b t r
     obtain ⟨c,er,hce,k1,k2⟩ := he.head
     have e0 : s = (pre ++ g) ++ (e ++ b) := by rw [hsb]; simp
     have h1 := hg pre (e ++ b)
     rw [← hsb] at h1
     have h2 : skipN s (pre.length + g.length) = pre.length + g.length := by
       have := skipN_tok (pre := pre ++ g) (post := er ++ b) (c := c) k1
       rw [List.length_append] at this
       rwa [show (pre ++ g) ++ c :: (er ++ b) = s by rw [e0,hce]; simp] at this
     obtain ⟨x,e1,e2⟩ := (enc_both (2 * s.length)).1 t e (pre ++ g) b 0 he (by have := hd t (by simp); omega) hsep (by rw [e0]; simp; omega)
     rw [← e0,List.length_append] at e1
     obtain ⟨acc',st',e3,e4⟩ := top_enc s r b ((pre ++ g) ++ e) (acc ++ [x]) (base ++ [t]) (st ++ [pre.length + g.length]) n hr (fun u hu => hd u (by simp [hu])) (S.sames_app _ _ _ _ hs e2) (by rw [e0]; simp) (by rw [hce] at hn; simp at hn; omega)
     rw [List.length_append,List.length_append] at e3
     refine ⟨acc',st',?_,by simpa using e4⟩
     simp only [pTop]
     rw [h1,h2,if_pos (by rw [e0,hce]; simp),e1]
     exact e3
theorem pAll_enc {l:List S} {b:List UInt8} (he:EncL l b) (hd:∀ t,t ∈ l → t.depth ≤ 64) (hb:b.length ≤ 65536) : ∃ l' st,pAll b = .ok l' st ∧ S.sames l' l = true := by
 obtain ⟨l',st,h1,h2⟩ := top_enc b l b [] [] [] [] (b.length + 1) he hd rfl rfl (by omega)
 refine ⟨l',st,?_,by simpa using h2⟩
 unfold pAll
 rw [if_neg (by omega)]
 exact h1
theorem enc_text (t:S) : t.right = true → Enc t t.text := by
 induction t using S.ind with | h t ih =>
 intro hr
 have hl : ∀ (l:List S) (b:Bool),(∀ u,u ∈ l → Enc u u.text) → EncL l (S.texts b l) := by
   intro l
   induction l with
   | nil => intro b _; exact .nil Gp.nil
   | cons x r ihr =>
     intro b h
     refine .cons ?_ (h x (by simp)) (ihr false fun u hu => h u (by simp [hu])) ?_
     · cases b
       · exact Gp.blank (by decide)
       · exact Gp.nil
     · intro _ c r' hc
       cases r with
       | nil => simp [S.texts] at hc
       | cons y s => simp [S.texts] at hc; rw [← hc.1]; rfl
 cases t with
 | mk a o l =>
   simp only [S.list] at ih
   simp only [S.right] at hr
   by_cases ha : a = []
   · subst ha
     simp only [if_true] at hr
     have := hl l true fun u hu => ih u hu ((S.rights_iff l).1 hr u hu)
     simp only [S.text,if_true]
     exact .list this
   · rw [if_neg ha] at hr
     simp only [Bool.and_eq_true,List.isEmpty_iff] at hr
     obtain ⟨rfl,hp⟩ := hr
     simp only [S.text,if_neg ha]
     exact .atom ha fun c hc => by simp only [allPlain,List.all_eq_true] at hp; exact hp c hc
theorem enc_all : ∀ (l:List S) (g:List UInt8),Gp g → (∀ t,t ∈ l → t.right = true) → EncL l (g ++ allText l)
 | [],g,hg,_ => by simpa [allText] using EncL.nil hg
 | t :: r,g,hg,h => by
   have := enc_all r [10] (Gp.blank (by decide)) fun u hu => h u (by simp [hu])
   exact .cons hg (enc_text t (h t (by simp))) this fun _ c r' hc => by simp at hc; rw [← hc.1]; rfl
end Go.Proofs.YtkofimhnehkdoaaGreatDoor.Rf
end
section
namespace Go.Proofs.YtkofimhnehkdoaaGreatDoor.Rf
def ownW (acc:List T) : Own := if acc.isEmpty then .nil else .own 1 0
@[simp] theorem ownW_cp (acc:List T) : (ownW acc).cp = ownB acc.isEmpty := by cases acc <;> rfl
@[simp] theorem ownW_app (acc:List T) (x:T) : ownW (acc ++ [x]) = .own 1 0 := by cases acc <;> rfl
theorem ownW_ok (acc:List T) : ownW acc = .nil ∨ ownW acc = .own 1 0 := by cases acc <;> simp [ownW]
abbrev frT (op v w:Int) (acc:List T) (l:List S) (o:Own) (i:Int) : Fr := [(2,boxZ),(3,.int .i64 op),(7,.box [.int .i64 op,.int .i64 w,.int .u64 v,.str [],.list (T.avs acc) (ownT acc)]),(8,.list (wds acc) (ownW acc)),(75,.list (S.avs l) o),(76,.int .i64 l.length),(77,.int .i64 i)]
def outT (op v w:Int) (hp:List HObj) (acc:List T) (l:List S) (o:Own) : TRs → Ex × St → Prop
 | .err c,r => ∃ fr,r = (.pan (.iface 78 (.agg [.int .i64 c])),⟨fr,hp⟩)
 | .ok ts,r => r = (.exit 0,⟨frT op v w (acc ++ ts) l o l.length ++ [(78,.bool false)],hp⟩)
theorem outT_cons (op v w:Int) (hp:List HObj) (acc:List T) (l:List S) (o:Own) (t:T) (s:TRs) (r:Ex × St) : outT op v w hp acc l o (TRs.cons (.ok t) s) r ↔ outT op v w hp (acc ++ [t]) l o s r := by
 cases s <;> simp [outT,TRs.cons]
section
variable {hp:List HObj} {lo:Nat} (q:Bool)
set_option maxHeartbeats 1000000 in
theorem readT_L (op v w:Int) (l:List S) (o:Own) (hl10:l.length ≤ 10) : ∀ (r p:List S) (acc:List T),l = p ++ r → acc.length ≤ p.length →
   (∀ x,x ∈ r → ∀ (hp:List HObj) (lo:Nat),callD G0 IP n_tt_read [x.av] hp lo false = some ((readS x).out hp)) →
   ∃ res,loopD G0 IP lo l_tt_read_0 ⟨frT op v w acc l o p.length,hp⟩ = some res ∧ outT op v w hp acc l o (readsS r 0) res
 | [],p,acc,h,ha,_ => by
   rw [loopD_eq,loopBody]
   simp at h
   subst h
   simp [l_tt_read_0,readsS,outT]
 | x :: r,p,acc,h,ha,ih => by
   rw [loopD_eq,loopBody]
   have hlen : l.length = p.length + (r.length + 1) := by rw [h]; simp
   have h1 : (p.length : Int) < (l.length : Int) := by omega
   have hl : p.length < l.length := by omega
   have h2 : l[p.length] = x := by simp [h]
   have hw : IntKind.wrap .i64 ((p.length : Int) + 1) = (p.length : Int) + 1 := wrap_small (by omega) (by omega)
   have e1 := ih x (by simp) hp lo
   rw [readsS]
   cases hx : readS x with
   | err c =>
     rw [hx] at e1
     simp only [TR.out] at e1
     rw [S.av_eq] at e1
     simp [l_tt_read_0,hl,h1,h2,S.av_eq x,e1,TRs.cons,outT]
   | ok t =>
     rw [hx] at e1
     simp only [TR.out] at e1
     rw [S.av_eq,T.av_eq] at e1
     obtain ⟨res,e2,e3⟩ := readT_L op v w l o hl10 r (p ++ [x]) (acc ++ [t]) (by rw [h]; simp) (by simp; omega) (fun y hy => ih y (by simp [hy]))
     simp only [List.length_append,List.length_cons,List.length_nil,Nat.zero_add,Int.natCast_add,Int.natCast_one] at e2
     have hb1 : (acc.length + 1) * 64 ≤ 140737488355328 := by omega
     have hb2 : acc.length + 1 ≤ 9223372036854775807 := by omega
     have hb3 : (acc.length + 1) * 8 ≤ 140737488355328 := by omega
     rw [frT,wds_app,T.avs_app,ownT_app,ownW_app,show T.avs [t] = [.agg [.int .i64 t.op,.int .i64 t.width,.int .u64 t.val,.str t.name,.list (T.avs t.args) (ownB t.o)]] by simp [T.avs,T.av_eq]] at e2
     refine ⟨res,?_,(outT_cons ..).2 e3⟩
     simp [l_tt_read_0,hl,h1,h2,S.av_eq x,e1,hb1,hb2,hb3,ownT_ok,ownW_ok,hw]
     exact e2
theorem out_err (hp:List HObj) (c:Int) : (TR.err c).out hp = .pan (.iface 78 (.agg [.int .i64 c])) hp := rfl
theorem out_ok (hp:List HObj) (t:T) : (TR.ok t).out hp = .ret t.av hp := rfl
set_option maxHeartbeats 4000000 in
theorem readT_D (e : S) : e.sm → ∀ (hp:List HObj) (lo:Nat),callD G0 IP n_tt_read [e.av] hp lo false = some ((readS e).out hp) := by
 induction e using S.ind with | h e ih =>
 intro hsm hp lo
 rw [S.sm_eq] at hsm
 obtain ⟨ha,hs⟩ := hsm
 rw [callD_eq,S.av_eq]
 cases e with | mk a o l =>
 simp only [S.atom,S.list,S.o] at *
 rw [readS]
 by_cases h0 : a = []
 · subst h0
   rw [if_neg (by simp)]
   cases l with
   | nil =>
     simp [IP_tt_read,i_tt_read,must_D,headR,out_err]
   | cons x r =>
     have hx : (x :: r).getD 0 S.z = x := rfl
     rw [hx]
     have e1 := fun hp lo q => opOf_D (hp := hp) (lo := lo) q x.atom
     have hgt : (0:Int) < (r.length : Int) + 1 := by omega
     cases hok : (ofE x.atom).2 with
     | false =>
       have hR : headR (x :: r) = false := by unfold headR; rw [hx,hok]; simp
       rw [if_pos hR]
       simp [IP_tt_read,i_tt_read,must_D,S.avs,S.av_eq x,e1,hok,hgt,out_err]
     | true =>
       have hop := ofE_ok hok
       have hbd := arE_bd (ofE x.atom).1
       have hnb := numsN_bd (ofE x.atom).1
       have hR : headR (x :: r) = (!decide (arE (ofE x.atom).1 = 0) && decide (((x :: r).length : Int) = 1 + numsN (ofE x.atom).1 + arE (ofE x.atom).1)) := by unfold headR; rw [hx,hok]; simp
       rw [hR]
       generalize (ofE x.atom).1 = op at *
       have hge := arE_ge hop
       by_cases k1 : arE op = 0
       · rw [if_pos (by simp [k1])]
         simp [IP_tt_read,i_tt_read,must_D,S.avs,S.av_eq x,e1,hok,hgt,out_err,opLeaf_D,k1]
       · have hw2 : IntKind.wrap .i64 ((numsN op:Int) + arE op) = (numsN op:Int) + arE op := wrap_small (by omega) (by omega)
         by_cases k3 : (r.length : Int) = (numsN op:Int) + arE op
         · rw [if_neg (by simp [k1]; omega)]
           have k3' : (numsN op:Int) + arE op = (r.length : Int) := k3.symm
           have hw3 : IntKind.wrap .i64 (r.length : Int) = (r.length : Int) := by rw [k3]; exact hw2
           have ihl : ∀ y,y ∈ x :: r → ∀ (hp:List HObj) (lo:Nat),callD G0 IP n_tt_read [y.av] hp lo false = some ((readS y).out hp) := fun y hy => ih y hy (hs y hy)
           have tail : ∀ (w v:Int),0 ≤ v → ∀ (ts:List T),ts.length ≤ 10 → ∀ hp lo q (oo:Own),callD G0 IP n_oi_Width [.int .i64 op,.int .i64 w,.int .u64 v,.list (wds ts) oo] hp lo q = some (.ret (.tup [.int .i64 (widE op w v (ts.map T.width)).1,.int .i64 (widE op w v (ts.map T.width)).2]) hp) :=
             fun w v hv ts ht hp lo q oo => width_D q op w v hv (ts.map T.width) oo (by rw [List.length_map]; omega)
           have num : ∀ (y:S),y ∈ x :: r → ∀ (hp:List HObj) (lo:Nat) (m:Int) (o:Own),callD G0 IP n_tt_number [.agg [.str y.atom,.list (S.avs y.list) o],.int .u64 m] hp lo false = some (TR1 hp .u64 (numR y.atom m)) :=
             fun y hy hp lo m o => number_D y.atom o (S.avs y.list) ((S.sm_eq y).1 (hs y hy)).1 m
           have hN : ∀ hp lo q,callD G0 IP n_tt_numerals [.int .i64 op] hp lo q = some (.ret (.int .i64 (numsN op)) hp) := fun hp lo q => ttNumerals_D q op
           by_cases h21 : op = 21
           · have n2 : numsN op = 2 := by subst h21; rfl
             have a1 : arE op = 1 := by subst h21; rfl
             rw [n2,a1] at k3 k3'
             match r,k3 with
             | [y, z, u],_ =>
               simp only [n2] at hN
               have hA : ∀ hp lo q,callD G0 IP n_oi_Arity [.int .i64 op] hp lo q = some (.ret (.int .i64 1) hp) := fun hp lo q => by rw [arity_D,a1]
               have hw : IntKind.wrap .i64 3 = 3 := rfl
               have hw1 : IntKind.wrap .i64 1 = 1 := rfl
               have by1 := numR_bd y.atom 18446744073709551615 (by omega)
               have bz := numR_bd z.atom 64 (by omega)
               have wz : IntKind.wrap .i64 (numR z.atom 64).1 = (numR z.atom 64).1 := wrap_small (by omega) (by omega)
               have ey := num y (by simp)
               have ez := num z (by simp)
               have g1 : [x,y,z,u].getD 1 S.z = y := rfl
               have g2 : [x,y,z,u].getD 2 S.z = z := rfl
               have hnr : numsR op [x,y,z,u] = (if (numR y.atom 18446744073709551615).2 ≠ 0 then (0,0,(numR y.atom 18446744073709551615).2) else if (numR z.atom 64).2 ≠ 0 then (0,0,(numR z.atom 64).2) else ((numR y.atom 18446744073709551615).1,(numR z.atom 64).1,0)) := by
                 unfold numsR; rw [if_pos h21,g1,g2]
               rw [hnr]
               by_cases m1 : (numR y.atom 18446744073709551615).2 = 0
               · by_cases m2 : (numR z.atom 64).2 = 0
                 · rw [if_neg (by simp [m1,m2])]
                   simp only [m1,m2]
                   obtain ⟨res,l1,l2⟩ := readT_L (hp := hp) (lo := hp.length) op (numR y.atom 18446744073709551615).1 (numR z.atom 64).1 [u] .no (by simp) [u] [] [] rfl (by simp) (fun x hx => ihl x (by simp at hx; simp [hx]))
                   have e9 : readsS [x,y,z,u] (1 + numsN op) = readsS [u] 0 := by rw [n2]; rfl
                   rw [e9]
                   simp [frT,S.avs,S.av_eq u,ownT,ownW,T.avs] at l1
                   cases hrs : readsS [u] 0 with
                   | err c =>
                     rw [hrs] at l2
                     obtain ⟨fr,rfl⟩ := l2
                     simp [IP_tt_read,i_tt_read,must_D,S.avs,S.av_eq x,S.av_eq y,S.av_eq z,S.av_eq u,e1,hok,hgt,opLeaf_D,hA,k1,hw,hN,ey,ez,TR1,hw1,wz,m1,m2,l1,out_err,nodeR]
                   | ok ts =>
                     rw [hrs] at l2
                     simp only [outT,List.nil_append] at l2
                     subst l2
                     have htl := tail (numR z.atom 64).1 (numR y.atom 18446744073709551615).1 by1.1 ts (by have := readsS_len [u] 0 ts hrs; simp at this; omega)
                     simp only [nodeR]
                     by_cases k6 : (widE op (numR z.atom 64).1 (numR y.atom 18446744073709551615).1 (ts.map T.width)).2 = 0
                     · rw [if_neg (by simp [k6])]
                       simp [IP_tt_read,i_tt_read,must_D,S.avs,S.av_eq x,S.av_eq y,S.av_eq z,S.av_eq u,e1,hok,hgt,opLeaf_D,hA,k1,hw,hN,ey,ez,TR1,hw1,wz,m1,m2,l1,htl,k6,failT_D,out_ok,T.av]
                     · rw [if_pos (by simp [k6])]
                       simp [IP_tt_read,i_tt_read,must_D,S.avs,S.av_eq x,S.av_eq y,S.av_eq z,S.av_eq u,e1,hok,hgt,opLeaf_D,hA,k1,hw,hN,ey,ez,TR1,hw1,wz,m1,m2,l1,htl,k6,failT_D,out_err]
                 · rw [if_pos (by simp [m1,m2])]
                   simp [IP_tt_read,i_tt_read,must_D,S.avs,S.av_eq x,S.av_eq y,S.av_eq z,S.av_eq u,e1,hok,hgt,opLeaf_D,hA,k1,hw,hN,ey,ez,TR1,hw1,m1,m2,out_err]
               · rw [if_pos (by simp [m1])]
                 simp [IP_tt_read,i_tt_read,must_D,S.avs,S.av_eq x,S.av_eq y,S.av_eq z,S.av_eq u,e1,hok,hgt,opLeaf_D,hA,k1,hw,hN,ey,ez,TR1,hw1,m1,out_err]
           · by_cases h22 : op = 22 ∨ op = 23
             · have n1 : numsN op = 1 := by simp [numsN,h21,h22]
               have a1 : arE op = 1 := by rcases h22 with rfl | rfl <;> rfl
               rw [n1,a1] at k3 k3'
               match r,k3 with
               | [y, u],_ =>
                 simp only [n1] at hN
                 have hA : ∀ hp lo q,callD G0 IP n_oi_Arity [.int .i64 op] hp lo q = some (.ret (.int .i64 1) hp) := fun hp lo q => by rw [arity_D,a1]
                 have hw : IntKind.wrap .i64 2 = 2 := rfl
                 have hw1 : IntKind.wrap .i64 0 = 0 := rfl
                 have bz := numR_bd y.atom 64 (by omega)
                 have wz : IntKind.wrap .i64 (numR y.atom 64).1 = (numR y.atom 64).1 := wrap_small (by omega) (by omega)
                 have ey := num y (by simp)
                 have g1 : [x,y,u].getD 1 S.z = y := rfl
                 have hnr : numsR op [x,y,u] = (if (numR y.atom 64).2 ≠ 0 then (0,0,(numR y.atom 64).2) else (0,(numR y.atom 64).1,0)) := by
                   unfold numsR; rw [if_neg h21,if_pos h22,g1]
                 rw [hnr]
                 by_cases m2 : (numR y.atom 64).2 = 0
                 · rw [if_neg (by simp [m2])]
                   simp only [m2]
                   obtain ⟨res,l1,l2⟩ := readT_L (hp := hp) (lo := hp.length) op 0 (numR y.atom 64).1 [u] .no (by simp) [u] [] [] rfl (by simp) (fun x hx => ihl x (by simp at hx; simp [hx]))
                   have e9 : readsS [x,y,u] (1 + numsN op) = readsS [u] 0 := by rw [n1]; rfl
                   rw [e9]
                   simp [frT,S.avs,S.av_eq u,ownT,ownW,T.avs] at l1
                   cases hrs : readsS [u] 0 with
                   | err c =>
                     rw [hrs] at l2
                     obtain ⟨fr,rfl⟩ := l2
                     simp [IP_tt_read,i_tt_read,must_D,S.avs,S.av_eq x,S.av_eq y,e1,hok,hgt,opLeaf_D,hA,k1,hN,ey,TR1,hw,hw1,wz,m2,S.av_eq u,l1,out_err,nodeR]
                   | ok ts =>
                     rw [hrs] at l2
                     simp only [outT,List.nil_append] at l2
                     subst l2
                     have htl := tail (numR y.atom 64).1 0 (by omega) ts (by have := readsS_len [u] 0 ts hrs; simp at this; omega)
                     simp only [nodeR]
                     by_cases k6 : (widE op (numR y.atom 64).1 0 (ts.map T.width)).2 = 0
                     · rw [if_neg (by simp [k6])]
                       simp [IP_tt_read,i_tt_read,must_D,S.avs,S.av_eq x,S.av_eq y,e1,hok,hgt,opLeaf_D,hA,k1,hN,ey,TR1,hw,hw1,wz,m2,S.av_eq u,l1,htl,k6,failT_D,out_ok,T.av]
                     · rw [if_pos (by simp [k6])]
                       simp [IP_tt_read,i_tt_read,must_D,S.avs,S.av_eq x,S.av_eq y,e1,hok,hgt,opLeaf_D,hA,k1,hN,ey,TR1,hw,hw1,wz,m2,S.av_eq u,l1,htl,k6,failT_D,out_err]
                 · rw [if_pos (by simp [m2])]
                   simp [IP_tt_read,i_tt_read,must_D,S.avs,S.av_eq x,S.av_eq y,e1,hok,hgt,opLeaf_D,hA,k1,hN,ey,TR1,hw,hw1,m2,S.av_eq u,out_err]
             · have n0 : numsN op = 0 := by simp [numsN,h21,h22]
               simp only [n0] at hN
               rw [n0] at k3 k3' hw2
               have ha : arE op = (r.length : Int) := by omega
               have hA : ∀ hp lo q,callD G0 IP n_oi_Arity [.int .i64 op] hp lo q = some (.ret (.int .i64 r.length) hp) := fun hp lo q => by rw [arity_D,ha]
               have htk : List.take r.length (S.avs r) = S.avs r := List.take_of_length_le (by simp)
               have hnr : numsR op (x :: r) = (0,0,0) := by
                 unfold numsR; rw [if_neg h21,if_neg h22]
               rw [hnr]
               rw [if_neg (by simp)]
               obtain ⟨res,l1,l2⟩ := readT_L (hp := hp) (lo := hp.length) op 0 0 r .no (by omega) r [] [] rfl (by simp) (fun x hx => ihl x (by simp [hx]))
               have e9 : readsS (x :: r) (1 + numsN op) = readsS r 0 := by rw [n0]; rfl
               rw [e9]
               simp [frT,ownT,ownW,T.avs] at l1
               cases hrs : readsS r 0 with
               | err c =>
                 rw [hrs] at l2
                 obtain ⟨fr,rfl⟩ := l2
                 simp [IP_tt_read,i_tt_read,must_D,S.avs,S.av_eq x,e1,hok,hgt,opLeaf_D,hA,k1,hN,hw3,htk,l1,out_err,nodeR]
               | ok ts =>
                 rw [hrs] at l2
                 simp only [outT,List.nil_append] at l2
                 subst l2
                 have htl := tail 0 0 (by omega) ts (by have := readsS_len r 0 ts hrs; omega)
                 simp only [nodeR]
                 by_cases k6 : (widE op 0 0 (ts.map T.width)).2 = 0
                 · rw [if_neg (by simp [k6])]
                   simp [IP_tt_read,i_tt_read,must_D,S.avs,S.av_eq x,e1,hok,hgt,opLeaf_D,hA,k1,hN,hw3,htk,l1,htl,k6,failT_D,out_ok,T.av]
                 · rw [if_pos (by simp [k6])]
                   simp [IP_tt_read,i_tt_read,must_D,S.avs,S.av_eq x,e1,hok,hgt,opLeaf_D,hA,k1,hN,hw3,htk,l1,htl,k6,failT_D,out_err]
         · rw [if_pos (by simp [k1]; omega)]
           simp [IP_tt_read,i_tt_read,must_D,S.avs,S.av_eq x,e1,hok,hgt,out_err,opLeaf_D,ttNumerals_D,arity_D,k1,hw2,k3]
 · rw [if_pos h0]
   have e1 := fun (hp:List HObj) (lo:Nat) => leafT_D (hp := hp) (lo := lo) a h0 ha
   cases hx : leafR a with
   | err c => simp [IP_tt_read,i_tt_read,h0,e1,hx,out_err]
   | ok t => simp [IP_tt_read,i_tt_read,h0,e1,hx,out_ok,T.av_eq t]
end
end Go.Proofs.YtkofimhnehkdoaaGreatDoor.Rf
end
section
namespace Go.Proofs.YtkofimhnehkdoaaGreatDoor.Rf
mutual
theorem T.av_closed (n:Nat) : ∀ t : T,AV.closed n t.av = true
 | .mk a b c d o l => by simp [T.av,AV.closed,AV.closedL,T.avs_closed n l]
theorem T.avs_closed (n:Nat) : ∀ l : List T,AV.closedL n (T.avs l) = true
 | [] => rfl
 | t :: r => by simp [T.avs,AV.closedL,T.av_closed n t,T.avs_closed n r]
end
end Go.Proofs.YtkofimhnehkdoaaGreatDoor.Rf
end
section
namespace Go.Proofs.YtkofimhnehkdoaaGreatDoor.Rf
abbrev zCells : List AV := [.int .i64 0,.int .i64 0,.int .u64 0,.str [],.list [] .nil]
theorem recvT_D (hp:List HObj) (a b c d f v:AV) (e:Int) (lo:Nat) (hlo:lo ≤ hp.length) : evalRecv G0 IP (callD G0 IP) (loopD G0 IP lo) lo n_tt_Read_1 [.ptr hp.length 0,.ptr (hp.length + 1) 0]
   (hp ++ [.cells 0 [a,b,c,d,f],.cells 0 [v]]) (.iface 78 (.agg [.int .i64 e])) = some (hp ++ [.cells 0 zCells,.cells 0 [.int .i64 e]]) := by
 have h1 : lo ≤ hp.length + 1 := by omega
 simp [IP_tt_Read_1,i_tt_Read_1,hlo,h1,List.getElem?_append_right,List.set_append_right]
theorem recvT0_D (hp:List HObj) (a b c d f v:AV) (lo:Nat) : evalRecv G0 IP (callD G0 IP) (loopD G0 IP lo) lo n_tt_Read_1 [.ptr hp.length 0,.ptr (hp.length + 1) 0]
   (hp ++ [.cells 0 [a,b,c,d,f],.cells 0 [v]]) .nili = some (hp ++ [.cells 0 [a,b,c,d,f],.cells 0 [v]]) := by
 simp [IP_tt_Read_1,i_tt_Read_1]
section
variable {hp:List HObj} {lo:Nat} (q:Bool)
theorem read_D (e:S) (hsm:e.sm) (hp:List HObj) (lo:Nat) (q:Bool) : callD G0 IP n_tt_Read [e.av] hp lo q = some ((readS e).tup hp) := by
 have e1 := readT_D e hsm
 rw [callD_eq]
 rw [S.av_eq] at e1 ⊢
 cases hx : readS e with
 | err c =>
   rw [hx] at e1
   simp only [out_err] at e1
   simp [-evalRecv,IP_tt_Read,i_tt_Read,e1,tup_err,recvT_D]
 | ok t =>
   rw [hx] at e1
   simp only [out_ok] at e1
   rw [T.av_eq] at e1
   simp [-evalRecv,IP_tt_Read,i_tt_Read,e1,tup_ok,T.av_eq t,recvT0_D,T.avs_closed]
end
end Go.Proofs.YtkofimhnehkdoaaGreatDoor.Rf
end
section
namespace Go.Proofs.YtkofimhnehkdoaaGreatDoor.Rf
section
variable {hp:List HObj} {lo:Nat}
end
end Go.Proofs.YtkofimhnehkdoaaGreatDoor.Rf
end
