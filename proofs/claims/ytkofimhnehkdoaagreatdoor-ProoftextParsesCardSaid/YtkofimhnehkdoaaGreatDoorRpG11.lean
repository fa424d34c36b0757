/- A part of the proof: see the last text. -/
import Derived.Test.YtkofimhnehkdoaaGreatDoorRpG10
import Derived.Test.YtkofimhnehkdoaaGreatDoorRpG8
import Derived.Test.YtkofimhnehkdoaaGreatDoorRpG6
import Derived.Test.YtkofimhnehkdoaaGreatDoorRpG7
set_option linter.unusedVariables false
set_option linter.unusedSimpArgs false
section
namespace Go.Proofs.YtkofimhnehkdoaaGreatDoor.Rf
def ownW (acc:List T) : Own := if acc.isEmpty then .nil else .own 1 0
@[simp] theorem ownW_cp (acc:List T) : (ownW acc).cp = ownB acc.isEmpty := by cases acc <;> rfl
@[simp] theorem ownW_app (acc:List T) (x:T) : ownW (acc ++ [x]) = .own 1 0 := by cases acc <;> rfl
theorem ownW_ok (acc:List T) : ownW acc = .nil ∨ ownW acc = .own 1 0 := by cases acc <;> simp [ownW]
abbrev frT (op v w:Int) (acc:List T) (l:List S) (o:Own) (i:Int) : Fr := [(2,boxZ),(3,.int .i64 op),(7,.box [.int .i64 op,.int .i64 w,.int .u64 v,.str [],.list (T.avs acc) (ownT acc)]),(8,.list (wds acc) (ownW acc)),(75,.list (S.avs l) o),(76,.int .i64 l.length),(77,.int .i64 i)]
def outT (op v w:Int) (hp:List HObj) (acc:List T) (l:List S) (o:Own) : TRs → Ex × St → Prop
 | .err c,r => ∃ fr,r = (.pan (.iface 78 (.agg [.int .i64 c])),⟨fr,hp⟩)
 | .ok ts,r => r = (.exit 0,⟨frT op v w (acc ++ ts) l o l.length ++ [(78,.bool false)],hp⟩)
theorem outT_cons (op v w:Int) (hp:List HObj) (acc:List T) (l:List S) (o:Own) (t:T) (s:TRs) (r:Ex × St) : outT op v w hp acc l o (TRs.cons (.ok t) s) r ↔ outT op v w hp (acc ++ [t]) l o s r := by
 cases s <;> simp [outT,TRs.cons]
section
variable {hp:List HObj} {lo:Nat} (q:Bool)
set_option maxHeartbeats 1000000 in
theorem readT_L (op v w:Int) (l:List S) (o:Own) (hl10:l.length ≤ 10) : ∀ (r p:List S) (acc:List T),l = p ++ r → acc.length ≤ p.length →
   (∀ x,x ∈ r → ∀ (hp:List HObj) (lo:Nat),callD G0 IP n_tt_read [x.av] hp lo false = some ((readS x).out hp)) →
   ∃ res,loopD G0 IP lo l_tt_read_0 ⟨frT op v w acc l o p.length,hp⟩ = some res ∧ outT op v w hp acc l o (readsS r 0) res
 | [],p,acc,h,ha,_ => by
   rw [loopD_eq,loopBody]
   simp at h
   subst h
   simp [l_tt_read_0,readsS,outT]
 | x :: r,p,acc,h,ha,ih => by
   rw [loopD_eq,loopBody]
   have hlen : l.length = p.length + (r.length + 1) := by rw [h]; simp
   have h1 : (p.length : Int) < (l.length : Int) := by omega
   have hl : p.length < l.length := by omega
   have h2 : l[p.length] = x := by simp [h]
   have hw : IntKind.wrap .i64 ((p.length : Int) + 1) = (p.length : Int) + 1 := wrap_small (by omega) (by omega)
   have e1 := ih x (by simp) hp lo
   rw [readsS]
   cases hx : readS x with
   | err c =>
     rw [hx] at e1
     simp only [TR.out] at e1
     rw [S.av_eq] at e1
     simp [l_tt_read_0,hl,h1,h2,S.av_eq x,e1,TRs.cons,outT]
   | ok t =>
     rw [hx] at e1
     simp only [TR.out] at e1
     rw [S.av_eq,T.av_eq] at e1
     obtain ⟨res,e2,e3⟩ := readT_L op v w l o hl10 r (p ++ [x]) (acc ++ [t]) (by rw [h]; simp) (by simp; omega) (fun y hy => ih y (by simp [hy]))
     simp only [List.length_append,List.length_cons,List.length_nil,Nat.zero_add,Int.natCast_add,Int.natCast_one] at e2
     have hb1 : (acc.length + 1) * 64 ≤ 140737488355328 := by omega
     have hb2 : acc.length + 1 ≤ 9223372036854775807 := by omega
     have hb3 : (acc.length + 1) * 8 ≤ 140737488355328 := by omega
     rw [frT,wds_app,T.avs_app,ownT_app,ownW_app,show T.avs [t] = [.agg [.int .i64 t.op,.int .i64 t.width,.int .u64 t.val,.str t.name,.list (T.avs t.args) (ownB t.o)]] by simp [T.avs,T.av_eq]] at e2
     refine ⟨res,?_,(outT_cons ..).2 e3⟩
     simp [l_tt_read_0,hl,h1,h2,S.av_eq x,e1,hb1,hb2,hb3,ownT_ok,ownW_ok,hw]
     exact e2
theorem out_err (hp:List HObj) (c:Int) : (TR.err c).out hp = .pan (.iface 78 (.agg [.int .i64 c])) hp := rfl
theorem out_ok (hp:List HObj) (t:T) : (TR.ok t).out hp = .ret t.av hp := rfl
set_option maxHeartbeats 4000000 in
theorem readT_D (e : S) : e.sm → ∀ (hp:List HObj) (lo:Nat),callD G0 IP n_tt_read [e.av] hp lo false = some ((readS e).out hp) := by
 induction e using S.ind with | h e ih =>
 intro hsm hp lo
 rw [S.sm_eq] at hsm
 obtain ⟨ha,hs⟩ := hsm
 rw [callD_eq,S.av_eq]
 cases e with | mk a o l =>
 simp only [S.atom,S.list,S.o] at *
 rw [readS]
 by_cases h0 : a = []
 · subst h0
   rw [if_neg (by simp)]
   cases l with
   | nil =>
     simp [IP_tt_read,i_tt_read,must_D,headR,out_err]
   | cons x r =>
     have hx : (x :: r).getD 0 S.z = x := rfl
     rw [hx]
     have e1 := fun (hp:List HObj) (lo:Nat) (q:Bool) => opOf_D (hp := hp) (lo := lo) q x.atom
     have hgt : (0:Int) < (r.length : Int) + 1 := by omega
     cases hok : (ofE x.atom).2 with
     | false =>
       have hR : headR (x :: r) = false := by unfold headR; rw [hx,hok]; simp
       rw [if_pos hR]
       simp [IP_tt_read,i_tt_read,must_D,S.avs,S.av_eq x,e1,hok,hgt,out_err]
     | true =>
       have hop := ofE_ok hok
       have hbd := arE_bd (ofE x.atom).1
       have hnb := numsN_bd (ofE x.atom).1
       have hR : headR (x :: r) = (!decide (arE (ofE x.atom).1 = 0) && decide (((x :: r).length : Int) = 1 + numsN (ofE x.atom).1 + arE (ofE x.atom).1)) := by unfold headR; rw [hx,hok]; simp
       rw [hR]
       generalize (ofE x.atom).1 = op at *
       have hge := arE_ge hop
       by_cases k1 : arE op = 0
       · rw [if_pos (by simp [k1])]
         simp [IP_tt_read,i_tt_read,must_D,S.avs,S.av_eq x,e1,hok,hgt,out_err,opLeaf_D,k1]
       · have hw2 : IntKind.wrap .i64 ((numsN op:Int) + arE op) = (numsN op:Int) + arE op := wrap_small (by omega) (by omega)
         by_cases k3 : (r.length : Int) = (numsN op:Int) + arE op
         · rw [if_neg (by simp [k1]; omega)]
           have k3' : (numsN op:Int) + arE op = (r.length : Int) := k3.symm
           have hw3 : IntKind.wrap .i64 (r.length : Int) = (r.length : Int) := by rw [k3]; exact hw2
           have ihl : ∀ y,y ∈ x :: r → ∀ (hp:List HObj) (lo:Nat),callD G0 IP n_tt_read [y.av] hp lo false = some ((readS y).out hp) := fun y hy => ih y hy (hs y hy)
           have tail : ∀ (w v:Int),0 ≤ v → ∀ (ts:List T),ts.length ≤ 10 → ∀ (hp:List HObj) (lo:Nat) (q:Bool) (oo:Own),callD G0 IP n_oi_Width [.int .i64 op,.int .i64 w,.int .u64 v,.list (wds ts) oo] hp lo q = some (.ret (.tup [.int .i64 (widE op w v (ts.map T.width)).1,.int .i64 (widE op w v (ts.map T.width)).2]) hp) :=
             fun w v hv ts ht hp lo q oo => width_D q op w v hv (ts.map T.width) oo (by rw [List.length_map]; omega)
           have num : ∀ (y:S),y ∈ x :: r → ∀ (hp:List HObj) (lo:Nat) (m:Int) (o:Own),callD G0 IP n_tt_number [.agg [.str y.atom,.list (S.avs y.list) o],.int .u64 m] hp lo false = some (TR1 hp .u64 (numR y.atom m)) :=
             fun y hy hp lo m o => number_D y.atom o (S.avs y.list) ((S.sm_eq y).1 (hs y hy)).1 m
           have hN : ∀ (hp:List HObj) (lo:Nat) (q:Bool),callD G0 IP n_tt_numerals [.int .i64 op] hp lo q = some (.ret (.int .i64 (numsN op)) hp) := fun hp lo q => ttNumerals_D q op
           by_cases h21 : op = 21
           · have n2 : numsN op = 2 := by subst h21; rfl
             have a1 : arE op = 1 := by subst h21; rfl
             rw [n2,a1] at k3 k3'
             match r,k3 with
             | [y, z, u],_ =>
               simp only [n2] at hN
               have hA : ∀ (hp:List HObj) (lo:Nat) (q:Bool),callD G0 IP n_oi_Arity [.int .i64 op] hp lo q = some (.ret (.int .i64 1) hp) := fun hp lo q => by rw [arity_D,a1]
               have hw : IntKind.wrap .i64 3 = 3 := rfl
               have hw1 : IntKind.wrap .i64 1 = 1 := rfl
               have by1 := numR_bd y.atom 18446744073709551615 (by omega)
               have bz := numR_bd z.atom 64 (by omega)
               have wz : IntKind.wrap .i64 (numR z.atom 64).1 = (numR z.atom 64).1 := wrap_small (by omega) (by omega)
               have ey := num y (by simp)
               have ez := num z (by simp)
               have g1 : [x,y,z,u].getD 1 S.z = y := rfl
               have g2 : [x,y,z,u].getD 2 S.z = z := rfl
               have hnr : numsR op [x,y,z,u] = (if (numR y.atom 18446744073709551615).2 ≠ 0 then (0,0,(numR y.atom 18446744073709551615).2) else if (numR z.atom 64).2 ≠ 0 then (0,0,(numR z.atom 64).2) else ((numR y.atom 18446744073709551615).1,(numR z.atom 64).1,0)) := by
                 unfold numsR; rw [if_pos h21,g1,g2]
               rw [hnr]
               by_cases m1 : (numR y.atom 18446744073709551615).2 = 0
               · by_cases m2 : (numR z.atom 64).2 = 0
                 · rw [if_neg (by simp [m1,m2])]
                   simp only [m1,m2]
                   obtain ⟨res,l1,l2⟩ := readT_L (hp := hp) (lo := hp.length) op (numR y.atom 18446744073709551615).1 (numR z.atom 64).1 [u] .no (by simp) [u] [] [] rfl (by simp) (fun x hx => ihl x (by simp at hx; simp [hx]))
                   have e9 : readsS [x,y,z,u] (1 + numsN op) = readsS [u] 0 := by rw [n2]; rfl
                   rw [e9]
                   simp [frT,S.avs,S.av_eq u,ownT,ownW,T.avs] at l1
                   cases hrs : readsS [u] 0 with
                   | err c =>
                     rw [hrs] at l2
                     obtain ⟨fr,rfl⟩ := l2
                     simp [IP_tt_read,i_tt_read,must_D,S.avs,S.av_eq x,S.av_eq y,S.av_eq z,S.av_eq u,e1,hok,hgt,opLeaf_D,hA,k1,hw,hN,ey,ez,TR1,hw1,wz,m1,m2,l1,out_err,nodeR]
                   | ok ts =>
                     rw [hrs] at l2
                     simp only [outT,List.nil_append] at l2
                     subst l2
                     have htl := tail (numR z.atom 64).1 (numR y.atom 18446744073709551615).1 by1.1 ts (by have := readsS_len [u] 0 ts hrs; simp at this; omega)
                     simp only [nodeR]
                     by_cases k6 : (widE op (numR z.atom 64).1 (numR y.atom 18446744073709551615).1 (ts.map T.width)).2 = 0
                     · rw [if_neg (by simp [k6])]
                       simp [IP_tt_read,i_tt_read,must_D,S.avs,S.av_eq x,S.av_eq y,S.av_eq z,S.av_eq u,e1,hok,hgt,opLeaf_D,hA,k1,hw,hN,ey,ez,TR1,hw1,wz,m1,m2,l1,htl,k6,failT_D,out_ok,T.av]
                     · rw [if_pos (by simp [k6])]
                       simp [IP_tt_read,i_tt_read,must_D,S.avs,S.av_eq x,S.av_eq y,S.av_eq z,S.av_eq u,e1,hok,hgt,opLeaf_D,hA,k1,hw,hN,ey,ez,TR1,hw1,wz,m1,m2,l1,htl,k6,failT_D,out_err]
                 · rw [if_pos (by simp [m1,m2])]
                   simp [IP_tt_read,i_tt_read,must_D,S.avs,S.av_eq x,S.av_eq y,S.av_eq z,S.av_eq u,e1,hok,hgt,opLeaf_D,hA,k1,hw,hN,ey,ez,TR1,hw1,m1,m2,out_err]
               · rw [if_pos (by simp [m1])]
                 simp [IP_tt_read,i_tt_read,must_D,S.avs,S.av_eq x,S.av_eq y,S.av_eq z,S.av_eq u,e1,hok,hgt,opLeaf_D,hA,k1,hw,hN,ey,ez,TR1,hw1,m1,out_err]
           · by_cases h22 : op = 22 ∨ op = 23
             · have n1 : numsN op = 1 := by simp [numsN,h21,h22]
               have a1 : arE op = 1 := by rcases h22 with rfl | rfl <;> rfl
               rw [n1,a1] at k3 k3'
               match r,k3 with
               | [y, u],_ =>
                 simp only [n1] at hN
                 have hA : ∀ (hp:List HObj) (lo:Nat) (q:Bool),callD G0 IP n_oi_Arity [.int .i64 op] hp lo q = some (.ret (.int .i64 1) hp) := fun hp lo q => by rw [arity_D,a1]
                 have hw : IntKind.wrap .i64 2 = 2 := rfl
                 have hw1 : IntKind.wrap .i64 0 = 0 := rfl
                 have bz := numR_bd y.atom 64 (by omega)
                 have wz : IntKind.wrap .i64 (numR y.atom 64).1 = (numR y.atom 64).1 := wrap_small (by omega) (by omega)
                 have ey := num y (by simp)
                 have g1 : [x,y,u].getD 1 S.z = y := rfl
                 have hnr : numsR op [x,y,u] = (if (numR y.atom 64).2 ≠ 0 then (0,0,(numR y.atom 64).2) else (0,(numR y.atom 64).1,0)) := by
                   unfold numsR; rw [if_neg h21,if_pos h22,g1]
                 rw [hnr]
                 by_cases m2 : (numR y.atom 64).2 = 0
                 · rw [if_neg (by simp [m2])]
                   simp only [m2]
                   obtain ⟨res,l1,l2⟩ := readT_L (hp := hp) (lo := hp.length) op 0 (numR y.atom 64).1 [u] .no (by simp) [u] [] [] rfl (by simp) (fun x hx => ihl x (by simp at hx; simp [hx]))
                   have e9 : readsS [x,y,u] (1 + numsN op) = readsS [u] 0 := by rw [n1]; rfl
                   rw [e9]
                   simp [frT,S.avs,S.av_eq u,ownT,ownW,T.avs] at l1
                   cases hrs : readsS [u] 0 with
                   | err c =>
                     rw [hrs] at l2
                     obtain ⟨fr,rfl⟩ := l2
                     simp [IP_tt_read,i_tt_read,must_D,S.avs,S.av_eq x,S.av_eq y,e1,hok,hgt,opLeaf_D,hA,k1,hN,ey,TR1,hw,hw1,wz,m2,S.av_eq u,l1,out_err,nodeR]
                   | ok ts =>
                     rw [hrs] at l2
                     simp only [outT,List.nil_append] at l2
                     subst l2
                     have htl := tail (numR y.atom 64).1 0 (by omega) ts (by have := readsS_len [u] 0 ts hrs; simp at this; omega)
                     simp only [nodeR]
                     by_cases k6 : (widE op (numR y.atom 64).1 0 (ts.map T.width)).2 = 0
                     · rw [if_neg (by simp [k6])]
                       simp [IP_tt_read,i_tt_read,must_D,S.avs,S.av_eq x,S.av_eq y,e1,hok,hgt,opLeaf_D,hA,k1,hN,ey,TR1,hw,hw1,wz,m2,S.av_eq u,l1,htl,k6,failT_D,out_ok,T.av]
                     · rw [if_pos (by simp [k6])]
                       simp [IP_tt_read,i_tt_read,must_D,S.avs,S.av_eq x,S.av_eq y,e1,hok,hgt,opLeaf_D,hA,k1,hN,ey,TR1,hw,hw1,wz,m2,S.av_eq u,l1,htl,k6,failT_D,out_err]
                 · rw [if_pos (by simp [m2])]
                   simp [IP_tt_read,i_tt_read,must_D,S.avs,S.av_eq x,S.av_eq y,e1,hok,hgt,opLeaf_D,hA,k1,hN,ey,TR1,hw,hw1,m2,S.av_eq u,out_err]
             · have n0 : numsN op = 0 := by simp [numsN,h21,h22]
               simp only [n0] at hN
               rw [n0] at k3 k3' hw2
               have ha : arE op = (r.length : Int) := by omega
               have hA : ∀ (hp:List HObj) (lo:Nat) (q:Bool),callD G0 IP n_oi_Arity [.int .i64 op] hp lo q = some (.ret (.int .i64 r.length) hp) := fun hp lo q => by rw [arity_D,ha]
               have htk : List.take r.length (S.avs r) = S.avs r := List.take_of_length_le (by simp)
               have hnr : numsR op (x :: r) = (0,0,0) := by
                 unfold numsR; rw [if_neg h21,if_neg h22]
               rw [hnr]
               rw [if_neg (by simp)]
               obtain ⟨res,l1,l2⟩ := readT_L (hp := hp) (lo := hp.length) op 0 0 r .no (by omega) r [] [] rfl (by simp) (fun x hx => ihl x (by simp [hx]))
               have e9 : readsS (x :: r) (1 + numsN op) = readsS r 0 := by rw [n0]; rfl
               rw [e9]
               simp [frT,ownT,ownW,T.avs] at l1
               cases hrs : readsS r 0 with
               | err c =>
                 rw [hrs] at l2
                 obtain ⟨fr,rfl⟩ := l2
                 simp [IP_tt_read,i_tt_read,must_D,S.avs,S.av_eq x,e1,hok,hgt,opLeaf_D,hA,k1,hN,hw3,htk,l1,out_err,nodeR]
               | ok ts =>
                 rw [hrs] at l2
                 simp only [outT,List.nil_append] at l2
                 subst l2
                 have htl := tail 0 0 (by omega) ts (by have := readsS_len r 0 ts hrs; omega)
                 simp only [nodeR]
                 by_cases k6 : (widE op 0 0 (ts.map T.width)).2 = 0
                 · rw [if_neg (by simp [k6])]
                   simp [IP_tt_read,i_tt_read,must_D,S.avs,S.av_eq x,e1,hok,hgt,opLeaf_D,hA,k1,hN,hw3,htk,l1,htl,k6,failT_D,out_ok,T.av]
                 · rw [if_pos (by simp [k6])]
                   simp [IP_tt_read,i_tt_read,must_D,S.avs,S.av_eq x,e1,hok,hgt,opLeaf_D,hA,k1,hN,hw3,htk,l1,htl,k6,failT_D,out_err]
         · rw [if_pos (by simp [k1]; omega)]
           simp [IP_tt_read,i_tt_read,must_D,S.avs,S.av_eq x,e1,hok,hgt,out_err,opLeaf_D,ttNumerals_D,arity_D,k1,hw2,k3]
 · rw [if_pos h0]
   have e1 := fun (hp:List HObj) (lo:Nat) => leafT_D (hp := hp) (lo := lo) a h0 ha
   cases hx : leafR a with
   | err c => simp [IP_tt_read,i_tt_read,h0,e1,hx,out_err]
   | ok t => simp [IP_tt_read,i_tt_read,h0,e1,hx,out_ok,T.av_eq t]
end
end Go.Proofs.YtkofimhnehkdoaaGreatDoor.Rf
end
section
namespace Go.Proofs.YtkofimhnehkdoaaGreatDoor.Rf
abbrev zCells : List AV := [.int .i64 0,.int .i64 0,.int .u64 0,.str [],.list [] .nil]
theorem recvT_D (hp:List HObj) (a b c d f v:AV) (e:Int) (lo:Nat) (hlo:lo ≤ hp.length) : evalRecv G0 IP (callD G0 IP) (loopD G0 IP lo) lo n_tt_Read_1 [.ptr hp.length 0,.ptr (hp.length + 1) 0]
   (hp ++ [.cells 0 [a,b,c,d,f],.cells 0 [v]]) (.iface 78 (.agg [.int .i64 e])) = some (hp ++ [.cells 0 zCells,.cells 0 [.int .i64 e]]) := by
 have h1 : lo ≤ hp.length + 1 := by omega
 simp [IP_tt_Read_1,i_tt_Read_1,hlo,h1,List.getElem?_append_right,List.set_append_right]
theorem recvT0_D (hp:List HObj) (a b c d f v:AV) (lo:Nat) : evalRecv G0 IP (callD G0 IP) (loopD G0 IP lo) lo n_tt_Read_1 [.ptr hp.length 0,.ptr (hp.length + 1) 0]
   (hp ++ [.cells 0 [a,b,c,d,f],.cells 0 [v]]) .nili = some (hp ++ [.cells 0 [a,b,c,d,f],.cells 0 [v]]) := by
 simp [IP_tt_Read_1,i_tt_Read_1]
section
variable {hp:List HObj} {lo:Nat} (q:Bool)
theorem read_D (e:S) (hsm:e.sm) (hp:List HObj) (lo:Nat) (q:Bool) : callD G0 IP n_tt_Read [e.av] hp lo q = some ((readS e).tup hp) := by
 have e1 := readT_D e hsm
 rw [callD_eq]
 rw [S.av_eq] at e1 ⊢
 cases hx : readS e with
 | err c =>
   rw [hx] at e1
   simp only [out_err] at e1
   simp [-evalRecv,IP_tt_Read,i_tt_Read,e1,tup_err,recvT_D]
 | ok t =>
   rw [hx] at e1
   simp only [out_ok] at e1
   rw [T.av_eq] at e1
   simp [-evalRecv,IP_tt_Read,i_tt_Read,e1,tup_ok,T.av_eq t,recvT0_D,T.avs_closed]
end
end Go.Proofs.YtkofimhnehkdoaaGreatDoor.Rf
end
section
namespace Go.Proofs.YtkofimhnehkdoaaGreatDoor.Rf
def sbC (l:List Sb) : List AV := (l.map fun x => x.cells).flatten
theorem sbC_cons (x:Sb) (l:List Sb) : sbC (x :: l) = x.cells ++ sbC l := rfl
theorem sbC_app (l:List Sb) (x:Sb) : sbC (l ++ [x]) = sbC l ++ x.cells := by simp [sbC]
theorem sbC_len (l:List Sb) : (sbC l).length = l.length * 6 := by
 induction l with
 | nil => rfl
 | cons x r ih => rw [sbC_cons,List.length_append,ih]; simp; omega
theorem sbc_cp (x:Sb) : x.cells.map AV.cp1 = x.cells := by simp
theorem chunks_sbC : ∀ l : List Sb,chunks 6 true l.length (sbC l) = sbs l
 | [] => rfl
 | x :: r => by
   have h1 : (x.cells ++ sbC r).take 6 = x.cells := List.take_left' rfl
   have h2 : (x.cells ++ sbC r).drop 6 = sbC r := List.drop_left' rfl
   rw [List.length_cons,chunks,sbC_cons,h1,h2,chunks_sbC r,sbc_cp]
   rfl
theorem put_sbC (dn:List Sb) (x:S) (r:List S) (t:T) : put (sbC dn ++ sbZs (x :: r)) (dn.length * 6 + 1) t.cells = sbC (dn ++ [⟨nmS x,t⟩]) ++ sbZs r := by
 have h1 : sbZs (x :: r) = sbZ (nmS x) ++ sbZs r := by simp [sbZs]
 have h2 : t.cells.length = 5 := rfl
 rw [put,h2,← sbC_len,Nat.add_assoc,List.take_length_add_append,List.drop_length_add_append,h1,sbC_app]
 simp
noncomputable def evR (lo:Nat) (st:St) : Option (Ex × St) := evalC G0 (callD G0 IP) (loopD G0 IP lo) lo l_pt_read_0 st
section
variable {lo:Nat} (TL:List AV) (ow:Own) (j:Nat) (H:List HObj)
theorem readP_err (hj:j < TL.length) (u:S) (hu:u.sm) (hx:TL[j] = u.av) (c:Int) (hr:readS u = .err c) (CB:List AV) :
   evR lo ⟨[(2,boxZ14),(4,.box CB),(20,.list TL ow),(21,.int .i64 TL.length),(22,.int .i64 j)],H⟩ = some (.ret,⟨[(2,boxZ14),(3,.int .i64 c)],H⟩) := by
 have hI : (j:Int) < (TL.length : Int) := by omega
 have hc := readS_ne u c hr
 have e1 := fun (hp:List HObj) (lo:Nat) (q:Bool) => read_D u hu hp lo q
 simp only [hr,tup_err,S.av_eq u] at e1
 simp [evR,l_pt_read_0,hj,hI,hx,S.av_eq u,e1,hc]
theorem readP_5 (hj:j < TL.length) (hTL:TL.length ≤ 65536) (u:S) (hu:u.sm) (hx:TL[j] = u.av) (t:T) (hr:readS u = .ok t) (rl:List Int) (ru:Int) (id n:Nat) (C:List AV) (hg:H[id]? = some (.cells 0 C)) (hid:lo ≤ id) (hn:j < n) (hn2:n ≤ 65536) (hC:j * 6 + 6 ≤ C.length) :
   evR lo ⟨[(2,boxZ14),(4,.box (cellsP 5 rl ru (.sref id 0 n 6))),(20,.list TL ow),(21,.int .i64 TL.length),(22,.int .i64 j)],H⟩ =
     some (.normal,⟨[(2,boxZ14),(4,.box (cellsP 5 rl ru (.sref id 0 n 6))),(20,.list TL ow),(21,.int .i64 TL.length),(22,.int .i64 ((j:Int) + 1))],H.set id (.cells 0 (put C (j * 6 + 1) t.cells))⟩) := by
 have hI : (j:Int) < (TL.length : Int) := by omega
 have hI2 : (j:Int) < (n:Int) := by omega
 have hw : IntKind.wrap .i64 ((j:Int) + 1) = (j:Int) + 1 := wrap_small (by omega) (by omega)
 have e1 := fun (hp:List HObj) (lo:Nat) (q:Bool) => read_D u hu hp lo q
 simp only [hr,tup_ok,S.av_eq u,T.av_eq] at e1
 have hC2 : j * 6 + 1 + 5 ≤ C.length := by omega
 simp [evR,l_pt_read_0,hj,hI,hI2,hn,hx,S.av_eq u,e1,hw,hg,hid,hC2]
end
end Go.Proofs.YtkofimhnehkdoaaGreatDoor.Rf
end
section
namespace Go.Proofs.YtkofimhnehkdoaaGreatDoor.Rf
abbrev hpC (hp:List HObj) (m:Nat) (C:List AV) : List HObj := hp ++ List.replicate m .dead ++ [.cells 0 C]
theorem hpC_get (hp:List HObj) (m:Nat) (C:List AV) : (hpC hp m C)[hp.length + m]? = some (.cells 0 C) := by
 unfold hpC
 rw [List.getElem?_append_right (by simp)]
 simp
theorem hpC_set (hp:List HObj) (m:Nat) (C D:List AV) : (hpC hp m C).set (hp.length + m) (.cells 0 D) = hpC hp m D := by
 unfold hpC
 rw [List.set_append_right _ _ (by simp)]
 simp
theorem prH_hpC (hp:List HObj) (x:S) (r:List S) : prH hp (x :: r) = hpC hp r.length (sbZs (x :: r)) := rfl
def outSb5 (TL:List AV) (ow:Own) (hp:List HObj) (m id n:Nat) (rl:List Int) (ru:Int) (dn:List Sb) : SbR → Ex × St → Prop
 | .err c,st => ∃ hp',st = (.ret,⟨[(2,boxZ14),(3,.int .i64 c)],hp'⟩)
 | .ok l,st => st = (.exit 0,⟨[(2,boxZ14),(4,.box (cellsP 5 rl ru (.sref id 0 n 6))),(20,.list TL ow),(21,.int .i64 TL.length),(22,.int .i64 TL.length),(23,.bool false)],hpC hp m (sbC (dn ++ l))⟩)
section
variable {lo:Nat}
theorem readP_L (L:List S) (ow:Own) (hL:L.length ≤ 65536) (hp:List HObj) (lo:Nat) (hlo:lo ≤ hp.length) (m n:Nat) (hn:L.length = n) (rl:List Int) (ru:Int) : ∀ (r p:List S) (dn:List Sb),L = p ++ r → dn.length = p.length → (∀ x,x ∈ r → x.fit ∧ pairB x = true) →
   ∃ st,loopD G0 IP lo l_pt_read_0 ⟨[(2,boxZ14),(4,.box (cellsP 5 rl ru (.sref (hp.length + m) 0 n 6))),(20,.list (S.avs (L.map trS)) ow),(21,.int .i64 (S.avs (L.map trS)).length),(22,.int .i64 p.length)],hpC hp m (sbC dn ++ sbZs r)⟩ = some st ∧
     outSb5 (S.avs (L.map trS)) ow hp m (hp.length + m) n rl ru dn (subsS r) st
 | [],p,dn,h,hd,_ => by
   simp at h
   subst h
   refine ⟨(.exit 0,⟨[(2,boxZ14),(4,.box (cellsP 5 rl ru (.sref (hp.length + m) 0 n 6))),(20,.list (S.avs (L.map trS)) ow),(21,.int .i64 (S.avs (L.map trS)).length),(22,.int .i64 (S.avs (L.map trS)).length),(23,.bool false)],hpC hp m (sbC dn)⟩),?_,?_⟩
   · have : sbC dn ++ sbZs [] = sbC dn := by simp [sbZs]
     rw [this,loopD_eq,loopBody]
     have hl : (S.avs (L.map trS)).length = L.length := by simp
     generalize hpC hp m (sbC dn) = H
     simp [l_pt_read_0]
   · simp [subsS,outSb5]
 | x :: r,p,dn,h,hd,hx => by
   obtain ⟨xf,xp⟩ := hx x (by simp)
   obtain ⟨a,u,hxl⟩ := pairB_two xp
   have hf := (S.fit_eq x).1 xf
   have hu : u.sm := S.sm_of_fit u (hf.2.2.2 u (by rw [hxl]; simp))
   have hlen : L.length = p.length + (r.length + 1) := by rw [h]; simp
   have hTL : (S.avs (L.map trS)).length = L.length := by simp
   have hj : p.length < (S.avs (L.map trS)).length := by omega
   have ht : trS x = u := by unfold trS; rw [hxl]; rfl
   have h2 : (S.avs (L.map trS))[p.length] = u.av := by simp [h,ht]
   have g1 : x.list.getD 1 zS = u := ht
   have hid : lo ≤ hp.length + m := by omega
   have hC : p.length * 6 + 6 ≤ (sbC dn ++ sbZs (x :: r)).length := by rw [List.length_append,sbC_len,sbZs_len,hd]; simp; omega
   rw [loopD_eq,loopBody,subsS,g1]
   cases hr : readS u with
   | err c =>
     have e1 := readP_err (lo := lo) (S.avs (L.map trS)) ow p.length (hpC hp m (sbC dn ++ sbZs (x :: r))) hj u hu h2 c hr (cellsP 5 rl ru (.sref (hp.length + m) 0 n 6))
     rw [evR] at e1
     exact ⟨_,by rw [e1],_,rfl⟩
   | ok t =>
     have e1 := readP_5 (lo := lo) (S.avs (L.map trS)) ow p.length (hpC hp m (sbC dn ++ sbZs (x :: r))) hj (by omega) u hu h2 t hr rl ru (hp.length + m) n _ (hpC_get hp m _) hid (by omega) (by omega) hC
     rw [evR,hpC_set,← hd,put_sbC,hd] at e1
     obtain ⟨st,hs1,hs2⟩ := readP_L L ow hL hp lo hlo m n hn rl ru r (p ++ [x]) (dn ++ [⟨nmS x,t⟩]) (by rw [h]; simp) (by simp [hd]) (fun y hy => hx y (by simp [hy]))
     simp only [List.length_append,List.length_cons,List.length_nil,Nat.zero_add,Int.natCast_add,Int.natCast_one] at hs1
     refine ⟨st,by rw [e1]; exact hs1,?_⟩
     cases hsb : subsS r with
     | err c => rw [hsb] at hs2; exact hs2
     | ok l => rw [hsb] at hs2; simpa [outSb5,nmS] using hs2
end
end Go.Proofs.YtkofimhnehkdoaaGreatDoor.Rf
end
section
namespace Go.Proofs.YtkofimhnehkdoaaGreatDoor.Rf
section
variable {hp:List HObj} {lo:Nat}
theorem read_bad (e:S) (hb:∀ hp lo,lo ≤ hp.length → badT (callD G0 IP n_pt_step [e.av] hp lo false)) (hp:List HObj) (lo:Nat) (q:Bool) : callD G0 IP n_pt_read [e.av] hp lo q = some ((StR.err 6).tup hp) := by
 obtain ⟨k,a,ru,hp',h1⟩ := hb hp hp.length (Nat.le_refl _)
 rw [callD_eq]
 rw [S.av_eq] at h1 ⊢
 simp [IP_pt_read,i_pt_read,h1,StR.tup,stz_av]
theorem read_none (e:S) (k:Int) (rl:List Int) (ru:Int) (o:Own) (hs:∀ hp lo,lo ≤ hp.length → callD G0 IP n_pt_step [e.av] hp lo false = some (.ret (.tup [.agg (cellsF k rl ru),.list [] o,.bool true]) hp)) (hp:List HObj) (lo:Nat) (q:Bool) :
   callD G0 IP n_pt_read [e.av] hp lo q = some ((StR.ok ⟨k,rl.isEmpty,rl,ru,true,[],T.z,T.z⟩).tup hp) := by
 have h1 := hs hp hp.length (Nat.le_refl _)
 have hl : ∀ (B:List AV) (o:Own) (hp:List HObj) (lo:Nat),loopD G0 IP lo l_pt_read_0 ⟨[(2,boxZ14),(4,.box B),(20,.list [] o),(21,.int .i64 0),(22,.int .i64 0)],hp⟩ = some (.exit 0,⟨[(2,boxZ14),(4,.box B),(20,.list [] o),(21,.int .i64 0),(22,.int .i64 0),(23,.bool false)],hp⟩) := fun B o hp lo => by
   rw [loopD_eq,loopBody]; simp [l_pt_read_0]
 rw [callD_eq]
 rw [S.av_eq] at h1 ⊢
 simp [IP_pt_read,i_pt_read,h1,hl,StR.tup,st_av]
 first | exact i64s_closed _ _ | exact ⟨i64s_closed _ _,rfl,rfl,rfl,rfl,rfl,⟨rfl,rfl⟩,rfl,rfl,rfl,rfl,rfl,rfl⟩
set_option maxHeartbeats 2000000 in
theorem read_one (e z:S) (k:Int) (hk:¬ k = 5) (rl:List Int) (hz:z.sm) (hs:∀ hp lo,lo ≤ hp.length → callD G0 IP n_pt_step [e.av] hp lo false = some (.ret (.tup [.agg (cellsF k rl 0),.list [z.av] .no,.bool true]) hp)) (hp:List HObj) (lo:Nat) (q:Bool) :
   callD G0 IP n_pt_read [e.av] hp lo q = some ((match readS z with | .err c => StR.err c | .ok t => .ok ⟨k,rl.isEmpty,rl,0,true,[],t,T.z⟩).tup hp) := by
 have h1 := hs hp hp.length (Nat.le_refl _)
 have e1 := fun (hp:List HObj) (lo:Nat) (q:Bool) => read_D z hz hp lo q
 rw [callD_eq]
 rw [S.av_eq] at h1 ⊢
 rw [S.av_eq z] at h1 e1
 cases hr : readS z with
 | err c =>
   have hc := readS_ne z c hr
   simp only [hr,tup_err] at e1
   have hl : ∀ (B:List AV) (hp:List HObj) (lo:Nat),loopD G0 IP lo l_pt_read_0 ⟨[(2,boxZ14),(4,.box B),(20,.list [.agg [.str z.atom,.list (S.avs z.list) (ownB z.o)]] .no),(21,.int .i64 1),(22,.int .i64 0)],hp⟩ = some (.ret,⟨[(2,boxZ14),(3,.int .i64 c)],hp⟩) := fun B hp lo => by
     rw [loopD_eq,loopBody]; simp [l_pt_read_0,e1,hc]
   simp [IP_pt_read,i_pt_read,h1,hl,StR.tup,stz_av]
 | ok t =>
   simp only [hr,tup_ok,T.av_eq] at e1
   have hl : ∀ (hp:List HObj) (lo:Nat),loopD G0 IP lo l_pt_read_0 ⟨[(2,boxZ14),(4,.box (cellsF k rl 0)),(20,.list [.agg [.str z.atom,.list (S.avs z.list) (ownB z.o)]] .no),(21,.int .i64 1),(22,.int .i64 0)],hp⟩ =
       some (.exit 0,⟨[(2,boxZ14),(4,.box (St7.mk k rl.isEmpty rl 0 true [] t T.z).cells),(20,.list [.agg [.str z.atom,.list (S.avs z.list) (ownB z.o)]] .no),(21,.int .i64 1),(22,.int .i64 1),(23,.bool false)],hp⟩) := fun hp lo => by
     rw [loopD_eq,loopBody]
     have hw : IntKind.wrap .i64 (0 + 1) = 1 := rfl
     simp [l_pt_read_0,e1,hk]
     rw [loopD_eq,loopBody]
     simp [l_pt_read_0]
     rfl
   simp [IP_pt_read,i_pt_read,h1,hl,StR.tup,st_av]
   first | exact i64s_closed _ _ | exact ⟨i64s_closed _ _,rfl,rfl,rfl,rfl,rfl,⟨rfl,rfl⟩,rfl,rfl,rfl,rfl,rfl,rfl⟩
set_option maxHeartbeats 2000000 in
theorem read_two (e z w:S) (k:Int) (hk:¬ k = 5) (rl:List Int) (hz:z.sm) (hw:w.sm) (hs:∀ hp lo,lo ≤ hp.length → callD G0 IP n_pt_step [e.av] hp lo false = some (.ret (.tup [.agg (cellsF k rl 0),.list [z.av,w.av] .no,.bool true]) hp)) (hp:List HObj) (lo:Nat) (q:Bool) :
   callD G0 IP n_pt_read [e.av] hp lo q = some ((match readS z with | .err c => StR.err c | .ok t => match readS w with | .err c => .err c | .ok u => .ok ⟨k,rl.isEmpty,rl,0,true,[],t,u⟩).tup hp) := by
 have h1 := hs hp hp.length (Nat.le_refl _)
 have e1 := fun (hp:List HObj) (lo:Nat) (q:Bool) => read_D z hz hp lo q
 have e2 := fun (hp:List HObj) (lo:Nat) (q:Bool) => read_D w hw hp lo q
 have hw1 : IntKind.wrap .i64 1 = 1 := rfl
 rw [callD_eq]
 rw [S.av_eq] at h1 ⊢
 rw [S.av_eq z] at h1 e1
 rw [S.av_eq w] at h1 e2
 cases hr : readS z with
 | err c =>
   have hc := readS_ne z c hr
   simp only [hr,tup_err] at e1
   have hl : ∀ (B:List AV) (hp:List HObj) (lo:Nat),loopD G0 IP lo l_pt_read_0 ⟨[(2,boxZ14),(4,.box B),(20,.list [.agg [.str z.atom,.list (S.avs z.list) (ownB z.o)],.agg [.str w.atom,.list (S.avs w.list) (ownB w.o)]] .no),(21,.int .i64 2),(22,.int .i64 0)],hp⟩ = some (.ret,⟨[(2,boxZ14),(3,.int .i64 c)],hp⟩) := fun B hp lo => by
     rw [loopD_eq,loopBody]; simp [l_pt_read_0,e1,hc]
   simp [IP_pt_read,i_pt_read,h1,hl,StR.tup,stz_av]
 | ok t =>
   simp only [hr,tup_ok,T.av_eq] at e1
   cases hr2 : readS w with
   | err c =>
     have hc := readS_ne w c hr2
     simp only [hr2,tup_err] at e2
     have hl : ∀ (hp:List HObj) (lo:Nat),loopD G0 IP lo l_pt_read_0 ⟨[(2,boxZ14),(4,.box (cellsF k rl 0)),(20,.list [.agg [.str z.atom,.list (S.avs z.list) (ownB z.o)],.agg [.str w.atom,.list (S.avs w.list) (ownB w.o)]] .no),(21,.int .i64 2),(22,.int .i64 0)],hp⟩ = some (.ret,⟨[(2,boxZ14),(3,.int .i64 c)],hp⟩) := fun hp lo => by
       rw [loopD_eq,loopBody]
       simp [l_pt_read_0,e1,hk,hw1]
       rw [loopD_eq,loopBody]
       simp [l_pt_read_0,e2,hc]
     simp [IP_pt_read,i_pt_read,h1,hl,StR.tup,stz_av]
   | ok u =>
     simp only [hr2,tup_ok,T.av_eq] at e2
     have hl : ∀ (hp:List HObj) (lo:Nat),loopD G0 IP lo l_pt_read_0 ⟨[(2,boxZ14),(4,.box (cellsF k rl 0)),(20,.list [.agg [.str z.atom,.list (S.avs z.list) (ownB z.o)],.agg [.str w.atom,.list (S.avs w.list) (ownB w.o)]] .no),(21,.int .i64 2),(22,.int .i64 0)],hp⟩ =
         some (.exit 0,⟨[(2,boxZ14),(4,.box (St7.mk k rl.isEmpty rl 0 true [] t u).cells),(20,.list [.agg [.str z.atom,.list (S.avs z.list) (ownB z.o)],.agg [.str w.atom,.list (S.avs w.list) (ownB w.o)]] .no),(21,.int .i64 2),(22,.int .i64 2),(23,.bool false)],hp⟩) := fun hp lo => by
       rw [loopD_eq,loopBody]
       simp [l_pt_read_0,e1,hk,hw1]
       rw [loopD_eq,loopBody]
       simp [l_pt_read_0,e2,hk]
       rw [loopD_eq,loopBody]
       simp [l_pt_read_0]
       rfl
     simp [IP_pt_read,i_pt_read,h1,hl,StR.tup,st_av]
     first | exact i64s_closed _ _ | exact ⟨i64s_closed _ _,rfl,rfl,rfl,rfl,rfl,⟨rfl,rfl⟩,rfl,rfl,rfl,rfl,rfl,rfl⟩
set_option maxHeartbeats 2000000 in
theorem read_subs (e w:S) (hwf:w.fit) (hn:namedB w = true) (rl:List Int) (ru:Int) (hs:∀ hp lo,lo ≤ hp.length → ∃ ow,callD G0 IP n_pt_step [e.av] hp lo false = some (.ret (.tup [.agg (cellsP 5 rl ru (prV hp.length w.list)),.list (S.avs (w.list.map trS)) ow,.bool true]) (prH hp w.list))) (hp:List HObj) (lo:Nat) (q:Bool) :
   callD G0 IP n_pt_read [e.av] hp lo q = some ((match subsS w.list with | .err c => StR.err c | .ok sb => .ok ⟨5,rl.isEmpty,rl,ru,sb.isEmpty,sb,T.z,T.z⟩).tup hp) := by
 obtain ⟨ow,h1⟩ := hs hp hp.length (Nat.le_refl _)
 have hwl := (S.fit_eq w).1 hwf
 cases hl : w.list with
 | nil =>
   rw [hl] at h1
   simp only [prV,prH,List.map_nil,S.avs_nil] at h1
   have hl : ∀ (B:List AV) (ow:Own) (hp:List HObj) (lo:Nat),loopD G0 IP lo l_pt_read_0 ⟨[(2,boxZ14),(4,.box B),(20,.list [] ow),(21,.int .i64 0),(22,.int .i64 0)],hp⟩ = some (.exit 0,⟨[(2,boxZ14),(4,.box B),(20,.list [] ow),(21,.int .i64 0),(22,.int .i64 0),(23,.bool false)],hp⟩) := fun B ow hp lo => by
     rw [loopD_eq,loopBody]; simp [l_pt_read_0]
   rw [callD_eq]
   rw [S.av_eq] at h1 ⊢
   simp [IP_pt_read,i_pt_read,h1,hl,StR.tup,st_av,subsS]
   first | exact i64s_closed _ _ | exact ⟨i64s_closed _ _,rfl,rfl,rfl,rfl,rfl,⟨rfl,rfl⟩,rfl,rfl,rfl,rfl,rfl,rfl⟩
 | cons x r =>
   rw [hl] at h1
   simp only [namedB,Bool.and_eq_true,List.all_eq_true] at hn
   have hloop := readP_L (x :: r) ow.cp (by rw [← hl]; exact hwl.2.1) hp hp.length (Nat.le_refl _) r.length (r.length + 1) rfl rl ru (x :: r) [] [] rfl rfl (fun y hy => ⟨hwl.2.2.2 y (by rw [hl]; exact hy),hn.1 y (by rw [hl]; exact hy)⟩)
   obtain ⟨st,hs1,hs2⟩ := hloop
   rw [prV_cons,prH_hpC] at h1
   have e0 : sbC [] ++ sbZs (x :: r) = sbZs (x :: r) := rfl
   rw [e0] at hs1
   simp only [List.length_nil,Int.natCast_zero] at hs1
   have hget : ∀ C,(hpC hp r.length C)[hp.length + r.length]? = some (.cells 0 C) := fun C => hpC_get hp r.length C
   have hlen : ∀ sb : List Sb,subsS (x :: r) = .ok sb → sb.length = r.length + 1 := by
     have : ∀ (l:List S) (sb:List Sb),subsS l = .ok sb → sb.length = l.length := by
       intro l
       induction l with
       | nil => intro sb h; simp [subsS] at h; subst h; rfl
       | cons y s ih =>
         intro sb h
         rw [subsS] at h
         split at h
         · cases h
         · split at h
           · cases h
           · rename_i l' hl'
             cases h
             simp [ih _ hl']
     exact fun sb h => this _ sb h
   rw [callD_eq]
   rw [S.av_eq] at h1 ⊢
   have hsr : ∀ C,(hpC hp r.length C).take hp.length = hp := fun C => by simp [hpC]
   have hid : hp.length ≤ hp.length + r.length := by omega
   cases hsub : subsS (x :: r) with
   | err c =>
     rw [hsub] at hs2
     obtain ⟨hp',rfl⟩ := hs2
     generalize hpC hp r.length (sbZs (x :: r)) = H at *
     generalize S.avs ((x :: r).map trS) = X at *
     simp [IP_pt_read,i_pt_read,h1,hs1,StR.tup,stz_av]
   | ok sb =>
     have hsl := hlen sb hsub
     rw [hsub] at hs2
     simp only [outSb5,List.nil_append] at hs2
     subst hs2
     have hch := chunks_sbC sb
     rw [hsl] at hch
     have hcl := sbC_len sb
     rw [hsl] at hcl
     have hg := hget (sbC sb)
     generalize hpC hp r.length (sbZs (x :: r)) = H at *
     generalize hpC hp r.length (sbC sb) = H2 at *
     generalize S.avs ((x :: r).map trS) = X at *
     generalize hp.length + r.length = id at *
     have hne : sb.isEmpty = false := by cases sb <;> simp at hsl ⊢
     simp [IP_pt_read,i_pt_read,h1,hs1,StR.tup,st_av,hg,hid,hcl,hch,hne]
     first | exact ⟨i64s_closed _ _,sbs_closed _ _⟩ | exact ⟨⟨i64s_closed _ _,sbs_closed _ _⟩,rfl,rfl,rfl,rfl,rfl,⟨rfl,rfl⟩,rfl,rfl,rfl,rfl,rfl,rfl⟩
end
end Go.Proofs.YtkofimhnehkdoaaGreatDoor.Rf
end
section
namespace Go.Proofs.YtkofimhnehkdoaaGreatDoor.Rf
section
variable {hp:List HObj} {lo:Nat}
theorem stepR_bad {e:S} (h:shapeB e = false) : stepR e = .err 6 := by unfold stepR; rw [if_pos h]
set_option maxHeartbeats 2000000 in
theorem readP_D (e : S) (he:e.fit) (hp:List HObj) (lo:Nat) (q:Bool) : callD G0 IP n_pt_read [e.av] hp lo q = some ((stepR e).tup hp) := by
 have hf := (S.fit_eq e).1 he
 by_cases hb : e.atom ≠ [] ∨ e.list.length < 2
 · have hB : shapeB e = false := by
     have hl : ¬ 2 ≤ e.list.length := by
       rcases hb with h | h
       · rw [hf.2.2.1 h]; simp
       · omega
     unfold shapeB
     simp [hl]
   rw [stepR_bad hB]
   exact read_bad e (fun hp lo _ => stepT_bad1 e he hb hp lo) hp lo q
 have ha : e.atom = [] := by
   by_cases ha : e.atom = []
   · exact ha
   · exact absurd (.inl ha) hb
 have hl2 : ¬ e.list.length < 2 := fun h => hb (.inr h)
 cases e with | mk a o l =>
 simp only [S.atom,S.list] at ha hl2 hf
 subst ha
 have hex : ∃ x y r,l = x :: y :: r := by
   match l,hl2 with
   | x :: y :: r,_ => exact ⟨x,y,r,rfl⟩
   | [x],h => exact absurd (by simp) h
   | [],h => exact absurd (by simp) h
 obtain ⟨x,y,r,rfl⟩ := hex
 · have hyf : y.fit := hf.2.2.2 y (by simp)
   have hrf : ∀ z,z ∈ r → z.fit := fun z hz => hf.2.2.2 z (by simp [hz])
   have hr9 : r.length ≤ 65536 := by have := hf.2.1; simp at this; omega
   have kb := kindOf_bd x.atom
   have k0 : lineK (S.mk [] o (x :: y :: r)).list = kindOf x.atom := rfl
   have k1 : (S.mk [] o (x :: y :: r)).list.getD 1 zS = y := rfl
   have k2 : (S.mk [] o (x :: y :: r)).list.getD 2 zS = r.getD 0 zS := rfl
   have k3 : (S.mk [] o (x :: y :: r)).list.getD 3 zS = r.getD 1 zS := rfl
   have kl : (S.mk [] o (x :: y :: r)).list.length = r.length + 2 := rfl
   have hB : shapeB (S.mk [] o (x :: y :: r)) = ((!decide (kindOf x.atom = 0) && ((refsE y).isSome && decide (((r.length + 2 : Nat) : Int) = partsE (kindOf x.atom)))) &&
     ((if kindOf x.atom = 5 ∨ kindOf x.atom = 12 then decide ((intE (r.getD 0 zS).atom).2 = 0) else true) && (!decide (kindOf x.atom = 5) || namedB (r.getD 1 zS)))) := by
     unfold shapeB
     rw [k0,k1,k2,k3,kl]
     simp
   have hS : shapeS (S.mk [] o (x :: y :: r)) = ⟨kindOf x.atom,((refsE y).getD []).isEmpty,(refsE y).getD [],if kindOf x.atom = 5 ∨ kindOf x.atom = 12 then (intE (r.getD 0 zS).atom).1 else 0,true,[],T.z,T.z⟩ := by
     unfold shapeS
     rw [k0,k1,k2]
   by_cases hy : y.atom = []
   · have hrE : refsE y = refsS y.list := by unfold refsE; rw [if_neg (by simp [hy])]
     rw [hrE] at hB hS
     by_cases hk0 : kindOf x.atom = 0
     · have hB' : shapeB (S.mk [] o (x :: y :: r)) = false := by rw [hB,hk0]; simp
       rw [stepR_bad hB']
       exact read_bad _ (fun hp lo _ => stepT_bad3 x y r o hy hk0 hp lo) hp lo q
     cases hrS : refsS y.list with
     | none =>
       have hB' : shapeB (S.mk [] o (x :: y :: r)) = false := by rw [hB,hrS]; simp
       rw [stepR_bad hB']
       exact read_bad _ (fun hp lo _ => stepT_bad4 x y r o hy hyf hk0 hrS hp lo) hp lo q
     | some rl =>
       rw [hrS] at hB hS
       simp only [Option.isSome_some,Option.getD_some,Bool.true_and] at hB hS
       by_cases hln : (r.length : Int) + 1 + 1 = partsE (kindOf x.atom)
       · have hd1 : decide (kindOf x.atom = 0) = false := by simp [hk0]
         have hd2 : decide (((r.length + 2 : Nat) : Int) = partsE (kindOf x.atom)) = true := by simp; omega
         rw [hd1,hd2] at hB
         simp only [Bool.not_false,Bool.true_and] at hB
         by_cases h5 : kindOf x.atom = 5
         · have hr2 : r.length = 2 := by rw [h5] at hln; have : partsE 5 = 4 := rfl; omega
           match r,hr2 with
           | [z, w],_ =>
             have hzf := hrf z (by simp)
             have hwf := hrf w (by simp)
             have c0 : [z,w].getD 0 zS = z := rfl
             have c1 : [z,w].getD 1 zS = w := rfl
             rw [c0,c1,h5] at hB
             rw [c0,h5] at hS
             simp only [true_or,if_true,decide_true,Bool.not_true,Bool.false_or] at hB hS
             by_cases hz : (intE z.atom).2 = 0
             · cases hn : namedB w with
               | false =>
                 have hB' : shapeB (S.mk [] o [x,y,z,w]) = false := by rw [hB,hn]; simp
                 rw [stepR_bad hB']
                 exact read_bad _ (fun hp lo hlo => stepT_5bad x y z w o hy hyf hzf hwf h5 hrS (.inr hn) hp lo hlo) hp lo q
               | true =>
                 have hB' : shapeB (S.mk [] o [x,y,z,w]) = true := by rw [hB,hn]; simp [hz]
                 have := read_subs (S.mk [] o [x,y,z,w]) w hwf hn rl (intE z.atom).1 (fun hp lo hlo => stepT_5 x y z w o hy hyf hzf hwf h5 hrS hz hn hp lo hlo) hp lo q
                 rw [this]
                 unfold stepR
                 rw [hB',if_neg (by simp),k0,if_pos h5,k3,c1,hS]
                 try rfl
             · have hB' : shapeB (S.mk [] o [x,y,z,w]) = false := by rw [hB]; simp [hz]
               rw [stepR_bad hB']
               exact read_bad _ (fun hp lo hlo => stepT_5bad x y z w o hy hyf hzf hwf h5 hrS (.inl hz) hp lo hlo) hp lo q
         · by_cases h12 : kindOf x.atom = 12
           · have hr2 : r.length = 1 := by rw [h12] at hln; have : partsE 12 = 3 := rfl; omega
             match r,hr2 with
             | [z],_ =>
               have hzf := hrf z (by simp)
               have c0 : [z].getD 0 zS = z := rfl
               rw [c0,h12] at hB
               rw [c0,h12] at hS
               simp only [or_true,if_true] at hB hS
               have hstep := fun hp lo => stepT_12 x y z o hy hyf hzf h12 hrS hp lo
               by_cases hz : (intE z.atom).2 = 0
               · have hB' : shapeB (S.mk [] o [x,y,z]) = true := by rw [hB]; simp [hz]
                 have := read_none (S.mk [] o [x,y,z]) 12 rl (intE z.atom).1 .nil (fun hp lo hlo => by rw [hstep hp lo,hz]; rfl) hp lo q
                 rw [this]
                 unfold stepR
                 rw [hB',if_neg (by simp),k0,if_neg h5,if_neg (by omega),if_neg (by omega),hS]
                 try rfl
               · have hB' : shapeB (S.mk [] o [x,y,z]) = false := by rw [hB]; simp [hz]
                 rw [stepR_bad hB']
                 refine read_bad _ (fun hp lo hlo => ⟨12,rl,(intE z.atom).1,hp,?_⟩) hp lo q
                 rw [hstep hp lo]; simp [hz]
           · have hB' : shapeB (S.mk [] o (x :: y :: r)) = true := by rw [hB]; simp [h5,h12]
             have hstep := fun hp lo => stepT_else x y r o hr9 hy hyf hk0 hrS hln h5 h12 hp lo
             rw [if_neg (by omega)] at hS
             by_cases h4 : kindOf x.atom = 4
             · have hr2 : r.length = 2 := by rw [h4] at hln; have : partsE 4 = 4 := rfl; omega
               match r,hr2 with
               | [z,w],_ =>
                 have c0 : [z,w].getD 0 zS = z := rfl
                 have c1 : [z,w].getD 1 zS = w := rfl
                 have := read_two (S.mk [] o [x,y,z,w]) z w (kindOf x.atom) h5 rl (S.sm_of_fit z (hrf z (by simp))) (S.sm_of_fit w (hrf w (by simp))) (fun hp lo hlo => hstep hp lo) hp lo q
                 rw [this]
                 unfold stepR
                 rw [hB',if_neg (by simp),k0,if_neg h5,if_neg (by omega),if_pos h4,k2,k3,c0,c1,hS]
                 try rfl
             · by_cases h1 : kindOf x.atom = 1 ∨ kindOf x.atom = 6 ∨ kindOf x.atom = 7 ∨ kindOf x.atom = 8
               · have hr2 : r.length = 1 := by
                   have : partsE (kindOf x.atom) = 3 := by rcases h1 with h | h | h | h <;> rw [h] <;> rfl
                   omega
                 match r,hr2 with
                 | [z],_ =>
                   have c0 : [z].getD 0 zS = z := rfl
                   have := read_one (S.mk [] o [x,y,z]) z (kindOf x.atom) h5 rl (S.sm_of_fit z (hrf z (by simp))) (fun hp lo hlo => hstep hp lo) hp lo q
                   rw [this]
                   unfold stepR
                   rw [hB',if_neg (by simp),k0,if_neg h5,if_pos h1,k2,c0,hS]
                   try rfl
               · have hr2 : r.length = 0 := by
                   have : partsE (kindOf x.atom) = 2 := by unfold partsE; rw [if_neg (by omega),if_neg (by omega)]
                   omega
                 match r,hr2 with
                 | [],_ =>
                   have := read_none (S.mk [] o [x,y]) (kindOf x.atom) rl 0 .no (fun hp lo hlo => hstep hp lo) hp lo q
                   rw [this]
                   unfold stepR
                   rw [hB',if_neg (by simp),k0,if_neg h5,if_neg h1,if_neg h4,hS]
                   try rfl
       · have hB' : shapeB (S.mk [] o (x :: y :: r)) = false := by
           have hd2 : decide (((r.length + 2 : Nat) : Int) = partsE (kindOf x.atom)) = false := by simp; omega
           rw [hB,hd2]; simp
         rw [stepR_bad hB']
         exact read_bad _ (fun hp lo _ => stepT_bad5 x y r o hr9 hy hyf hk0 hrS hln hp lo) hp lo q
   · have hB' : shapeB (S.mk [] o (x :: y :: r)) = false := by
       have hrE : refsE y = none := by unfold refsE; rw [if_pos hy]
       rw [hB,hrE]; simp
     rw [stepR_bad hB']
     exact read_bad _ (fun hp lo _ => stepT_bad2 x y r o hy hp lo) hp lo q
end
end Go.Proofs.YtkofimhnehkdoaaGreatDoor.Rf
end
section
namespace Go.Proofs.YtkofimhnehkdoaaGreatDoor.Rf
def rfE (k:Int) : Int × Int := if k < 1 ∨ 12 < k then (-1,-1) else if k = 1 ∨ k = 6 ∨ k = 7 ∨ k = 12 then (0,0) else if k = 2 ∨ k = 11 then (1,1) else if k = 3 ∨ k = 9 ∨ k = 10 then (2,2) else if k = 4 ∨ k = 8 then (0,3) else (0,12)
def refB (i:Int) (x:Int) : Bool := decide (0 ≤ x) && decide (x < i)
def rightB (s:St7) (i:Int) : Bool := (if s.kind = 4 ∨ s.kind = 8 then decide (s.refs.length = s.a.args.length) && decide (s.refs.length ≤ 3) else
 decide (0 ≤ (rfE s.kind).1) && (decide ((rfE s.kind).1 ≤ s.refs.length) && decide ((s.refs.length : Int) ≤ (rfE s.kind).2))) && s.refs.all (refB i)
theorem all_range {α:Type} (l:List α) (d:α) (p:α → Bool) : ((List.range l.length).any fun i => !p (l.getD i d)) = !(l.all p) := by
 induction l with
 | nil => rfl
 | cons x r ih => rw [List.length_cons,List.range_succ_eq_map]; simp only [List.any_cons,List.any_map,Function.comp_def,List.all_cons]; simp only [List.getD_cons_zero,List.getD_cons_succ]; rw [ih]; cases p x <;> simp
section
variable {hp:List HObj} {lo:Nat}
theorem prefs_D (k:Int) (hp:List HObj) (lo:Nat) (q:Bool) : callD G0 IP n_proof_Refs [.int .i64 k] hp lo q = some (.ret (.tup [.int .i64 (rfE k).1,.int .i64 (rfE k).2]) hp) := by
 rw [callD_eq]
 by_cases h1 : k < 1
 · simp [IP_proof_Refs,i_proof_Refs,h1,rfE]
 · by_cases h2 : 12 < k
   · simp [IP_proof_Refs,i_proof_Refs,h1,h2,rfE]
   · rcases kind_cases (k := k) (by omega) with rfl | rfl | rfl | rfl | rfl | rfl | rfl | rfl | rfl | rfl | rfl | rfl
     all_goals simp [IP_proof_Refs,i_proof_Refs,rfE,G0_1,g_1]
theorem refs34_D (k:Int) (hp:List HObj) (lo:Nat) (q:Bool) : callD G0 IP n_sr34_Refs [.int .i64 k] hp lo q = some (.ret (.tup [.int .i64 (rfE k).1,.int .i64 (rfE k).2]) hp) := by
 rw [callD_eq]
 by_cases h : k < 1 ∨ 12 < k
 · have hk : ∀ j : Int,1 ≤ j → j ≤ 12 → ¬ k = j := fun j h1 h2 e => by omega
   have n1 := hk 1 (by omega) (by omega)
   have n2 := hk 2 (by omega) (by omega)
   have n3 := hk 3 (by omega) (by omega)
   have n4 := hk 4 (by omega) (by omega)
   have n5 := hk 5 (by omega) (by omega)
   have n6 := hk 6 (by omega) (by omega)
   have n7 := hk 7 (by omega) (by omega)
   have n8 := hk 8 (by omega) (by omega)
   have n9 := hk 9 (by omega) (by omega)
   have n10 := hk 10 (by omega) (by omega)
   have n11 := hk 11 (by omega) (by omega)
   have n12 := hk 12 (by omega) (by omega)
   simp [IP_sr34_Refs,i_sr34_Refs,n1,n2,n3,n4,n5,n6,n7,n8,n9,n10,n11,n12,rfE,h]
 · rcases kind_cases h with rfl | rfl | rfl | rfl | rfl | rfl | rfl | rfl | rfl | rfl | rfl | rfl
   all_goals simp [IP_sr34_Refs,i_sr34_Refs,rfE]
theorem right_L (l:List Int) (hl:l.length ≤ 65536) (o:Own) (i:Int) (hp:List HObj) (lo:Nat) : loopD G0 IP lo l_proof_right_0 ⟨[(1,.int .i64 i),(47,.list (i64s l) o),(48,.int .i64 l.length),(49,.int .i64 0)],hp⟩ =
   some (if l.all (refB i) then (.exit 0,⟨[(1,.int .i64 i),(47,.list (i64s l) o),(48,.int .i64 l.length),(49,.int .i64 l.length),(50,.bool false)],hp⟩) else (.ret,⟨[(4,.bool false)],hp⟩)) := by
 have hloop := loop_find (G := G0) (IP := IP) (lo := lo) (b := l_proof_right_0)
   (fun j => ⟨[(1,.int .i64 i),(47,.list (i64s l) o),(48,.int .i64 l.length),(49,.int .i64 j)],hp⟩) l.length (fun j => !refB i (l.getD j 0))
   (.ret,⟨[(4,.bool false)],hp⟩) (.exit 0,⟨[(1,.int .i64 i),(47,.list (i64s l) o),(48,.int .i64 l.length),(49,.int .i64 l.length),(50,.bool false)],hp⟩)
   (fun j hj hp1 => by
     have hI : (j:Int) < (l.length : Int) := by omega
     have hw : IntKind.wrap .i64 ((j:Int) + 1) = (j:Int) + 1 := wrap_small (by omega) (by omega)
     have hb : refB i l[j] = true := by simpa [hj] using hp1
     simp only [refB,Bool.and_eq_true,decide_eq_true_eq] at hb
     have c1 : ¬ l[j] < 0 := by omega
     have c2 : ¬ i ≤ l[j] := by omega
     simp [l_proof_right_0,hj,hI,c1,c2,hw])
   (fun j hj hp1 => by
     have hI : (j:Int) < (l.length : Int) := by omega
     have hb : refB i l[j] = false := by simpa [hj] using hp1
     by_cases c1 : l[j] < 0
     · simp [l_proof_right_0,hj,hI,c1]
     · have c2 : i ≤ l[j] := by
         simp only [refB,Bool.and_eq_false_iff,decide_eq_false_iff_not] at hb
         omega
       simp [l_proof_right_0,hj,hI,c1,c2])
   (fun s => by simp) (by simp [l_proof_right_0]) (fun s => by simp)
 rw [all_range l 0 (refB i)] at hloop
 simp only [Int.natCast_zero] at hloop
 rw [hloop]
 cases l.all (refB i) <;> simp
theorem well_L (s:St7) (hl:s.refs.length ≤ 65536) (i:Int) (hp:List HObj) (lo:Nat) : loopD G0 IP lo l_sr34_well_0 ⟨[(1,.int .i64 i),(2,.box s.cells),(7,.int .i64 0)],hp⟩ =
   some (if s.refs.all (refB i) then (.exit 0,⟨[(1,.int .i64 i),(2,.box s.cells),(7,.int .i64 s.refs.length),(52,.bool false)],hp⟩) else (.ret,⟨[(4,.bool false)],hp⟩)) := by
 have hloop := loop_find (G := G0) (IP := IP) (lo := lo) (b := l_sr34_well_0)
   (fun j => ⟨[(1,.int .i64 i),(2,.box s.cells),(7,.int .i64 j)],hp⟩) s.refs.length (fun j => !refB i (s.refs.getD j 0))
   (.ret,⟨[(4,.bool false)],hp⟩) (.exit 0,⟨[(1,.int .i64 i),(2,.box s.cells),(7,.int .i64 s.refs.length),(52,.bool false)],hp⟩)
   (fun j hj hp1 => by
     have hI : (j:Int) < (s.refs.length : Int) := by omega
     have hw : IntKind.wrap .i64 ((j:Int) + 1) = (j:Int) + 1 := wrap_small (by omega) (by omega)
     have hb : refB i s.refs[j] = true := by simpa [hj] using hp1
     simp only [refB,Bool.and_eq_true,decide_eq_true_eq] at hb
     have c1 : ¬ s.refs[j] < 0 := by omega
     have c2 : ¬ i ≤ s.refs[j] := by omega
     simp [l_sr34_well_0,hj,hI,c1,c2,hw])
   (fun j hj hp1 => by
     have hI : (j:Int) < (s.refs.length : Int) := by omega
     have hb : refB i s.refs[j] = false := by simpa [hj] using hp1
     by_cases c1 : s.refs[j] < 0
     · simp [l_sr34_well_0,hj,hI,c1]
     · have c2 : i ≤ s.refs[j] := by
         simp only [refB,Bool.and_eq_false_iff,decide_eq_false_iff_not] at hb
         omega
       simp [l_sr34_well_0,hj,hI,c1,c2])
   (fun s => by simp) (by simp [l_sr34_well_0]) (fun s => by simp)
 rw [all_range s.refs 0 (refB i)] at hloop
 simp only [Int.natCast_zero] at hloop
 rw [hloop]
 cases s.refs.all (refB i) <;> simp
end
end Go.Proofs.YtkofimhnehkdoaaGreatDoor.Rf
end
section
namespace Go.Proofs.YtkofimhnehkdoaaGreatDoor.Rf
section
variable {hp:List HObj} {lo:Nat}
set_option maxHeartbeats 2000000 in
theorem right_D (s:St7) (hl:s.refs.length ≤ 65536) (i:Int) (hp:List HObj) (lo:Nat) (q:Bool) : callD G0 IP n_proof_right [s.av,.int .i64 i] hp lo q = some (.ret (.bool (rightB s i)) hp) := by
 have e1 := fun (hp:List HObj) (lo:Nat) (q:Bool) => prefs_D s.kind hp lo q
 have e2 := fun (o:Own) => right_L (lo := hp.length) s.refs hl o i hp
 rw [callD_eq,st_av,St7.cells]
 by_cases h48 : s.kind = 4 ∨ s.kind = 8
 · have hR : rightB s i = (decide (s.refs.length = s.a.args.length) && decide (s.refs.length ≤ 3) && s.refs.all (refB i)) := by
     unfold rightB; rw [if_pos h48]
   have hrf : rfE s.kind = (0,3) := by rcases h48 with h | h <;> rw [h] <;> rfl
   rw [hR]
   rw [hrf] at e1
   have hn : ¬ (s.a.args.length : Int) < 0 := by omega
   by_cases c1 : (s.refs.length : Int) < (s.a.args.length : Int)
   · have hx : ¬ s.refs.length = s.a.args.length := by omega
     rcases h48 with h | h <;> rw [h] at e1 <;> simp [IP_proof_right,i_proof_right,e1,h,hn,c1,hx]
   · by_cases c3 : (s.a.args.length : Int) < 3
     · by_cases c2 : (s.a.args.length : Int) < (s.refs.length : Int)
       · have hx : ¬ s.refs.length = s.a.args.length := by omega
         rcases h48 with h | h <;> rw [h] at e1 <;> simp [IP_proof_right,i_proof_right,e1,h,hn,c1,c2,c3,hx]
       · have hx : s.refs.length = s.a.args.length := by omega
         have hx3 : s.a.args.length ≤ 3 := by omega
         rw [show decide (s.refs.length = s.a.args.length) = true by simp [hx],show decide (s.refs.length ≤ 3) = true by rw [hx]; simp [hx3]]
         cases ha : s.refs.all (refB i) with
         | false =>
           rw [ha] at e2
           simp only [Bool.false_eq_true,if_false] at e2
           rcases h48 with h | h <;> rw [h] at e1 <;> simp [IP_proof_right,i_proof_right,e1,h,hn,c1,c2,c3,e2]
         | true =>
           rw [ha] at e2
           simp only [if_true] at e2
           rcases h48 with h | h <;> rw [h] at e1 <;> simp [IP_proof_right,i_proof_right,e1,h,hn,c1,c2,c3,e2]
     · by_cases c2 : (3:Int) < (s.refs.length : Int)
       · have hx : ¬ s.refs.length ≤ 3 := by omega
         rcases h48 with h | h <;> rw [h] at e1 <;> simp [IP_proof_right,i_proof_right,e1,h,hn,c1,c2,c3,hx]
       · have hx : s.refs.length = s.a.args.length := by omega
         have hx3 : s.a.args.length ≤ 3 := by omega
         rw [show decide (s.refs.length = s.a.args.length) = true by simp [hx],show decide (s.refs.length ≤ 3) = true by rw [hx]; simp [hx3]]
         cases ha : s.refs.all (refB i) with
         | false =>
           rw [ha] at e2
           simp only [Bool.false_eq_true,if_false] at e2
           rcases h48 with h | h <;> rw [h] at e1 <;> simp [IP_proof_right,i_proof_right,e1,h,hn,c1,c2,c3,e2]
         | true =>
           rw [ha] at e2
           simp only [if_true] at e2
           rcases h48 with h | h <;> rw [h] at e1 <;> simp [IP_proof_right,i_proof_right,e1,h,hn,c1,c2,c3,e2]
 · have n4 : ¬ s.kind = 4 := fun h => h48 (.inl h)
   have n8 : ¬ s.kind = 8 := fun h => h48 (.inr h)
   have hR : rightB s i = (decide (0 ≤ (rfE s.kind).1) && (decide ((rfE s.kind).1 ≤ s.refs.length) && decide ((s.refs.length : Int) ≤ (rfE s.kind).2)) && s.refs.all (refB i)) := by
     unfold rightB; rw [if_neg h48]
   rw [hR]
   generalize (rfE s.kind).1 = a at *
   generalize (rfE s.kind).2 = b at *
   by_cases c0 : a < 0
   · have hx : ¬ 0 ≤ a := by omega
     simp [IP_proof_right,i_proof_right,e1,n4,n8,c0,hx]
   · have hx : 0 ≤ a := by omega
     by_cases c1 : (s.refs.length : Int) < a
     · have hx1 : ¬ a ≤ (s.refs.length : Int) := by omega
       simp [IP_proof_right,i_proof_right,e1,n4,n8,c0,c1,hx,hx1]
     · have hx1 : a ≤ (s.refs.length : Int) := by omega
       by_cases c2 : b < (s.refs.length : Int)
       · have hx2 : ¬ (s.refs.length : Int) ≤ b := by omega
         simp [IP_proof_right,i_proof_right,e1,n4,n8,c0,c1,c2,hx,hx1,hx2]
       · have hx2 : (s.refs.length : Int) ≤ b := by omega
         cases ha : s.refs.all (refB i) with
         | false =>
           rw [ha] at e2
           simp only [Bool.false_eq_true,if_false] at e2
           simp [IP_proof_right,i_proof_right,e1,n4,n8,c0,c1,c2,hx,hx1,hx2,e2]
         | true =>
           rw [ha] at e2
           simp only [if_true] at e2
           simp [IP_proof_right,i_proof_right,e1,n4,n8,c0,c1,c2,hx,hx1,hx2,e2]
set_option maxHeartbeats 2000000 in
theorem well_D (s:St7) (hl:s.refs.length ≤ 65536) (i:Int) (hp:List HObj) (lo:Nat) (q:Bool) : callD G0 IP n_sr34_well [s.av,.int .i64 i] hp lo q = some (.ret (.bool (rightB s i)) hp) := by
 have e1 := fun (hp:List HObj) (lo:Nat) (q:Bool) => refs34_D s.kind hp lo q
 have e2 := well_L (lo := hp.length) s hl i hp
 rw [St7.cells] at e2
 rw [callD_eq,st_av,St7.cells]
 by_cases h48 : s.kind = 4 ∨ s.kind = 8
 · have hR : rightB s i = (decide (s.refs.length = s.a.args.length) && decide (s.refs.length ≤ 3) && s.refs.all (refB i)) := by
     unfold rightB; rw [if_pos h48]
   have hrf : rfE s.kind = (0,3) := by rcases h48 with h | h <;> rw [h] <;> rfl
   rw [hR]
   rw [hrf] at e1
   have hn : ¬ (s.refs.length : Int) < 0 := by omega
   by_cases c1 : (3:Int) < (s.refs.length : Int)
   · have hx : ¬ s.refs.length ≤ 3 := by omega
     rcases h48 with h | h <;> rw [h] at e1 <;> simp [IP_sr34_well,i_sr34_well,e1,h,hn,c1,hx]
   · have hx : s.refs.length ≤ 3 := by omega
     by_cases c2 : s.refs.length = s.a.args.length
     · have c2' : (s.refs.length : Int) = (s.a.args.length : Int) := by omega
       have c3 : ¬ (3:Int) < (s.a.args.length : Int) := by omega
       have hxx : s.a.args.length ≤ 3 := by omega
       have hnn : ¬ (s.a.args.length : Int) < 0 := by omega
       rw [c2'] at e2
       cases ha : s.refs.all (refB i) with
       | false =>
         rw [ha] at e2
         simp only [Bool.false_eq_true,if_false] at e2
         rcases h48 with h | h <;> rw [h] at e1 e2 <;> simp [IP_sr34_well,i_sr34_well,e1,h,hnn,c3,hxx,c2,e2]
       | true =>
         rw [ha] at e2
         simp only [if_true] at e2
         rcases h48 with h | h <;> rw [h] at e1 e2 <;> simp [IP_sr34_well,i_sr34_well,e1,h,hnn,c3,hxx,c2,e2]
     · have c2' : ¬ (s.refs.length : Int) = (s.a.args.length : Int) := by omega
       rcases h48 with h | h <;> rw [h] at e1 <;> simp [IP_sr34_well,i_sr34_well,e1,h,hn,c1,hx,c2,c2']
 · have n4 : ¬ s.kind = 4 := fun h => h48 (.inl h)
   have n8 : ¬ s.kind = 8 := fun h => h48 (.inr h)
   have hR : rightB s i = (decide (0 ≤ (rfE s.kind).1) && (decide ((rfE s.kind).1 ≤ s.refs.length) && decide ((s.refs.length : Int) ≤ (rfE s.kind).2)) && s.refs.all (refB i)) := by
     unfold rightB; rw [if_neg h48]
   rw [hR]
   generalize (rfE s.kind).1 = a at *
   generalize (rfE s.kind).2 = b at *
   by_cases c0 : a < 0
   · have hx : ¬ 0 ≤ a := by omega
     simp [IP_sr34_well,i_sr34_well,e1,n4,n8,c0,hx]
   · have hx : 0 ≤ a := by omega
     by_cases c1 : (s.refs.length : Int) < a
     · have hx1 : ¬ a ≤ (s.refs.length : Int) := by omega
       simp [IP_sr34_well,i_sr34_well,e1,n4,n8,c0,c1,hx,hx1]
     · have hx1 : a ≤ (s.refs.length : Int) := by omega
       by_cases c2 : b < (s.refs.length : Int)
       · have hx2 : ¬ (s.refs.length : Int) ≤ b := by omega
         simp [IP_sr34_well,i_sr34_well,e1,n4,n8,c0,c1,c2,hx,hx1,hx2]
       · have hx2 : (s.refs.length : Int) ≤ b := by omega
         cases ha : s.refs.all (refB i) with
         | false =>
           rw [ha] at e2
           simp only [Bool.false_eq_true,if_false] at e2
           simp [IP_sr34_well,i_sr34_well,e1,n4,n8,c0,c1,c2,hx,hx1,hx2,e2]
         | true =>
           rw [ha] at e2
           simp only [if_true] at e2
           simp [IP_sr34_well,i_sr34_well,e1,n4,n8,c0,c1,c2,hx,hx1,hx2,e2]
end
end Go.Proofs.YtkofimhnehkdoaaGreatDoor.Rf
end
section
namespace Go.Proofs.YtkofimhnehkdoaaGreatDoor.Rf
def checkE (l:List St7) : Int × Int := if 65536 < l.length then (0,7) else if l = [] then (0,8) else
 match (List.range l.length).find? (fun i => !rightB (l.getD i St7.z) (i:Int)) with | some i => ((i:Int),14) | none => (0,0)
section
variable {hp:List HObj} {lo:Nat}
set_option maxHeartbeats 2000000 in
theorem check_D (l:List St7) (hl:∀ s,s ∈ l → s.refs.length ≤ 65536) (o:Bool) (hp:List HObj) (lo:Nat) (q:Bool) : callD G0 IP n_proof_Check [.list (St7.avs l) (ownB o)] hp lo q = some (.ret (.tup [.int .i64 (checkE l).1,.int .i64 (checkE l).2]) hp) := by
 rw [callD_eq]
 by_cases h1 : 65536 < l.length
 · have hI : (65536:Int) < (l.length : Int) := by omega
   simp [IP_proof_Check,i_proof_Check,hI,checkE,h1]
 by_cases h2 : l = []
 · subst h2
   simp [IP_proof_Check,i_proof_Check,checkE]
 have hI : ¬ (65536:Int) < (l.length : Int) := by omega
 have hl0 : ¬ l.length = 0 := by simpa using h2
 have hI0 : ¬ (l.length : Int) = 0 := by omega
 have hr := fun (s:St7) (hs:s ∈ l) (i:Int) (hp:List HObj) (lo:Nat) (q:Bool) => right_D s (hl s hs) i hp lo q
 have hloop := loop_some (G := G0) (IP := IP) (lo := hp.length) (b := l_proof_Check_0)
   (fun i => ⟨[(14,.list (St7.avs l) (ownB o)),(15,.int .i64 l.length),(16,.int .i64 i)],hp⟩) l.length (fun i => !rightB (l.getD i St7.z) (i:Int)) (fun i => (.ret,⟨[(2,.int .i64 i),(3,.int .i64 14)],hp⟩))
   (.exit 1,⟨[(14,.list (St7.avs l) (ownB o)),(15,.int .i64 l.length),(16,.int .i64 l.length),(17,.bool false)],hp⟩)
   (fun i hi hp1 => by
     have e1 : (i:Int) < (l.length : Int) := by omega
     have e5 : IntKind.wrap .i64 ((i:Int) + 1) = (i:Int) + 1 := wrap_small (by omega) (by omega)
     have hb : rightB l[i] i = true := by simpa [hi] using hp1
     have hc := fun (hp:List HObj) (lo:Nat) (q:Bool) => hr l[i] (List.getElem_mem hi) i hp lo q
     rw [hb,st_av,St7.cells] at hc
     simp [l_proof_Check_0,e1,e5,hi,st_av,hc])
   (fun i hi hp1 => by
     have e1 : (i:Int) < (l.length : Int) := by omega
     have hb : rightB l[i] i = false := by simpa [hi] using hp1
     have hc := fun (hp:List HObj) (lo:Nat) (q:Bool) => hr l[i] (List.getElem_mem hi) i hp lo q
     rw [hb,st_av,St7.cells] at hc
     simp [l_proof_Check_0,e1,hi,st_av,hc])
   (fun i s => by simp) (by simp [l_proof_Check_0]) (by simp)
 simp only [Int.natCast_zero] at hloop
 rcases hloop with ⟨m,hm,hp1,hp2,hlp⟩ | ⟨hno,hlp⟩
 · have hf : (List.range l.length).find? (fun i => !rightB (l.getD i St7.z) (i:Int)) = some m := by
     rw [List.find?_range_eq_some]
     exact ⟨hp1,by simpa using hm,fun j hj => by simpa using hp2 j hj⟩
   have he : checkE l = ((m:Int),14) := by unfold checkE; rw [if_neg h1,if_neg h2,hf]
   rw [he]
   simp [IP_proof_Check,i_proof_Check,hlp,hI,hI0,h2]
 · have hf : (List.range l.length).find? (fun i => !rightB (l.getD i St7.z) (i:Int)) = none := by
     rw [List.find?_eq_none]
     intro i hi; simp at hi; have := hno i hi; simpa using this
   have he : checkE l = (0,0) := by unfold checkE; rw [if_neg h1,if_neg h2,hf]
   rw [he]
   simp [IP_proof_Check,i_proof_Check,hlp,hI,hI0,h2]
set_option maxHeartbeats 2000000 in
theorem check34_D (l:List St7) (hl:∀ s,s ∈ l → s.refs.length ≤ 65536) (o:Bool) (hp:List HObj) (lo:Nat) (q:Bool) : callD G0 IP n_sr34_Check [.list (St7.avs l) (ownB o)] hp lo q = some (.ret (.tup [.int .i64 (checkE l).1,.int .i64 (checkE l).2]) hp) := by
 rw [callD_eq]
 by_cases h1 : 65536 < l.length
 · have hI : (65536:Int) < (l.length : Int) := by omega
   simp [IP_sr34_Check,i_sr34_Check,hI,checkE,h1]
 by_cases h2 : l = []
 · subst h2
   simp [IP_sr34_Check,i_sr34_Check,checkE]
 have hI : ¬ (65536:Int) < (l.length : Int) := by omega
 have hl0 : ¬ l.length = 0 := by simpa using h2
 have hI0 : ¬ (l.length : Int) = 0 := by omega
 have hr := fun (s:St7) (hs:s ∈ l) (i:Int) (hp:List HObj) (lo:Nat) (q:Bool) => well_D s (hl s hs) i hp lo q
 have hloop := loop_some (G := G0) (IP := IP) (lo := hp.length) (b := l_sr34_Check_0)
   (fun i => ⟨[(0,.list (St7.avs l) (ownB o)),(4,.int .i64 i)],hp⟩) l.length (fun i => !rightB (l.getD i St7.z) (i:Int)) (fun i => (.ret,⟨[(2,.int .i64 i),(3,.int .i64 14)],hp⟩))
   (.exit 1,⟨[(0,.list (St7.avs l) (ownB o)),(4,.int .i64 l.length),(16,.bool false)],hp⟩)
   (fun i hi hp1 => by
     have e1 : (i:Int) < (l.length : Int) := by omega
     have e5 : IntKind.wrap .i64 ((i:Int) + 1) = (i:Int) + 1 := wrap_small (by omega) (by omega)
     have hb : rightB l[i] i = true := by simpa [hi] using hp1
     have hc := fun (hp:List HObj) (lo:Nat) (q:Bool) => hr l[i] (List.getElem_mem hi) i hp lo q
     rw [hb,st_av,St7.cells] at hc
     simp [l_sr34_Check_0,e1,e5,hi,st_av,hc])
   (fun i hi hp1 => by
     have e1 : (i:Int) < (l.length : Int) := by omega
     have hb : rightB l[i] i = false := by simpa [hi] using hp1
     have hc := fun (hp:List HObj) (lo:Nat) (q:Bool) => hr l[i] (List.getElem_mem hi) i hp lo q
     rw [hb,st_av,St7.cells] at hc
     simp [l_sr34_Check_0,e1,hi,st_av,hc])
   (fun i s => by simp) (by simp [l_sr34_Check_0]) (by simp)
 simp only [Int.natCast_zero] at hloop
 rcases hloop with ⟨m,hm,hp1,hp2,hlp⟩ | ⟨hno,hlp⟩
 · have hf : (List.range l.length).find? (fun i => !rightB (l.getD i St7.z) (i:Int)) = some m := by
     rw [List.find?_range_eq_some]
     exact ⟨hp1,by simpa using hm,fun j hj => by simpa using hp2 j hj⟩
   have he : checkE l = ((m:Int),14) := by unfold checkE; rw [if_neg h1,if_neg h2,hf]
   rw [he]
   simp [IP_sr34_Check,i_sr34_Check,hlp,hI,hI0,h2]
 · have hf : (List.range l.length).find? (fun i => !rightB (l.getD i St7.z) (i:Int)) = none := by
     rw [List.find?_eq_none]
     intro i hi; simp at hi; have := hno i hi; simpa using this
   have he : checkE l = (0,0) := by unfold checkE; rw [if_neg h1,if_neg h2,hf]
   rw [he]
   simp [IP_sr34_Check,i_sr34_Check,hlp,hI,hI0,h2]
end
end Go.Proofs.YtkofimhnehkdoaaGreatDoor.Rf
end
section
namespace Go.Proofs.YtkofimhnehkdoaaGreatDoor.Rf
inductive PrR where
 | ok (l:List St7) | err (i:Int) (e:Int)
def stepsR : Int → List S → PrR
 | _,[] => .ok []
 | i, x :: r => match stepR x with
   | .err c => .err i c
   | .ok s => match stepsR (i + 1) r with
     | .err j c => .err j c
     | .ok l => .ok (s :: l)
def proofR (s:List UInt8) : PrR := match pAll s with
 | .err at' e => .err at' e
 | .ok l _ => match stepsR 0 l with
   | .err i c => .err i c
   | .ok p => if (checkE p).2 = 0 then .ok p else .err (checkE p).1 (checkE p).2
def ownSt (acc:List St7) : Own := if acc.isEmpty then .nil else .own 14 0
@[simp] theorem ownSt_cp (acc:List St7) : (ownSt acc).cp = ownB acc.isEmpty := by cases acc <;> rfl
@[simp] theorem ownSt_app (acc:List St7) (x:St7) : ownSt (acc ++ [x]) = .own 14 0 := by cases acc <;> rfl
theorem ownSt_ok (acc:List St7) : ownSt acc = .nil ∨ ownSt acc = .own 14 0 := by cases acc <;> simp [ownSt]
theorem avs7_app (a b:List St7) : St7.avs (a ++ b) = St7.avs a ++ St7.avs b := by simp [St7.avs]
@[simp] theorem avs7_nil : St7.avs [] = [] := rfl
@[simp] theorem okSize_avs7 (l:List St7) : okSize 14 (St7.avs l) = true := by cases l <;> simp [St7.avs,st_av]
theorem avs7_closed (n:Nat) : ∀ l : List St7,AV.closedL n (St7.avs l) = true
 | [] => rfl
 | x :: r => by
   have := avs7_closed n r
   simp only [St7.avs] at this
   simp [St7.avs,AV.closedL,AV.closed,this,st_av,T.avs_closed,i64s_closed,sbs_closed]
theorem refsS_len : ∀ (l:List S) (r:List Int),refsS l = some r → r.length = l.length
 | [],r,h => by simp [refsS] at h; subst h; rfl
 | x :: l,r,h => by
   rw [refsS] at h
   split at h
   · split at h
     · rename_i r' hr
       cases h
       simp [refsS_len l r' hr]
     · cases h
   · cases h
theorem shapeS_len (e:S) (he:e.fit) : (shapeS e).refs.length ≤ 65536 := by
 have hf := (S.fit_eq e).1 he
 have : ((refsE (e.list.getD 1 zS)).getD []).length ≤ 65536 := by
   have hx : (e.list.getD 1 zS).fit := by
     rw [List.getD_eq_getElem?_getD]
     cases hg : e.list[1]? with
     | none => simp [S.fit,S.fits]
     | some x => exact hf.2.2.2 x (List.mem_of_getElem? hg)
   have hxf := (S.fit_eq _).1 hx
   unfold refsE
   split
   · simp
   · cases hr : refsS (e.list.getD 1 zS).list with
     | none => simp
     | some r => have := refsS_len _ _ hr; simp; omega
 exact this
theorem stepR_refs (e:S) (s:St7) (h:stepR e = .ok s) : s.refs = (shapeS e).refs := by
 unfold stepR at h
 split at h
 · cases h
 · split at h
   · split at h
     · cases h
     · cases h; rfl
   · split at h
     · split at h
       · cases h
       · cases h; rfl
     · split at h
       · split at h
         · cases h
         · split at h
           · cases h
           · cases h; rfl
       · cases h; rfl
theorem stepR_len {e:S} (he:e.fit) {s:St7} (h:stepR e = .ok s) : s.refs.length ≤ 65536 := by rw [stepR_refs e s h]; exact shapeS_len e he
theorem subsS_ne : ∀ (l:List S) (c:Int),subsS l = .err c → ¬ c = 0
 | [],c,h => by cases h
 | x :: r,c,h => by
   rw [subsS] at h
   split at h
   · rename_i hr
     cases h; exact readS_ne _ _ hr
   · split at h
     · rename_i hr
       cases h; exact subsS_ne r _ hr
     · cases h
theorem stepR_ne (e:S) (c:Int) (h:stepR e = .err c) : ¬ c = 0 := by
 unfold stepR at h
 split at h
 · cases h; decide
 · split at h
   · split at h
     · rename_i hr
       cases h; exact subsS_ne _ _ hr
     · cases h
   · split at h
     · split at h
       · rename_i hr
         cases h; exact readS_ne _ _ hr
       · cases h
     · split at h
       · split at h
         · rename_i hr
           cases h; exact readS_ne _ _ hr
         · split at h
           · rename_i hr
             cases h; exact readS_ne _ _ hr
           · cases h
       · cases h
theorem stepsR_len : ∀ (l:List S) (i:Int) (p:List St7),stepsR i l = .ok p → p.length = l.length
 | [],i,p,h => by simp [stepsR] at h; subst h; rfl
 | x :: r,i,p,h => by
   rw [stepsR] at h
   split at h
   · cases h
   · split at h
     · cases h
     · rename_i l' hl
       cases h
       simp [stepsR_len r _ _ hl]
theorem stepsR_mem : ∀ (l:List S) (i:Int) (p:List St7),stepsR i l = .ok p → ∀ s,s ∈ p → ∃ e,e ∈ l ∧ stepR e = .ok s
 | [],i,p,h,s,hs => by simp [stepsR] at h; subst h; simp at hs
 | x :: r,i,p,h,s,hs => by
   rw [stepsR] at h
   split at h
   · cases h
   · rename_i s' hs'
     split at h
     · cases h
     · rename_i l' hl
       cases h
       rcases List.mem_cons.1 hs with rfl | hs
       · exact ⟨x,by simp,hs'⟩
       · obtain ⟨e,he,h2⟩ := stepsR_mem r _ _ hl s hs
         exact ⟨e,by simp [he],h2⟩
def outQ (own:List St7 → Own) : PrR → AV
 | .ok l => .tup [.list (St7.avs l) (own l),.int .i64 0,.int .i64 0]
 | .err i e => .tup [.list [] .nil,.int .i64 i,.int .i64 e]
def outL36 (L:List S) (o:Own) (hp:List HObj) (acc:List St7) : PrR → Ex × St
 | .err i c => (.ret,⟨[(2,.list [] .nil),(3,.int .i64 i),(4,.int .i64 c)],hp⟩)
 | .ok l => (.exit 0,⟨[(5,.list (S.avs L) o),(8,.list (St7.avs (acc ++ l)) (ownSt (acc ++ l))),(9,.int .i64 L.length),(25,.bool false)],hp⟩)
section
variable {hp:List HObj} {lo:Nat}
set_option maxHeartbeats 2000000 in
theorem parse36_L (L:List S) (o:Own) (hL:L.length ≤ 65536) : ∀ (r p:List S) (acc:List St7),L = p ++ r → acc.length ≤ p.length → (∀ x,x ∈ r → x.fit) →
   loopD G0 IP lo l_sr36_Parse_0 ⟨[(5,.list (S.avs L) o),(8,.list (St7.avs acc) (ownSt acc)),(9,.int .i64 p.length)],hp⟩ = some (outL36 L o hp acc (stepsR p.length r))
 | [],p,acc,h,ha,_ => by
   rw [loopD_eq,loopBody]
   simp at h
   subst h
   simp [l_sr36_Parse_0,stepsR,outL36]
 | x :: r,p,acc,h,ha,hx => by
   rw [loopD_eq,loopBody]
   have xf := hx x (by simp)
   have hlen : L.length = p.length + (r.length + 1) := by rw [h]; simp
   have h1 : (p.length : Int) < (L.length : Int) := by omega
   have hl : p.length < L.length := by omega
   have h2 : L[p.length] = x := by simp [h]
   have hw : IntKind.wrap .i64 ((p.length : Int) + 1) = (p.length : Int) + 1 := wrap_small (by omega) (by omega)
   have e1 := step36_D x xf hp lo false
   rw [stepsR]
   cases hr : stepR x with
   | err c =>
     have hc := stepR_ne x c hr
     rw [hr,StR.tup,stz_av,S.av_eq] at e1
     simp [l_sr36_Parse_0,hl,h1,h2,S.av_eq x,e1,hc,outL36]
   | ok s =>
     rw [hr,StR.tup,st_av,St7.cells,S.av_eq] at e1
     have ih := parse36_L L o hL r (p ++ [x]) (acc ++ [s]) (by rw [h]; simp) (by simp; omega) (fun y hy => hx y (by simp [hy]))
     simp only [List.length_append,List.length_cons,List.length_nil,Nat.zero_add,Int.natCast_add,Int.natCast_one] at ih
     have hb1 : (acc.length + 1) * 192 ≤ 140737488355328 := by omega
     have hb2 : acc.length + 1 ≤ 9223372036854775807 := by omega
     have hout : outL36 L o hp acc (match stepsR ((p.length : Int) + 1) r with | .err j c => .err j c | .ok l => .ok (s :: l)) = outL36 L o hp (acc ++ [s]) (stepsR ((p.length : Int) + 1) r) := by
       cases stepsR ((p.length : Int) + 1) r <;> simp [outL36]
     simp only
     rw [hout]
     rw [avs7_app,ownSt_app,show St7.avs [s] = [.agg s.cells] from rfl,St7.cells] at ih
     simp [l_sr36_Parse_0,hl,h1,h2,S.av_eq x,e1,hb1,hb2,ownSt_ok,hw]
     exact ih
set_option maxHeartbeats 2000000 in
theorem parse36_D (s:List UInt8) (hp:List HObj) (lo:Nat) (q:Bool) : callD G0 IP n_sr36_Parse [.str s] hp lo q = some (.ret (outQ ownSt (proofR s)) hp) := by
 rw [callD_eq]
 have e1 := fun (hp:List HObj) (lo:Nat) (q:Bool) => parseAll1_D (s := s) (hp := hp) (lo := lo) q
 unfold proofR
 cases hx : pAll s with
 | err j e =>
   have he := pAll_err hx
   simp only [hx,outA] at e1
   simp [IP_sr36_Parse,i_sr36_Parse,e1,outQ,he]
 | ok l st =>
   simp only [hx,outA] at e1
   have hfit := pAll_fit hx
   have hlen : l.length ≤ 65536 := (pAll_wf hx).2
   have e2 := fun (o:Own) => parse36_L (hp := hp) (lo := hp.length) l o hlen l [] [] rfl (by simp) hfit
   simp only [List.length_nil,Int.natCast_zero,show ownSt [] = .nil from rfl,avs7_nil] at e2
   cases hs : stepsR 0 l with
   | err i c =>
     rw [hs] at e2
     simp only [outL36] at e2
     simp [IP_sr36_Parse,i_sr36_Parse,e1,outQ,hs,e2]
   | ok p =>
     rw [hs] at e2
     simp only [outL36,List.nil_append] at e2
     have hrl : ∀ t,t ∈ p → t.refs.length ≤ 65536 := by
       intro t ht
       obtain ⟨e,he,h2⟩ := stepsR_mem l 0 p hs t ht
       exact stepR_len (hfit e he) h2
     have e4 := fun (o:Bool) (hp:List HObj) (lo:Nat) (q:Bool) => check34_D p hrl o hp lo q
     by_cases hc : (checkE p).2 = 0
     · rw [hc] at e4
       simp [IP_sr36_Parse,i_sr36_Parse,e1,outQ,e2,e4,avs7_closed,hs,hc]
     · simp [IP_sr36_Parse,i_sr36_Parse,e1,outQ,e2,e4,hs,hc]
end
end Go.Proofs.YtkofimhnehkdoaaGreatDoor.Rf
end
section
namespace Go.Proofs.YtkofimhnehkdoaaGreatDoor.Rf
def outLT (L:List S) (o:Own) (hp:List HObj) (acc:List St7) : PrR → Ex × St
 | .err i c => (.ret,⟨[(2,.list [] .nil),(3,.int .i64 i),(4,.int .i64 c)],hp⟩)
 | .ok l => (.exit 0,⟨[(8,.list (St7.avs (acc ++ l)) (ownSt (acc ++ l))),(25,.list (S.avs L) o),(26,.int .i64 L.length),(27,.int .i64 L.length),(28,.bool false)],hp⟩)
theorem outLT_ok (L:List S) (o:Own) (hp:List HObj) (acc:List St7) (i:Int) (x:S) (r:List S) (s:St7) (h:stepR x = .ok s) : outLT L o hp acc (stepsR i (x :: r)) = outLT L o hp (acc ++ [s]) (stepsR (i + 1) r) := by
 rw [stepsR,h]
 cases stepsR (i + 1) r <;> simp [outLT]
section
variable {hp:List HObj} {lo:Nat}
set_option maxHeartbeats 2000000 in
theorem parseP_L (L:List S) (o:Own) (hL:L.length ≤ 65536) : ∀ (r p:List S) (acc:List St7),L = p ++ r → acc.length ≤ p.length → (∀ x,x ∈ r → x.fit) →
   loopD G0 IP lo l_pt_Parse_0 ⟨[(8,.list (St7.avs acc) (ownSt acc)),(25,.list (S.avs L) o),(26,.int .i64 L.length),(27,.int .i64 p.length)],hp⟩ = some (outLT L o hp acc (stepsR p.length r))
 | [],p,acc,h,ha,_ => by
   rw [loopD_eq,loopBody]
   simp at h
   subst h
   simp [l_pt_Parse_0,stepsR,outLT]
 | x :: r,p,acc,h,ha,hx => by
   rw [loopD_eq,loopBody]
   have xf := hx x (by simp)
   have hlen : L.length = p.length + (r.length + 1) := by rw [h]; simp
   have h1 : (p.length : Int) < (L.length : Int) := by omega
   have hl : p.length < L.length := by omega
   have h2 : L[p.length] = x := by simp [h]
   have hw : IntKind.wrap .i64 ((p.length : Int) + 1) = (p.length : Int) + 1 := wrap_small (by omega) (by omega)
   have e1 := readP_D x xf hp lo false
   cases hr : stepR x with
   | err c =>
     have hc := stepR_ne x c hr
     rw [stepsR,hr]
     rw [hr,StR.tup,stz_av,S.av_eq] at e1
     simp [l_pt_Parse_0,hl,h1,h2,S.av_eq x,e1,hc,outLT]
   | ok s =>
     rw [hr,StR.tup,st_av,St7.cells,S.av_eq] at e1
     have ih := parseP_L L o hL r (p ++ [x]) (acc ++ [s]) (by rw [h]; simp) (by simp; omega) (fun y hy => hx y (by simp [hy]))
     simp only [List.length_append,List.length_cons,List.length_nil,Nat.zero_add,Int.natCast_add,Int.natCast_one] at ih
     have hb1 : (acc.length + 1) * 192 ≤ 140737488355328 := by omega
     have hb2 : acc.length + 1 ≤ 9223372036854775807 := by omega
     rw [outLT_ok L o hp acc _ x r s hr]
     rw [avs7_app,ownSt_app,show St7.avs [s] = [.agg s.cells] from rfl,St7.cells] at ih
     simp [l_pt_Parse_0,hl,h1,h2,S.av_eq x,e1,hb1,hb2,ownSt_ok,hw]
     exact ih
set_option maxHeartbeats 2000000 in
theorem parseP_D (s:List UInt8) (hp:List HObj) (lo:Nat) (q:Bool) : callD G0 IP n_pt_Parse [.str s] hp lo q = some (.ret (outQ ownSt (proofR s)) hp) := by
 rw [callD_eq]
 have e1 := fun (hp:List HObj) (lo:Nat) (q:Bool) => parseAll2_D (s := s) (hp := hp) (lo := lo) q
 unfold proofR
 cases hx : pAll s with
 | err j e =>
   have he := pAll_err hx
   simp only [hx,outA] at e1
   simp [IP_pt_Parse,i_pt_Parse,e1,outQ,he]
 | ok l st =>
   simp only [hx,outA] at e1
   have hfit := pAll_fit hx
   have hlen : l.length ≤ 65536 := (pAll_wf hx).2
   have e2 := fun (o:Own) => parseP_L (hp := hp) (lo := hp.length) l o hlen l [] [] rfl (by simp) hfit
   simp only [List.length_nil,Int.natCast_zero,show ownSt [] = .nil from rfl,avs7_nil] at e2
   cases hs : stepsR 0 l with
   | err i c =>
     rw [hs] at e2
     simp only [outLT] at e2
     simp [IP_pt_Parse,i_pt_Parse,e1,outQ,hs,e2]
   | ok p =>
     rw [hs] at e2
     simp only [outLT,List.nil_append] at e2
     have hrl : ∀ t,t ∈ p → t.refs.length ≤ 65536 := by
       intro t ht
       obtain ⟨e,he,h2⟩ := stepsR_mem l 0 p hs t ht
       exact stepR_len (hfit e he) h2
     have e4 := fun (o:Bool) (hp:List HObj) (lo:Nat) (q:Bool) => check_D p hrl o hp lo q
     by_cases hc : (checkE p).2 = 0
     · rw [hc] at e4
       simp [IP_pt_Parse,i_pt_Parse,e1,outQ,e2,e4,avs7_closed,hs,hc]
     · simp [IP_pt_Parse,i_pt_Parse,e1,outQ,e2,e4,hs,hc]
end
end Go.Proofs.YtkofimhnehkdoaaGreatDoor.Rf
end
section
namespace Go.Proofs.YtkofimhnehkdoaaGreatDoor.Rf
section
variable {hp:List HObj} {lo:Nat}
end
end Go.Proofs.YtkofimhnehkdoaaGreatDoor.Rf
end
section
namespace Go.Proofs.YtkofimhnehkdoaaGreatDoor.Rf
end Go.Proofs.YtkofimhnehkdoaaGreatDoor.Rf
end
section
namespace Go.Proofs.YtkofimhnehkdoaaGreatDoor.Rf
section
variable {hp:List HObj} {lo:Nat}
theorem sames6_of {as:List T} (ih:∀ t,t ∈ as → ∀ (u:T) (hp:List HObj) (lo:Nat) (q:Bool),callD G0 IP n_sr06_Same [t.av,u.av] hp lo q = some (.ret (.bool (t.same u)) hp)) (bs:List T) (hl:as.length ≤ 9223372036854775807) (o1 o2:Own) (hp:List HObj) (lo:Nat) (q:Bool) :
   callD G0 IP n_sr06_SameAll [.list (T.avs as) o1,.list (T.avs bs) o2] hp lo q = some (.ret (.bool (T.sames as bs)) hp) := by
 rw [callD_eq]
 by_cases he : as.length = bs.length
 · have hloop := loop_find (G := G0) (IP := IP) (lo := hp.length) (b := l_sr06_SameAll_0)
     (fun i => ⟨[(0,.list (T.avs as) o1),(1,.list (T.avs bs) o2),(5,.int .i64 i)],hp⟩) as.length (fun i => !(as.getD i (.mk 0 0 0 [] true [])).same (bs.getD i (.mk 0 0 0 [] true [])))
     (.ret,⟨[(4,.bool false)],hp⟩) (.exit 0,⟨[(0,.list (T.avs as) o1),(1,.list (T.avs bs) o2),(5,.int .i64 as.length),(14,.bool false)],hp⟩)
     (fun i hi hp1 => by
       have hi2 : i < bs.length := by omega
       have e1 := ih as[i] (List.getElem_mem hi) bs[i] hp hp.length true
       have h2 : as[i].same bs[i] = true := by simpa [hi,hi2] using hp1
       rw [h2,T.av_eq,T.av_eq] at e1
       have hiI : (i:Int) < (as.length : Int) := by omega
       have hiI2 : (i:Int) < (bs.length : Int) := by omega
       have hw := wrap_succ hi hl
       simp [l_sr06_SameAll_0,hi,hi2,hiI,hiI2,T.av_eq as[i],T.av_eq bs[i],e1,hw])
     (fun i hi hp1 => by
       have hi2 : i < bs.length := by omega
       have e1 := ih as[i] (List.getElem_mem hi) bs[i] hp hp.length true
       have h2 : as[i].same bs[i] = false := by simpa [hi,hi2] using hp1
       rw [h2,T.av_eq,T.av_eq] at e1
       have hiI : (i:Int) < (as.length : Int) := by omega
       have hiI2 : (i:Int) < (bs.length : Int) := by omega
       simp [l_sr06_SameAll_0,hi,hi2,hiI,hiI2,T.av_eq as[i],T.av_eq bs[i],e1])
     (fun s => by simp) (by simp [l_sr06_SameAll_0]) (fun s => by simp)
   have hI : (as.length : Int) = (bs.length : Int) := by omega
   rw [T.sames_eq as bs he]
   simp only [Int.natCast_zero] at hloop
   cases hany : (List.range as.length).any fun i => !(as.getD i (.mk 0 0 0 [] true [])).same (bs.getD i (.mk 0 0 0 [] true []))
   · rw [hany] at hloop
     simp only [Bool.false_eq_true,if_false] at hloop
     simp [IP_sr06_SameAll,i_sr06_SameAll,hI,hloop]
   · rw [hany] at hloop
     simp only [if_true] at hloop
     simp [IP_sr06_SameAll,i_sr06_SameAll,hI,hloop]
 · have hI : ¬ (as.length : Int) = (bs.length : Int) := by omega
   rw [T.sames_len as bs he]
   simp [IP_sr06_SameAll,i_sr06_SameAll,hI]
set_option maxHeartbeats 1000000 in
theorem same6_D (t:T) : t.wf → ∀ (u:T) (hp:List HObj) (lo:Nat) (q:Bool),callD G0 IP n_sr06_Same [t.av,u.av] hp lo q = some (.ret (.bool (t.same u)) hp) := by
 induction t using T.ind with | h t ih =>
 intro hw u hp lo q
 rw [T.wf_eq] at hw
 have e1 := fun q => sames6_of (as := t.args) (fun x hx => ih x hx (hw.2.2.2.2.2.2 x hx)) u.args hw.2.2.2.2.1 (ownB t.o) (ownB u.o) hp hp.length q
 rw [callD_eq,T.same_eq]
 rw [T.av_eq t,T.av_eq u]
 by_cases h1 : t.op = u.op
 · by_cases h2 : t.width = u.width
   · by_cases h3 : t.val = u.val
     · by_cases h4 : t.name = u.name
       · simp [IP_sr06_Same,i_sr06_Same,h1,h2,h3,h4,e1]
       · simp [IP_sr06_Same,i_sr06_Same,h1,h2,h3,h4]
     · simp [IP_sr06_Same,i_sr06_Same,h1,h2,h3]
   · simp [IP_sr06_Same,i_sr06_Same,h1,h2]
 · simp [IP_sr06_Same,i_sr06_Same,h1]
end
end Go.Proofs.YtkofimhnehkdoaaGreatDoor.Rf
end
section
namespace Go.Proofs.YtkofimhnehkdoaaGreatDoor.Rf
def same2 {α:Type} (p:α → α → Bool) : List α → List α → Bool
 | [],[] => true
 | a :: r,b :: r' => p a b && same2 p r r'
 | _,_ => false
theorem same2_eq {α:Type} (p:α → α → Bool) (d:α) : ∀ l m : List α,l.length = m.length → ((List.range l.length).any fun i => !p (l.getD i d) (m.getD i d)) = !(same2 p l m)
 | [],[],_ => rfl
 | a :: r,b :: r',h => by
   have := same2_eq p d r r' (by simpa using h)
   rw [List.length_cons,List.range_succ_eq_map]; simp only [List.any_cons,List.any_map,Function.comp_def]; simp only [List.getD_cons_zero,List.getD_cons_succ]; rw [this,same2]; cases p a b <;> simp
theorem same2_len {α:Type} (p:α → α → Bool) : ∀ l m : List α,¬ l.length = m.length → same2 p l m = false
 | [],[],h => absurd rfl h
 | [],_ :: _,_ => rfl
 | _ :: _,[],_ => rfl
 | a :: r,b :: r',h => by rw [same2,same2_len p r r' (by simpa using h)]; simp
theorem same2_refl {α:Type} {p:α → α → Bool} : ∀ l : List α,(∀ x,x ∈ l → p x x = true) → same2 p l l = true
 | [],_ => rfl
 | a :: r,h => by rw [same2,h a (by simp),same2_refl r (fun x hx => h x (by simp [hx]))]; rfl
def eqI (a b:Int) : Bool := decide (a = b)
def Sb.same (s t:Sb) : Bool := decide (s.name = t.name) && s.t.same t.t
def St7.same (s t:St7) : Bool := decide (s.kind = t.kind) && (same2 eqI s.refs t.refs && (decide (s.rule = t.rule) && (same2 Sb.same s.subs t.subs && (s.a.same t.a && s.b.same t.b))))
section
variable {hp:List HObj} {lo:Nat}
theorem same3_D (l m:List Int) (hl:l.length ≤ 9223372036854775807) (o1 o2:Own) (hp:List HObj) (lo:Nat) (q:Bool) : callD G0 IP n_sr03_Same [.list (i64s l) o1,.list (i64s m) o2] hp lo q = some (.ret (.bool (same2 eqI l m)) hp) := by
 rw [callD_eq]
 by_cases he : l.length = m.length
 · have hloop := loop_find (G := G0) (IP := IP) (lo := hp.length) (b := l_sr03_Same_0)
     (fun i => ⟨[(0,.list (i64s l) o1),(1,.list (i64s m) o2),(5,.int .i64 i)],hp⟩) l.length (fun i => !eqI (l.getD i 0) (m.getD i 0))
     (.ret,⟨[(4,.bool false)],hp⟩) (.exit 0,⟨[(0,.list (i64s l) o1),(1,.list (i64s m) o2),(5,.int .i64 l.length),(14,.bool false)],hp⟩)
     (fun i hi hp1 => by
       have hi2 : i < m.length := by omega
       have h2 : l[i] = m[i] := by simpa [hi,hi2,eqI] using hp1
       have hiI : (i:Int) < (l.length : Int) := by omega
       have hiI2 : (i:Int) < (m.length : Int) := by omega
       have hw := wrap_succ hi hl
       simp [l_sr03_Same_0,hi,hi2,hiI,hiI2,h2,hw])
     (fun i hi hp1 => by
       have hi2 : i < m.length := by omega
       have h2 : ¬ l[i] = m[i] := by simpa [hi,hi2,eqI] using hp1
       have hiI : (i:Int) < (l.length : Int) := by omega
       have hiI2 : (i:Int) < (m.length : Int) := by omega
       simp [l_sr03_Same_0,hi,hi2,hiI,hiI2,h2])
     (fun s => by simp) (by simp [l_sr03_Same_0]) (fun s => by simp)
   rw [same2_eq eqI 0 l m he] at hloop
   have hI : (l.length : Int) = (m.length : Int) := by omega
   simp only [Int.natCast_zero] at hloop
   cases hs : same2 eqI l m
   · rw [hs] at hloop
     simp only [Bool.not_false,if_true] at hloop
     simp [IP_sr03_Same,i_sr03_Same,hI,hloop]
   · rw [hs] at hloop
     simp only [Bool.not_true,Bool.false_eq_true,if_false] at hloop
     simp [IP_sr03_Same,i_sr03_Same,hI,hloop]
 · have hI : ¬ (l.length : Int) = (m.length : Int) := by omega
   rw [same2_len eqI l m he]
   simp [IP_sr03_Same,i_sr03_Same,hI]
theorem subs34_D (l m:List Sb) (hl:l.length ≤ 9223372036854775807) (hw:∀ s,s ∈ l → s.t.wf) (o1 o2:Own) (hp:List HObj) (lo:Nat) (q:Bool) : callD G0 IP n_sr34_subs [.list (sbs l) o1,.list (sbs m) o2] hp lo q = some (.ret (.bool (same2 Sb.same l m)) hp) := by
 rw [callD_eq]
 by_cases he : l.length = m.length
 · have hloop := loop_find (G := G0) (IP := IP) (lo := hp.length) (b := l_sr34_subs_0)
     (fun i => ⟨[(0,.list (sbs l) o1),(1,.list (sbs m) o2),(5,.int .i64 i)],hp⟩) l.length (fun i => !Sb.same (l.getD i ⟨[],T.z⟩) (m.getD i ⟨[],T.z⟩))
     (.ret,⟨[(4,.bool false)],hp⟩) (.exit 0,⟨[(0,.list (sbs l) o1),(1,.list (sbs m) o2),(5,.int .i64 l.length),(14,.bool false)],hp⟩)
     (fun i hi hp1 => by
       have hi2 : i < m.length := by omega
       have h2 : Sb.same l[i] m[i] = true := by simpa [hi,hi2] using hp1
       simp only [Sb.same,Bool.and_eq_true,decide_eq_true_eq] at h2
       have e1 := fun (hp:List HObj) (lo:Nat) (q:Bool) => same6_D l[i].t (hw _ (List.getElem_mem hi)) m[i].t hp lo q
       rw [h2.2] at e1
       rw [T.av_eq,T.av_eq] at e1
       have hiI : (i:Int) < (l.length : Int) := by omega
       have hiI2 : (i:Int) < (m.length : Int) := by omega
       have hw := wrap_succ hi hl
       simp [l_sr34_subs_0,hi,hi2,hiI,hiI2,Sb.av_eq l[i],Sb.av_eq m[i],h2.1,e1,hw])
     (fun i hi hp1 => by
       have hi2 : i < m.length := by omega
       have h2 : Sb.same l[i] m[i] = false := by simpa [hi,hi2] using hp1
       simp only [Sb.same,Bool.and_eq_false_iff,decide_eq_false_iff_not] at h2
       have e1 := fun (hp:List HObj) (lo:Nat) (q:Bool) => same6_D l[i].t (hw _ (List.getElem_mem hi)) m[i].t hp lo q
       rw [T.av_eq,T.av_eq] at e1
       have hiI : (i:Int) < (l.length : Int) := by omega
       have hiI2 : (i:Int) < (m.length : Int) := by omega
       by_cases h3 : l[i].name = m[i].name
       · have h4 : l[i].t.same m[i].t = false := by
           rcases h2 with h2 | h2
           · exact absurd h3 h2
           · exact h2
         rw [h4] at e1
         simp [l_sr34_subs_0,hi,hi2,hiI,hiI2,Sb.av_eq l[i],Sb.av_eq m[i],h3,e1]
       · simp [l_sr34_subs_0,hi,hi2,hiI,hiI2,Sb.av_eq l[i],Sb.av_eq m[i],h3])
     (fun s => by simp) (by simp [l_sr34_subs_0]) (fun s => by simp)
   rw [same2_eq Sb.same ⟨[],T.z⟩ l m he] at hloop
   have hI : (l.length : Int) = (m.length : Int) := by omega
   simp only [Int.natCast_zero] at hloop
   cases hs : same2 Sb.same l m
   · rw [hs] at hloop
     simp only [Bool.not_false,if_true] at hloop
     simp [IP_sr34_subs,i_sr34_subs,hI,hloop]
   · rw [hs] at hloop
     simp only [Bool.not_true,Bool.false_eq_true,if_false] at hloop
     simp [IP_sr34_subs,i_sr34_subs,hI,hloop]
 · have hI : ¬ (l.length : Int) = (m.length : Int) := by omega
   rw [same2_len Sb.same l m he]
   simp [IP_sr34_subs,i_sr34_subs,hI]
set_option maxHeartbeats 4000000 in
set_option maxRecDepth 8192 in
theorem same34_D (l m : List St7) (hl:l.length ≤ 9223372036854775807) (hw:∀ s,s ∈ l → s.wf) (o1 o2:Own) (hp:List HObj) (lo:Nat) (q:Bool) : callD G0 IP n_sr34_Same [.list (St7.avs l) o1,.list (St7.avs m) o2] hp lo q = some (.ret (.bool (same2 St7.same l m)) hp) := by
 rw [callD_eq]
 by_cases he : l.length = m.length
 · have hE : ∀ i (hi:i < l.length) (hi2:i < m.length),(∀ (o1 o2:Own) (hp:List HObj) (lo:Nat) (q:Bool),callD G0 IP n_sr03_Same [.list (i64s l[i].refs) o1,.list (i64s m[i].refs) o2] hp lo q = some (.ret (.bool (same2 eqI l[i].refs m[i].refs)) hp)) ∧
       (∀ (o1 o2:Own) (hp:List HObj) (lo:Nat) (q:Bool),callD G0 IP n_sr34_subs [.list (sbs l[i].subs) o1,.list (sbs m[i].subs) o2] hp lo q = some (.ret (.bool (same2 Sb.same l[i].subs m[i].subs)) hp)) ∧
       (∀ (hp:List HObj) (lo:Nat) (q:Bool),callD G0 IP n_sr06_Same [l[i].a.av,m[i].a.av] hp lo q = some (.ret (.bool (l[i].a.same m[i].a)) hp)) ∧
       (∀ (hp:List HObj) (lo:Nat) (q:Bool),callD G0 IP n_sr06_Same [l[i].b.av,m[i].b.av] hp lo q = some (.ret (.bool (l[i].b.same m[i].b)) hp)) := by
     intro i hi hi2
     obtain ⟨w1,w2,w3,w4,w5,w6,w7,w8⟩ := hw _ (List.getElem_mem hi)
     exact ⟨same3_D _ _ w3,subs34_D _ _ w6 (fun s hs => (w5 s hs).2),same6_D _ w7 _,same6_D _ w8 _⟩
   have hloop := loop_find (G := G0) (IP := IP) (lo := hp.length) (b := l_sr34_Same_0)
     (fun i => ⟨[(0,.list (St7.avs l) o1),(1,.list (St7.avs m) o2),(5,.int .i64 i)],hp⟩) l.length (fun i => !St7.same (l.getD i St7.z) (m.getD i St7.z))
     (.ret,⟨[(4,.bool false)],hp⟩) (.exit 0,⟨[(0,.list (St7.avs l) o1),(1,.list (St7.avs m) o2),(5,.int .i64 l.length),(16,.bool false)],hp⟩)
     (fun i hi hp1 => by
       have hi2 : i < m.length := by omega
       have h2 : St7.same l[i] m[i] = true := by simpa [hi,hi2] using hp1
       simp only [St7.same,Bool.and_eq_true,decide_eq_true_eq] at h2
       obtain ⟨c1,c2,c3,c4,c5,c6⟩ := h2
       obtain ⟨e1,e2,e3,e4⟩ := hE i hi hi2
       rw [c2] at e1
       rw [c4] at e2
       rw [c5,T.av_eq,T.av_eq] at e3
       rw [c6,T.av_eq,T.av_eq] at e4
       have hiI : (i:Int) < (l.length : Int) := by omega
       have hiI2 : (i:Int) < (m.length : Int) := by omega
       have hw := wrap_succ hi hl
       simp [l_sr34_Same_0,hi,hi2,hiI,hiI2,st_av,c1,c3,e1,e2,e3,e4,hw])
     (fun i hi hp1 => by
       have hi2 : i < m.length := by omega
       have h2 : St7.same l[i] m[i] = false := by simpa [hi,hi2] using hp1
       unfold St7.same at h2
       obtain ⟨e1,e2,e3,e4⟩ := hE i hi hi2
       rw [T.av_eq,T.av_eq] at e3
       rw [T.av_eq,T.av_eq] at e4
       have hiI : (i:Int) < (l.length : Int) := by omega
       have hiI2 : (i:Int) < (m.length : Int) := by omega
       by_cases c1 : l[i].kind = m[i].kind
       · cases c2 : same2 eqI l[i].refs m[i].refs with
         | false => rw [c2] at e1; simp [l_sr34_Same_0,hi,hi2,hiI,hiI2,st_av,c1,e1]
         | true =>
           rw [c2] at e1
           by_cases c3 : l[i].rule = m[i].rule
           · cases c4 : same2 Sb.same l[i].subs m[i].subs with
             | false => rw [c4] at e2; simp [l_sr34_Same_0,hi,hi2,hiI,hiI2,st_av,c1,c3,e1,e2]
             | true =>
               rw [c4] at e2
               cases c5 : l[i].a.same m[i].a with
               | false => rw [c5] at e3; simp [l_sr34_Same_0,hi,hi2,hiI,hiI2,st_av,c1,c3,e1,e2,e3]
               | true =>
                 rw [c5] at e3
                 have c6 : l[i].b.same m[i].b = false := by simpa [c1,c2,c3,c4,c5] using h2
                 rw [c6] at e4
                 simp [l_sr34_Same_0,hi,hi2,hiI,hiI2,st_av,c1,c3,e1,e2,e3,e4]
           · simp [l_sr34_Same_0,hi,hi2,hiI,hiI2,st_av,c1,c3,e1]
       · simp [l_sr34_Same_0,hi,hi2,hiI,hiI2,st_av,c1])
     (fun s => by simp) (by simp [l_sr34_Same_0]) (fun s => by simp)
   rw [same2_eq St7.same St7.z l m he] at hloop
   have hI : (l.length : Int) = (m.length : Int) := by omega
   simp only [Int.natCast_zero] at hloop
   cases hs : same2 St7.same l m
   · rw [hs] at hloop
     simp only [Bool.not_false,if_true] at hloop
     simp [IP_sr34_Same,i_sr34_Same,hI,hloop]
   · rw [hs] at hloop
     simp only [Bool.not_true,Bool.false_eq_true,if_false] at hloop
     simp [IP_sr34_Same,i_sr34_Same,hI,hloop]
 · have hI : ¬ (l.length : Int) = (m.length : Int) := by omega
   rw [same2_len St7.same l m he]
   simp [IP_sr34_Same,i_sr34_Same,hI]
end
end Go.Proofs.YtkofimhnehkdoaaGreatDoor.Rf
end
section
namespace Go.Proofs.YtkofimhnehkdoaaGreatDoor.Rf
set_option maxRecDepth 100000 in
theorem live36_ok : (run G0 IP 100).1 n_sl36_live [] [] 0 false = some (.ret (.bool true) []) := by kernel_rfl
end Go.Proofs.YtkofimhnehkdoaaGreatDoor.Rf
end
section
namespace Go.Proofs.YtkofimhnehkdoaaGreatDoor.Rf
theorem z_wf : T.z.wf := by simp [T.z,T.wf,T.wfs,Lit.wf]; decide
mutual
theorem T.same_refl : ∀ t : T,t.same t = true
 | .mk _ _ _ _ _ as => by simp [T.same,T.sames_refl as]
theorem T.sames_refl : ∀ as : List T,T.sames as as = true
 | [] => rfl
 | t :: r => by simp [T.sames,T.same_refl t,T.sames_refl r]
end
theorem i64_wf2 {n:Int} (h0:-9223372036854775808 ≤ n) (h1:n ≤ 9223372036854775807) : (Lit.int .i64 n).wf = true := by
 simp [Lit.wf,IntKind.min,IntKind.max,IntKind.signed,IntKind.bits]; omega
theorem intE_bd (s:List UInt8) : -9223372036854775808 ≤ (intE s).1 ∧ (intE s).1 ≤ 9223372036854775807 := by
 unfold intE
 split
 · split
   · simp
   · split
     · simp
     · simp only; omega
 · split
   · simp
   · split
     · simp
     · simp only; omega
theorem refsS_wf : ∀ (l:List S) (r:List Int),refsS l = some r → ∀ x,x ∈ r → (Lit.int .i64 x).wf = true
 | [],r,h => by simp [refsS] at h; subst h; simp
 | x :: l,r,h => by
   rw [refsS] at h
   split at h
   · split at h
     · rename_i r' hr
       cases h
       intro y hy
       rcases List.mem_cons.1 hy with rfl | hy
       · exact i64_wf2 (intE_bd _).1 (intE_bd _).2
       · exact refsS_wf l r' hr y hy
     · cases h
   · cases h
theorem subsS_wf : ∀ (l:List S) (r:List Sb),(∀ x,x ∈ l → x.fit) → subsS l = .ok r → r.length = l.length ∧ ∀ x,x ∈ r → x.wf
 | [],r,_,h => by simp [subsS] at h; subst h; simp
 | x :: l, r,hx,h => by
   rw [subsS] at h
   split at h
   · cases h
   · rename_i t ht
     split at h
     · cases h
     · rename_i r' hr
       cases h
       obtain ⟨h1,h2⟩ := subsS_wf l r' (fun y hy => hx y (by simp [hy])) hr
       refine ⟨by simp [h1],fun y hy => ?_⟩
       rcases List.mem_cons.1 hy with rfl | hy
       · refine ⟨?_,(readS_valid _ _ ht).2⟩
         have hf := (S.fit_eq x).1 (hx x (by simp))
         have : (x.list.getD 0 zS).fit := by
           rw [List.getD_eq_getElem?_getD]
           cases hg : x.list[0]? with
           | none => simp [S.fit,S.fits]
           | some u => exact hf.2.2.2 u (List.mem_of_getElem? hg)
         have := (S.fit_eq _).1 this
         simp only; omega
       · exact h2 y hy
theorem getD_fit {e:S} (he:e.fit) (i:Nat) : (e.list.getD i zS).fit := by
 have hf := (S.fit_eq e).1 he
 rw [List.getD_eq_getElem?_getD]
 cases hg : e.list[i]? with
 | none => simp [S.fit,S.fits]
 | some u => exact hf.2.2.2 u (List.mem_of_getElem? hg)
theorem shapeS_wf {e:S} (he:e.fit) : (shapeS e).wf := by
 have hk := kindOf_bd (e.list.getD 0 zS).atom
 refine ⟨i64_wf2 (by show _ ≤ kindOf _; omega) (by show kindOf _ ≤ _; omega),?_,by have := shapeS_len e he; omega,?_,by simp [shapeS],by simp [shapeS],z_wf,z_wf⟩
 · show ∀ x,x ∈ (refsE (e.list.getD 1 zS)).getD [] → _
   unfold refsE
   split
   · simp
   · cases hr : refsS (e.list.getD 1 zS).list with
     | none => simp
     | some r => exact refsS_wf _ r hr
 · show (Lit.int .i64 (if lineK e.list = 5 ∨ lineK e.list = 12 then (intE (e.list.getD 2 zS).atom).1 else 0)).wf = true
   split
   · exact i64_wf2 (intE_bd _).1 (intE_bd _).2
   · decide
theorem stepR_wf {e:S} (he:e.fit) {s:St7} (h:stepR e = .ok s) : s.wf := by
 obtain ⟨w1,w2,w3,w4,w5,w6,w7,w8⟩ := shapeS_wf he
 unfold stepR at h
 split at h
 · cases h
 · split at h
   · split at h
     · cases h
     · rename_i sb hsb
       cases h
       have hf := (S.fit_eq _).1 (getD_fit he 3)
       obtain ⟨g1,g2⟩ := subsS_wf _ _ hf.2.2.2 hsb
       exact ⟨w1,w2,w3,w4,g2,by simp only; omega,z_wf,z_wf⟩
   · split at h
     · split at h
       · cases h
       · rename_i t ht
         cases h
         exact ⟨w1,w2,w3,w4,by simp,by simp,(readS_valid _ _ ht).2,z_wf⟩
     · split at h
       · split at h
         · cases h
         · rename_i t ht
           split at h
           · cases h
           · rename_i u hu
             cases h
             exact ⟨w1,w2,w3,w4,by simp,by simp,(readS_valid _ _ ht).2,(readS_valid _ _ hu).2⟩
       · cases h
         exact ⟨w1,w2,w3,w4,w5,w6,w7,w8⟩
theorem proofR_wf {s:List UInt8} {p:List St7} (h:proofR s = .ok p) : p.length ≤ 65536 ∧ ∀ x,x ∈ p → x.wf := by
 unfold proofR at h
 split at h
 · cases h
 · rename_i l st hx
   have hfit := pAll_fit hx
   have hlen : l.length ≤ 65536 := (pAll_wf hx).2
   split at h
   · cases h
   · rename_i p' hp
     split at h
     · cases h
       refine ⟨by rw [stepsR_len _ _ _ hp]; exact hlen,fun x hx => ?_⟩
       obtain ⟨e,he,h2⟩ := stepsR_mem l 0 p hp x hx
       exact stepR_wf (hfit e he) h2
     · cases h
theorem St7.same_refl (s:St7) : s.same s = true := by
 have h1 : same2 eqI s.refs s.refs = true := same2_refl _ fun x _ => by simp [eqI]
 have h2 : same2 Sb.same s.subs s.subs = true := same2_refl _ fun x _ => by simp [Sb.same,T.same_refl]
 simp only [St7.same,h1,h2,T.same_refl,decide_true,Bool.and_self]
theorem live36_D : callD G0 IP n_sl36_live [] [] 0 false = some (.ret (.bool true) []) := callD_iff.2 ⟨100,live36_ok⟩
theorem prooftextParses_D (s:List UInt8) (q:Bool) : callD G0 IP n_sl36_ProoftextParses [.str s] [] 0 q = some (.ret (.bool true) []) := by
 rw [callD_eq]
 by_cases h : 2000 < (s.length : Int) ∧ (s.length : Int) ≤ 65536
 · simp [IP_sl36_ProoftextParses,i_sl36_ProoftextParses,h.1,h.2,live36_D]
 · have e1 := parseP_D s [] 0 false
   have e2 := parse36_D s [] 0 false
   have e3 : ∃ a b c o,outQ ownSt (proofR s) = .tup [.list (St7.avs a) (ownSt a),.int .i64 b,.int .i64 c] ∧ o = ownSt a ∧ a.length ≤ 65536 ∧ (∀ x,x ∈ a → x.wf) := by
     cases hp : proofR s with
     | err i c => exact ⟨[],i,c,.nil,rfl,rfl,by simp,by simp⟩
     | ok p => obtain ⟨h1,h2⟩ := proofR_wf hp; exact ⟨p,0,0,ownSt p,rfl,rfl,h1,h2⟩
   obtain ⟨a,b,c,o,h1,h2,h3,h4⟩ := e3
   rw [h1] at e1 e2
   have e4 := fun (o1 o2:Own) => same34_D a a (by omega) h4 o1 o2 [] 0 false
   rw [same2_refl a fun x _ => St7.same_refl x] at e4
   by_cases h5 : 2000 < (s.length : Int)
   · have h6 : ¬ (s.length : Int) ≤ 65536 := fun h6 => h ⟨h5,h6⟩
     simp [IP_sl36_ProoftextParses,i_sl36_ProoftextParses,h5,h6,live36_D,e1,e2,e4]
   · simp [IP_sl36_ProoftextParses,i_sl36_ProoftextParses,h5,live36_D,e1,e2,e4]
end Go.Proofs.YtkofimhnehkdoaaGreatDoor.Rf
end
