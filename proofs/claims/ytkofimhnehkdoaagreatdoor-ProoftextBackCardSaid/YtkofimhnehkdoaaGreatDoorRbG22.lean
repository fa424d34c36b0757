/- A part of the proof: see the last text. -/
import Derived.Test.YtkofimhnehkdoaaGreatDoorRbG19
import Derived.Test.YtkofimhnehkdoaaGreatDoorRbG21
import Derived.Test.YtkofimhnehkdoaaGreatDoorRbG16
import Derived.Test.YtkofimhnehkdoaaGreatDoorRbG17
import Derived.Test.YtkofimhnehkdoaaGreatDoorRbG20
set_option linter.unusedVariables false
set_option linter.unusedSimpArgs false
section
namespace Go.Proofs.YtkofimhnehkdoaaGreatDoor.Rf
mutual
def T.cnt : T → Int → Int → Int
 | .mk _ _ _ _ _ as,d,n => if d < 1 ∨ n < 1 then -1 else T.cnts as (d - 1) (n - 1)
def T.cnts : List T → Int → Int → Int
 | [],_,n => n
 | t :: r,d,n => if 0 ≤ n then T.cnts r d (t.cnt d n) else n
end
theorem T.cnt_eq (t:T) (d n:Int) : t.cnt d n = if d < 1 ∨ n < 1 then -1 else T.cnts t.args (d - 1) (n - 1) := by cases t; rfl
theorem T.cnts_neg : ∀ (l:List T) (d n:Int),n < 0 → T.cnts l d n = n
 | [],d,n,_ => rfl
 | t :: r,d,n,h => by simp only [T.cnts]; rw [if_neg (by omega)]
theorem T.cnt_le (t:T) : ∀ d n : Int,0 ≤ n → -1 ≤ t.cnt d n ∧ t.cnt d n ≤ n := by
 induction t using T.ind with | h t ih =>
 have hl : ∀ (l:List T),(∀ u,u ∈ l → ∀ d n : Int,0 ≤ n → -1 ≤ u.cnt d n ∧ u.cnt d n ≤ n) → ∀ d n : Int,-1 ≤ n → -1 ≤ T.cnts l d n ∧ T.cnts l d n ≤ n := by
   intro l
   induction l with
   | nil => intro _ d n h; simp only [T.cnts]; omega
   | cons x r ihr =>
     intro h d n hn
     simp only [T.cnts]
     split
     · rename_i h0
       have h1 := h x (by simp) d n h0
       have h2 := ihr (fun u hu => h u (by simp [hu])) d (x.cnt d n) h1.1
       omega
     · omega
 intro d n hn
 rw [T.cnt_eq]
 split
 · omega
 · have := hl t.args ih (d - 1) (n - 1) (by omega); omega
theorem T.cnt_ge (t:T) : ∀ d n : Int,0 ≤ t.cnt d n → t.cnt d n = n - t.size := by
 induction t using T.ind with | h t ih =>
 have hl : ∀ (l:List T),(∀ u,u ∈ l → ∀ d n : Int,0 ≤ u.cnt d n → u.cnt d n = n - u.size) → ∀ d n : Int,0 ≤ T.cnts l d n → T.cnts l d n = n - T.sizes l := by
   intro l
   induction l with
   | nil => intro _ d n _; simp [T.cnts,T.sizes]
   | cons x r ihr =>
     intro h d n hn
     simp only [T.cnts] at hn ⊢
     split
     · rename_i h0
       rw [if_pos h0] at hn
       by_cases hx : 0 ≤ x.cnt d n
       · rw [ihr (fun u hu => h u (by simp [hu])) _ _ hn,h x (by simp) d n hx]; simp only [T.sizes]; omega
       · rw [T.cnts_neg r _ _ (by omega)] at hn; exact absurd hn hx
     · rename_i h0; rw [if_neg h0] at hn; exact absurd hn h0
 intro d n hn
 rw [T.cnt_eq] at hn ⊢
 split at hn
 · omega
 · rename_i h; rw [if_neg h,hl t.args ih _ _ hn,T.size_eq]; omega
end Go.Proofs.YtkofimhnehkdoaaGreatDoor.Rf
end
section
namespace Go.Proofs.YtkofimhnehkdoaaGreatDoor.Rf
section
variable {hp:List HObj} {lo:Nat}
theorem sames6_of {as:List T} (ih:∀ t,t ∈ as → ∀ (u:T) (hp:List HObj) (lo:Nat) (q:Bool),callD G0 IP n_sr06_Same [t.av,u.av] hp lo q = some (.ret (.bool (t.same u)) hp)) (bs:List T) (hl:as.length ≤ 9223372036854775807) (o1 o2:Own) (hp:List HObj) (lo:Nat) (q:Bool) :
   callD G0 IP n_sr06_SameAll [.list (T.avs as) o1,.list (T.avs bs) o2] hp lo q = some (.ret (.bool (T.sames as bs)) hp) := by
 rw [callD_eq]
 by_cases he : as.length = bs.length
 · have hloop := loop_find (G := G0) (IP := IP) (lo := hp.length) (b := l_sr06_SameAll_0)
     (fun i => ⟨[(0,.list (T.avs as) o1),(1,.list (T.avs bs) o2),(5,.int .i64 i)],hp⟩) as.length (fun i => !(as.getD i (.mk 0 0 0 [] true [])).same (bs.getD i (.mk 0 0 0 [] true [])))
     (.ret,⟨[(4,.bool false)],hp⟩) (.exit 0,⟨[(0,.list (T.avs as) o1),(1,.list (T.avs bs) o2),(5,.int .i64 as.length),(14,.bool false)],hp⟩)
     (fun i hi hp1 => by
       have hi2 : i < bs.length := by omega
       have e1 := ih as[i] (List.getElem_mem hi) bs[i] hp hp.length true
       have h2 : as[i].same bs[i] = true := by simpa [hi,hi2] using hp1
       rw [h2,T.av_eq,T.av_eq] at e1
       have hiI : (i:Int) < (as.length : Int) := by omega
       have hiI2 : (i:Int) < (bs.length : Int) := by omega
       have hw := wrap_succ hi hl
       simp [l_sr06_SameAll_0,hi,hi2,hiI,hiI2,T.av_eq as[i],T.av_eq bs[i],e1,hw])
     (fun i hi hp1 => by
       have hi2 : i < bs.length := by omega
       have e1 := ih as[i] (List.getElem_mem hi) bs[i] hp hp.length true
       have h2 : as[i].same bs[i] = false := by simpa [hi,hi2] using hp1
       rw [h2,T.av_eq,T.av_eq] at e1
       have hiI : (i:Int) < (as.length : Int) := by omega
       have hiI2 : (i:Int) < (bs.length : Int) := by omega
       simp [l_sr06_SameAll_0,hi,hi2,hiI,hiI2,T.av_eq as[i],T.av_eq bs[i],e1])
     (fun s => by simp) (by simp [l_sr06_SameAll_0]) (fun s => by simp)
   have hI : (as.length : Int) = (bs.length : Int) := by omega
   rw [T.sames_eq as bs he]
   simp only [Int.natCast_zero] at hloop
   cases hany : (List.range as.length).any fun i => !(as.getD i (.mk 0 0 0 [] true [])).same (bs.getD i (.mk 0 0 0 [] true []))
   · rw [hany] at hloop
     simp only [Bool.false_eq_true,if_false] at hloop
     simp [IP_sr06_SameAll,i_sr06_SameAll,hI,hloop]
   · rw [hany] at hloop
     simp only [if_true] at hloop
     simp [IP_sr06_SameAll,i_sr06_SameAll,hI,hloop]
 · have hI : ¬ (as.length : Int) = (bs.length : Int) := by omega
   rw [T.sames_len as bs he]
   simp [IP_sr06_SameAll,i_sr06_SameAll,hI]
set_option maxHeartbeats 1000000 in
theorem same6_D (t:T) : t.wf → ∀ (u:T) (hp:List HObj) (lo:Nat) (q:Bool),callD G0 IP n_sr06_Same [t.av,u.av] hp lo q = some (.ret (.bool (t.same u)) hp) := by
 induction t using T.ind with | h t ih =>
 intro hw u hp lo q
 rw [T.wf_eq] at hw
 have e1 := fun q => sames6_of (as := t.args) (fun x hx => ih x hx (hw.2.2.2.2.2.2 x hx)) u.args hw.2.2.2.2.1 (ownB t.o) (ownB u.o) hp hp.length q
 rw [callD_eq,T.same_eq]
 rw [T.av_eq t,T.av_eq u]
 by_cases h1 : t.op = u.op
 · by_cases h2 : t.width = u.width
   · by_cases h3 : t.val = u.val
     · by_cases h4 : t.name = u.name
       · simp [IP_sr06_Same,i_sr06_Same,h1,h2,h3,h4,e1]
       · simp [IP_sr06_Same,i_sr06_Same,h1,h2,h3,h4]
     · simp [IP_sr06_Same,i_sr06_Same,h1,h2,h3]
   · simp [IP_sr06_Same,i_sr06_Same,h1,h2]
 · simp [IP_sr06_Same,i_sr06_Same,h1]
theorem count_D (t:T) : t.wf → ∀ (d n:Int),-1000 ≤ d → d ≤ 1000 → 0 ≤ n → n ≤ 10000 → ∀ (hp:List HObj) (lo:Nat) (q:Bool),callD G0 IP n_sr06_count [t.av,.int .i64 d,.int .i64 n] hp lo q = some (.ret (.int .i64 (t.cnt d n)) hp) := by
 induction t using T.ind with | h t ih =>
 intro hw d n hd0 hd1 h0 h1 hp lo q
 rw [T.wf_eq] at hw
 obtain ⟨_,_,_,_,hl,_,hws⟩ := hw
 have hloop : ∀ (k i:Nat) (n:Int),i + k = t.args.length → -1 ≤ n → n ≤ 10000 → 1 ≤ d → ∃ j : Int,loopD G0 IP hp.length l_sr06_count_0 ⟨[(1,.int .i64 d),(2,.int .i64 n),(3,.box t.cells),(7,.int .i64 i)],hp⟩ =
     some (.exit 0,⟨[(1,.int .i64 d),(2,.int .i64 (T.cnts (t.args.drop i) (d - 1) n)),(3,.box t.cells),(7,.int .i64 j),(24,.bool false)],hp⟩) := by
   intro k
   induction k with
   | zero =>
     intro i n hi _ _ _
     have hI : ¬ (i:Int) < (t.args.length : Int) := by omega
     refine ⟨i,?_⟩
     rw [loopD_eq,loopBody,List.drop_eq_nil_of_le (by omega)]
     simp [l_sr06_count_0,hI,T.cnts]
   | succ k ihk =>
     intro i n hi hn0 hn hd
     have hlt : i < t.args.length := by omega
     have hI : (i:Int) < (t.args.length : Int) := by omega
     rw [List.drop_eq_getElem_cons hlt]
     simp only [T.cnts]
     by_cases hneg : 0 ≤ n
     · have e1 := ih t.args[i] (List.getElem_mem hlt) (hws _ (List.getElem_mem hlt)) (d - 1) n (by omega) (by omega) hneg hn hp hp.length false
       have hle := T.cnt_le t.args[i] (d - 1) n hneg
       obtain ⟨j,e2⟩ := ihk (i + 1) (t.args[i].cnt (d - 1) n) (by omega) hle.1 (by omega) hd
       have hw1 := wrap_succ hlt hl
       have hw2 : IntKind.wrap .i64 (d - 1) = d - 1 := wrap_small (by omega) (by omega)
       rw [T.av_eq] at e1
       refine ⟨j,?_⟩
       rw [loopD_eq,loopBody,if_pos hneg]
       simp [l_sr06_count_0,hI,hlt,hneg,T.av_eq t.args[i],hw2,e1,hw1]
       exact e2
     · refine ⟨i,?_⟩
       rw [loopD_eq,loopBody,if_neg hneg]
       simp [l_sr06_count_0,hI,hlt,hneg]
 rw [callD_eq,T.cnt_eq,T.av_eq]
 by_cases hd : d < 1
 · simp [IP_sr06_count,i_sr06_count,hd]
 · by_cases hn : n < 1
   · simp [IP_sr06_count,i_sr06_count,hd,hn]
   · obtain ⟨j,e2⟩ := hloop t.args.length 0 (n - 1) (by omega) (by omega) (by omega) (by omega)
     have hw2 : IntKind.wrap .i64 (n - 1) = n - 1 := wrap_small (by omega) (by omega)
     simp at e2
     simp [IP_sr06_count,i_sr06_count,hd,hn,hw2,e2]
theorem light_D (t:T) (hw:t.wf) (d n:Int) (hd0:-1000 ≤ d) (hd1:d ≤ 1000) (h0:0 ≤ n) (h1:n ≤ 10000) (hp:List HObj) (lo:Nat) (q:Bool) : ∃ v : T,callD G0 IP n_sr06_Light [t.av,.int .i64 d,.int .i64 n] hp lo q = some (.ret (.tup [v.av,.bool (decide (0 ≤ t.cnt d n))]) hp) := by
 have e1 := count_D t hw d n hd0 hd1 h0 h1
 rw [callD_eq]
 rw [T.av_eq] at e1 ⊢
 by_cases h : 0 ≤ t.cnt d n
 · have h' : ¬ t.cnt d n < 0 := by omega
   exact ⟨t,by simp [IP_sr06_Light,i_sr06_Light,e1,h,h',T.av_eq,T.avs_closed]⟩
 · have h' : t.cnt d n < 0 := by omega
   exact ⟨.mk 0 0 0 [] true [],by simp [IP_sr06_Light,i_sr06_Light,e1,h,h']; rfl⟩
end
end Go.Proofs.YtkofimhnehkdoaaGreatDoor.Rf
end
section
namespace Go.Proofs.YtkofimhnehkdoaaGreatDoor.Rf
structure Sb where
 name : List UInt8
 t : T
structure St7 where
 kind : Int
 ro : Bool
 refs : List Int
 rule : Int
 so : Bool
 subs : List Sb
 a : T
 b : T
abbrev Sb.cells (s:Sb) : List AV := .str s.name :: s.t.cells
def Sb.av (s:Sb) : AV := .agg s.cells
theorem Sb.av_eq (s:Sb) : s.av = .agg [.str s.name,.int .i64 s.t.op,.int .i64 s.t.width,.int .u64 s.t.val,.str s.t.name,.list (T.avs s.t.args) (ownB s.t.o)] := rfl
def sbs (l:List Sb) : List AV := l.map Sb.av
def i64s (l:List Int) : List AV := l.map (AV.int .i64)
@[simp] theorem sbs_len (l:List Sb) : (sbs l).length = l.length := by simp [sbs]
@[simp] theorem i64s_len (l:List Int) : (i64s l).length = l.length := by simp [i64s]
@[simp] theorem sbs_getElem {l:List Sb} {i:Nat} (h:i < (sbs l).length) : (sbs l)[i] = (l[i]'(by simpa using h)).av := by simp [sbs]
@[simp] theorem i64s_getElem {l:List Int} {i:Nat} (h:i < (i64s l).length) : (i64s l)[i] = .int .i64 (l[i]'(by simpa using h)) := by simp [i64s]
abbrev St7.cells (s:St7) : List AV := [.int .i64 s.kind,.list (i64s s.refs) (ownB s.ro),.int .i64 s.rule,.list (sbs s.subs) (ownB s.so),
 .int .i64 s.a.op,.int .i64 s.a.width,.int .u64 s.a.val,.str s.a.name,.list (T.avs s.a.args) (ownB s.a.o),
 .int .i64 s.b.op,.int .i64 s.b.width,.int .u64 s.b.val,.str s.b.name,.list (T.avs s.b.args) (ownB s.b.o)]
def St7.av (s:St7) : AV := .agg s.cells
def St7.avs (l:List St7) : List AV := l.map St7.av
@[simp] theorem St7.avs_len (l:List St7) : (St7.avs l).length = l.length := by simp [St7.avs]
@[simp] theorem St7.avs_getElem {l:List St7} {i:Nat} (h:i < (St7.avs l).length) : (St7.avs l)[i] = (l[i]'(by simpa using h)).av := by simp [St7.avs]
def Sb.wf (s:Sb) : Prop := s.name.length ≤ 9223372036854775807 ∧ s.t.wf
def St7.wf (s:St7) : Prop := (Lit.int .i64 s.kind).wf = true ∧ (∀ x,x ∈ s.refs → (Lit.int .i64 x).wf = true) ∧ s.refs.length ≤ 9223372036854775807 ∧ (Lit.int .i64 s.rule).wf = true ∧ (∀ x,x ∈ s.subs → x.wf) ∧ s.subs.length ≤ 9223372036854775807 ∧ s.a.wf ∧ s.b.wf
section
variable {H:Type} {P:Program}
theorem HasTy.two {n:Nat} {t a b:TypeId} {fs:Array Field} {cs:List AV} {d:DataW H} (hu:P.underlying t = some (.struct fs)) (hf:fs.toList.map Field.type = [a,b]) (h:HasTy P n t cs d) :
   ∃ p q : List AV,cs = p ++ q ∧ (∃ m,∃ d' : DataW H,m < n ∧ HasTy P m a p d') ∧ (∃ m,∃ d' : DataW H,m < n ∧ HasTy P m b q d') := by
 obtain ⟨parts,rfl,hl,hp⟩ := h.fields hu
 have hsz : fs.size = 2 := by have := congrArg List.length hf; simpa using this
 rw [hsz] at hl
 match parts,hl with
 | [p0,p1],_ =>
   have g : ∀ (i:Nat) ds x,[p0,p1][i]? = some ds → [a,b][i]? = some x → ∃ m,∃ d' : DataW H,m < n ∧ HasTy P m x ds d' := by
     intro i ds x h1 h2
     rw [← hf] at h2
     simp only [List.getElem?_map,Array.getElem?_toList,Option.map_eq_some_iff] at h2
     obtain ⟨f,f1,f2⟩ := h2
     obtain ⟨m,d',m1,m2⟩ := hp i f ds f1 h1
     exact ⟨m,d',m1,f2 ▸ m2⟩
   exact ⟨p0,p1,by simp,g 0 _ _ rfl rfl,g 1 _ _ rfl rfl⟩
theorem HasTy.six {n:Nat} {t a b c e f g:TypeId} {fs:Array Field} {cs:List AV} {d:DataW H} (hu:P.underlying t = some (.struct fs)) (hf:fs.toList.map Field.type = [a,b,c,e,f,g]) (h:HasTy P n t cs d) :
   ∃ p0 p1 p2 p3 p4 p5 : List AV,cs = p0 ++ (p1 ++ (p2 ++ (p3 ++ (p4 ++ p5)))) ∧ (∃ m,∃ d' : DataW H,m < n ∧ HasTy P m a p0 d') ∧ (∃ m,∃ d' : DataW H,m < n ∧ HasTy P m b p1 d') ∧ (∃ m,∃ d' : DataW H,m < n ∧ HasTy P m c p2 d') ∧
     (∃ m,∃ d' : DataW H,m < n ∧ HasTy P m e p3 d') ∧ (∃ m,∃ d' : DataW H,m < n ∧ HasTy P m f p4 d') ∧ (∃ m,∃ d' : DataW H,m < n ∧ HasTy P m g p5 d') := by
 obtain ⟨parts,rfl,hl,hp⟩ := h.fields hu
 have hsz : fs.size = 6 := by have := congrArg List.length hf; simpa using this
 rw [hsz] at hl
 match parts,hl with
 | [p0,p1,p2,p3,p4,p5],_ =>
   have k : ∀ (i:Nat) ds x,[p0,p1,p2,p3,p4,p5][i]? = some ds → [a,b,c,e,f,g][i]? = some x → ∃ m,∃ d' : DataW H,m < n ∧ HasTy P m x ds d' := by
     intro i ds x h1 h2
     rw [← hf] at h2
     simp only [List.getElem?_map,Array.getElem?_toList,Option.map_eq_some_iff] at h2
     obtain ⟨f,f1,f2⟩ := h2
     obtain ⟨m,d',m1,m2⟩ := hp i f ds f1 h1
     exact ⟨m,d',m1,f2 ▸ m2⟩
   exact ⟨p0,p1,p2,p3,p4,p5,by simp,k 0 _ _ rfl rfl,k 1 _ _ rfl rfl,k 2 _ _ rfl rfl,k 3 _ _ rfl rfl,k 4 _ _ rfl rfl,k 5 _ _ rfl rfl⟩
theorem HasTy.sub {st a b:TypeId} {fs:Array Field} (hT:∀ n cs (d:DataW H),HasTy P n b cs d → ∃ t : T,cs = t.cells ∧ t.wf) (hu:P.underlying st = some (.struct fs)) (hf:fs.toList.map Field.type = [a,b]) (ha:P.underlying a = some .string)
   {n:Nat} {cs:List AV} {d:DataW H} (h:HasTy P n st cs d) : ∃ s : Sb,cs = s.cells ∧ s.wf := by
 obtain ⟨p,q,rfl,⟨m0,d0,_,q0⟩,⟨m1,d1,_,q1⟩⟩ := h.two hu hf
 obtain ⟨x0,rfl,w0⟩ := q0.str ha
 obtain ⟨t,rfl,w1⟩ := hT _ _ _ q1
 exact ⟨⟨x0,t⟩,rfl,w0,w1⟩
theorem HasTy.step {tt ti tl ts te st:TypeId} {fs gs:Array Field} {tn:TypeId} (hT:∀ n cs (d:DataW H),HasTy P n te cs d → ∃ t : T,cs = t.cells ∧ t.wf)
   (hu:P.underlying tt = some (.struct fs)) (hf:fs.toList.map Field.type = [ti,tl,ti,ts,te,te]) (hi:P.underlying ti = some (.int .i64)) (hl:P.underlying tl = some (.slice ti)) (hs:P.underlying ts = some (.slice st))
   (hv:P.underlying st = some (.struct gs)) (hg:gs.toList.map Field.type = [tn,te]) (hn:P.underlying tn = some .string)
   {n:Nat} {cs:List AV} {d:DataW H} (h:HasTy P n tt cs d) : ∃ s : St7,cs = s.cells ∧ s.wf := by
 obtain ⟨p0,p1,p2,p3,p4,p5,rfl,⟨_,_,_,q0⟩,⟨_,_,_,q1⟩,⟨_,_,_,q2⟩,⟨_,_,_,q3⟩,⟨_,_,_,q4⟩,⟨_,_,_,q5⟩⟩ := h.six hu hf
 obtain ⟨x0,rfl,w0⟩ := q0.int hi
 obtain ⟨o1,l1,rfl,_,b1,w1⟩ := q1.slice (AV.int .i64) (fun x => (Lit.int .i64 x).wf = true) hl fun m hm ds d' h => by
   obtain ⟨x,rfl,hx⟩ := h.int hi
   exact ⟨x,by unfold elemAV aggTy; rw [hi]; rfl,hx⟩
 obtain ⟨x2,rfl,w2⟩ := q2.int hi
 obtain ⟨o3,l3,rfl,_,b3,w3⟩ := q3.slice Sb.av Sb.wf hs fun m hm ds d' h => by
   obtain ⟨x,rfl,hx⟩ := HasTy.sub hT hv hg hn h
   exact ⟨x,by unfold elemAV aggTy; rw [hv]; rfl,hx⟩
 obtain ⟨t4,rfl,w4⟩ := hT _ _ _ q4
 obtain ⟨t5,rfl,w5⟩ := hT _ _ _ q5
 exact ⟨⟨x0,o1,l1,x2,o3,l3,t4,t5⟩,rfl,w0,w1,b1,w2,w3,b3,w4,w5⟩
theorem ArgTy.steps {tp tt ti tl ts te st:TypeId} {fs gs:Array Field} {tn:TypeId} (hp:P.underlying tp = some (.slice tt)) (hT:∀ n cs (d:DataW H),HasTy P n te cs d → ∃ t : T,cs = t.cells ∧ t.wf)
   (hu:P.underlying tt = some (.struct fs)) (hf:fs.toList.map Field.type = [ti,tl,ti,ts,te,te]) (hi:P.underlying ti = some (.int .i64)) (hl:P.underlying tl = some (.slice ti)) (hs:P.underlying ts = some (.slice st))
   (hv:P.underlying st = some (.struct gs)) (hg:gs.toList.map Field.type = [tn,te]) (hn:P.underlying tn = some .string)
   {v:AV} {d:DataW H} (h:ArgTy P tp v d) : ∃ (o:Bool) (l:List St7),v = .list (St7.avs l) (ownB o) ∧ l.length ≤ 9223372036854775807 ∧ ∀ s,s ∈ l → s.wf := by
 obtain ⟨n,cs,rfl,h⟩ := h
 obtain ⟨o,l,rfl,h1,h2,h3⟩ := h.slice St7.av St7.wf hp fun m hm ds d' h => by
   obtain ⟨x,rfl,hx⟩ := HasTy.step hT hu hf hi hl hs hv hg hn h
   exact ⟨x,by unfold elemAV aggTy; rw [hu]; rfl,hx⟩
 exact ⟨o,l,by unfold elemAV aggTy; rw [hp]; rfl,h2,h3⟩
end
end Go.Proofs.YtkofimhnehkdoaaGreatDoor.Rf
end
section
namespace Go.Proofs.YtkofimhnehkdoaaGreatDoor.Rf
def kdN : List (List UInt8) := [[],[114,101,102,108],[115,121,109],[116,114,97,110,115],[99,111,110,103],[114,117,108,101],[102,111,108,100],[116,111,112],[110,111,100,101],[109,101,101,116],[109,111,118,101],[115,105,110,103,108,101],[103,105,118,101,110]]
def kindE (k:Int) : List UInt8 := if k < 1 ∨ 12 < k then [] else kdN.getD k.toNat []
theorem kind_cases {k:Int} (h:¬ (k < 1 ∨ 12 < k)) : k = 1 ∨ k = 2 ∨ k = 3 ∨ k = 4 ∨ k = 5 ∨ k = 6 ∨ k = 7 ∨ k = 8 ∨ k = 9 ∨ k = 10 ∨ k = 11 ∨ k = 12 := by omega
section
variable {hp:List HObj} {lo:Nat}
theorem kind_D (k:Int) (hp:List HObj) (lo:Nat) (q:Bool) : callD G0 IP n_proof_Kind [.int .i64 k] hp lo q = some (.ret (.str (kindE k)) hp) := by
 rw [callD_eq]
 by_cases h1 : k < 1
 · simp [IP_proof_Kind,i_proof_Kind,h1,kindE]
 · by_cases h2 : 12 < k
   · simp [IP_proof_Kind,i_proof_Kind,h1,h2,kindE]
   · rcases kind_cases (k := k) (by omega) with rfl | rfl | rfl | rfl | rfl | rfl | rfl | rfl | rfl | rfl | rfl | rfl
     all_goals simp [IP_proof_Kind,i_proof_Kind,kindE,kdN,G0_1,g_1]
end
end Go.Proofs.YtkofimhnehkdoaaGreatDoor.Rf
end
section
namespace Go.Proofs.YtkofimhnehkdoaaGreatDoor.Rf
def intE (s:List UInt8) : Int × Int :=
 if hasPre s [45] then
   (if numOk (s.drop 1) = false ∨ s.drop 1 = [48] then (0,6) else if 9223372036854775808 < digVal (s.drop 1) then (0,2) else (-(digVal (s.drop 1) : Int),0))
 else
   (if numOk s = false then (0,6) else if 9223372036854775808 ≤ digVal s then (0,2) else ((digVal s:Int),0))
def pI (neg:Bool) (r:List UInt8) : AV :=
 if neg then (if 9223372036854775808 < digVal r then .tup [.int .i64 (-9223372036854775808),.iface 211 (.int .i64 1)] else .tup [.int .i64 (-(digVal r:Int)),.nili])
 else (if 9223372036854775808 ≤ digVal r then .tup [.int .i64 9223372036854775807,.iface 211 (.int .i64 1)] else .tup [.int .i64 (digVal r),.nili])
section
variable {hp:List HObj} {lo:Nat}
set_option maxHeartbeats 1000000 in
theorem parseIntI_D (neg:Bool) (r:List UInt8) (hs:r.length ≤ 140737488355000) (h0:r ≠ []) (hd:r.all isDig = true) (hp:List HObj) (lo:Nat) : callD G0 IP n_isc_ParseInt [.str (if neg then 45 :: r else r),.int .i64 10,.int .i64 64] hp lo false = some (.ret (pI neg r) hp) := by
 rw [callD_eq]
 have e := fun (hp:List HObj) (lo:Nat) => parseUintI_D (hp := hp) (lo := lo) r (by omega) h0 hd
 have sh : IntKind.wrap .u64 (2 ^ min 63 IntKind.u64.bits) = 9223372036854775808 := by decide
 have z1 : IntKind.wrap .u64 9223372036854775807 = 9223372036854775807 := by decide
 have z2 : IntKind.wrap .i64 9223372036854775807 = 9223372036854775807 := by decide
 have z3 : IntKind.wrap .i64 9223372036854775808 = -9223372036854775808 := by decide
 have z4 : IntKind.wrap .i64 (-9223372036854775808) = -9223372036854775808 := by decide
 have c64 : IntKind.wrap .u64 (IntKind.wrap .i64 (64 - 1)) = 63 := by decide
 have c63 : IntKind.wrap .i64 63 = 63 := by decide
 have c63u : IntKind.wrap .u64 63 = 63 := by decide
 rcases r with _ | ⟨c,r'⟩
 · exact absurd rfl h0
 have hc : 48 ≤ c.toNat ∧ c.toNat ≤ 57 := by
   have := List.all_eq_true.1 hd c (by simp)
   simpa [isDig] using this
 have n43 : ¬ (c.toNat : Int) = 43 := by omega
 have n45 : ¬ (c.toNat : Int) = 45 := by omega
 have hl : (0:Int) < (r'.length : Int) + 1 := by omega
 have hl2 : (0:Int) < (r'.length : Int) + 1 + 1 := by omega
 generalize hD : digVal (c :: r') = D at *
 cases neg with
 | false =>
   by_cases hv : 18446744073709551616 ≤ D
   · have hv2 : 9223372036854775808 ≤ D := by omega
     simp only [pU,hD,if_pos hv] at e
     simp [IP_isc_ParseInt,i_isc_ParseInt,n43,n45,hl,hl2,e,pI,sh,c64,c63,c63u,z1,z2,z3,z4,hD,hv2]
   · simp only [pU,hD,if_neg hv] at e
     by_cases hv2 : 9223372036854775808 ≤ D
     · have k1 : (9223372036854775808:Int) ≤ (D:Int) := by omega
       simp [IP_isc_ParseInt,i_isc_ParseInt,n43,n45,hl,hl2,e,pI,sh,c64,c63,c63u,z1,z2,z3,z4,hD,hv2,k1]
     · have k1 : ¬ (9223372036854775808:Int) ≤ (D:Int) := by omega
       have w1 : IntKind.wrap .i64 (D:Int) = D := wrap_small (by omega) (by omega)
       simp [IP_isc_ParseInt,i_isc_ParseInt,n43,n45,hl,hl2,e,pI,sh,c64,c63,c63u,z1,z2,z3,z4,hD,hv2,k1,w1]
 | true =>
   by_cases hv : 18446744073709551616 ≤ D
   · have hv2 : 9223372036854775808 < D := by omega
     simp only [pU,hD,if_pos hv] at e
     simp [IP_isc_ParseInt,i_isc_ParseInt,n43,n45,hl,hl2,e,pI,sh,c64,c63,c63u,z1,z2,z3,z4,hD,hv2]
   · simp only [pU,hD,if_neg hv] at e
     by_cases hv2 : 9223372036854775808 < D
     · have k1 : (9223372036854775808:Int) < (D:Int) := by omega
       simp [IP_isc_ParseInt,i_isc_ParseInt,n43,n45,hl,hl2,e,pI,sh,c64,c63,c63u,z1,z2,z3,z4,hD,hv2,k1]
     · have k1 : ¬ (9223372036854775808:Int) < (D:Int) := by omega
       by_cases hv3 : D = 9223372036854775808
       · subst hv3
         simp [IP_isc_ParseInt,i_isc_ParseInt,n43,n45,hl,hl2,e,pI,sh,c64,c63,c63u,z1,z2,z3,z4,hD]
       · have w1 : IntKind.wrap .i64 (D:Int) = D := wrap_small (by omega) (by omega)
         have w2 : IntKind.wrap .i64 (-(D:Int)) = -(D:Int) := by simp [IntKind.wrap,IntKind.signed,IntKind.bits]; omega
         simp [IP_isc_ParseInt,i_isc_ParseInt,n43,n45,hl,hl2,e,pI,sh,c64,c63,c63u,z1,z2,z3,z4,hD,hv2,k1,w1,w2]
end
end Go.Proofs.YtkofimhnehkdoaaGreatDoor.Rf
end
section
namespace Go.Proofs.YtkofimhnehkdoaaGreatDoor.Rf
theorem hasPre45 {s:List UInt8} (h:hasPre s [45] = true) : ∃ r,s = 45 :: r := by
 simp only [hasPre,Bool.and_eq_true,decide_eq_true_eq] at h
 match s,h with
 | c :: r,⟨_,h⟩ => simp at h; exact ⟨r,by rw [h]⟩
section
variable {hp:List HObj} {lo:Nat}
theorem toErrorI_D (neg:Bool) (r:List UInt8) (hs:r.length ≤ 140737488355000) (h0:r ≠ []) (hd:r.all isDig = true) (hp:List HObj) (lo:Nat) :
   ∃ hp',callD G0 IP n_sc_ParseInt [.str (if neg then 45 :: r else r),.int .i64 10,.int .i64 64] hp lo false =
     some (.ret (if (if neg then 9223372036854775808 < digVal r else 9223372036854775808 ≤ digVal r) then .tup [.int .i64 (if neg then -9223372036854775808 else 9223372036854775807),.iface 213 (.ptr hp.length 0)] else .tup [.int .i64 (if neg then -(digVal r:Int) else digVal r),.nili]) hp') := by
 have e := fun (hp:List HObj) (lo:Nat) => parseIntI_D neg r hs h0 hd hp lo
 have hl : (if neg then 45 :: r else r).length ≤ 140737488355328 := by cases neg <;> simp <;> omega
 have e2 := fun (f:List UInt8) (hp:List HObj) (lo:Nat) (b c:Int) => toError_D (hp := hp) (lo := lo) f (if neg then 45 :: r else r) hl b c
 cases neg with
 | true =>
   by_cases hv : 9223372036854775808 < digVal r
   · refine ⟨hp ++ [.cells 0 [.str [80,97,114,115,101,73,110,116],.str (45 :: r),.iface 222 .none]],?_⟩
     rw [callD_eq]
     simp [pI,hv] at e
     simp at e2
     simp [IP_sc_ParseInt,i_sc_ParseInt,e,e2,hv]
   · refine ⟨hp,?_⟩
     rw [callD_eq]
     simp [pI,hv] at e
     simp [IP_sc_ParseInt,i_sc_ParseInt,e,hv]
 | false =>
   by_cases hv : 9223372036854775808 ≤ digVal r
   · refine ⟨hp ++ [.cells 0 [.str [80,97,114,115,101,73,110,116],.str r,.iface 222 .none]],?_⟩
     rw [callD_eq]
     simp [pI,hv] at e
     simp at e2
     simp [IP_sc_ParseInt,i_sc_ParseInt,e,e2,hv]
   · refine ⟨hp,?_⟩
     rw [callD_eq]
     simp [pI,hv] at e
     simp [IP_sc_ParseInt,i_sc_ParseInt,e,hv]
set_option maxHeartbeats 1000000 in
theorem parseIntT_D (s:List UInt8) (hs:s.length ≤ 140737488355000) (hp:List HObj) (lo:Nat) (q:Bool) : callD G0 IP n_digits_ParseInt [.str s] hp lo q = some (.ret (.tup [.int .i64 (intE s).1,.int .i64 (intE s).2]) hp) := by
 rw [callD_eq]
 cases hm : hasPre s [45] with
 | true =>
   obtain ⟨r,rfl⟩ := hasPre45 hm
   have hsr : r.length ≤ 140737488355000 := by simp at hs; omega
   have e1 := fun hp lo q => numeral_D (hp := hp) (lo := lo) q r (by omega)
   have e3 : intE (45 :: r) = (if numOk r = false ∨ r = [48] then (0,6) else if 9223372036854775808 < digVal r then (0,2) else (-(digVal r:Int),0)) := by
     unfold intE; rw [if_pos hm]; rfl
   rw [e3]
   cases hn : numOk r with
   | false => simp [IP_digits_ParseInt,i_digits_ParseInt,cutPre_D,hm,e1,hn]
   | true =>
     by_cases hz : r = [48]
     · subst hz
       simp [IP_digits_ParseInt,i_digits_ParseInt,cutPre_D,hm,e1,hn]
     · obtain ⟨h0,hd⟩ := numE_nonempty hn
       obtain ⟨hp',e2⟩ := toErrorI_D true r hsr h0 hd hp hp.length
       by_cases hv : 9223372036854775808 < digVal r
       · simp [hv] at e2
         simp [IP_digits_ParseInt,i_digits_ParseInt,cutPre_D,hm,e1,hn,hz,e2,hv]
       · simp [hv] at e2
         simp [IP_digits_ParseInt,i_digits_ParseInt,cutPre_D,hm,e1,hn,hz,e2,hv]
 | false =>
   have e1 := fun hp lo q => numeral_D (hp := hp) (lo := lo) q s (by omega)
   have e3 : intE s = (if numOk s = false then (0,6) else if 9223372036854775808 ≤ digVal s then (0,2) else ((digVal s:Int),0)) := by
     unfold intE; rw [if_neg (by rw [hm]; simp)]
   rw [e3]
   cases hn : numOk s with
   | false => simp [IP_digits_ParseInt,i_digits_ParseInt,cutPre_D,hm,e1,hn]
   | true =>
     obtain ⟨h0,hd⟩ := numE_nonempty hn
     obtain ⟨hp',e2⟩ := toErrorI_D false s hs h0 hd hp hp.length
     by_cases hv : 9223372036854775808 ≤ digVal s
     · simp [hv] at e2
       simp [IP_digits_ParseInt,i_digits_ParseInt,cutPre_D,hm,e1,hn,e2,hv]
     · simp [hv] at e2
       simp [IP_digits_ParseInt,i_digits_ParseInt,cutPre_D,hm,e1,hn,e2,hv]
end
end Go.Proofs.YtkofimhnehkdoaaGreatDoor.Rf
end
section
namespace Go.Proofs.YtkofimhnehkdoaaGreatDoor.Rf
def kindOf (s:List UInt8) : Int := if s = [] then 0 else match (List.range 12).find? fun i : Nat => decide (kindE ((i:Int) + 1) = s) with | some i => ((i:Int) + 1) | none => 0
def partsE (k:Int) : Int := if k = 5 ∨ k = 4 then 4 else if k = 12 ∨ k = 1 ∨ k = 6 ∨ k = 7 ∨ k = 8 then 3 else 2
theorem kindOf_bd (s:List UInt8) : 0 ≤ kindOf s ∧ kindOf s ≤ 12 := by
 unfold kindOf; split
 · omega
 · split
   · rename_i i hi
     have := List.mem_of_find?_eq_some hi
     simp at this
     omega
   · omega
section
variable {hp:List HObj} {lo:Nat}
theorem kindT_D (s:List UInt8) (hp:List HObj) (lo:Nat) (q:Bool) : callD G0 IP n_pt_kind [.str s] hp lo q = some (.ret (.int .i64 (kindOf s)) hp) := by
 rw [callD_eq]
 by_cases h0 : s = []
 · subst h0
   have hl : loopD G0 IP hp.length l_pt_kind_0 ⟨[(0,.str []),(3,.int .i64 1)],hp⟩ = some (.exit 0,⟨[(0,.str []),(3,.int .i64 1),(9,.bool false)],hp⟩) := by
     rw [loopD_eq,loopBody]
     simp [l_pt_kind_0]
   simp [IP_pt_kind,i_pt_kind,hl,kindOf]
 have hloop := loop_some (G := G0) (IP := IP) (lo := hp.length) (b := l_pt_kind_0)
   (fun i => ⟨[(0,.str s),(3,.int .i64 ((i:Int) + 1))],hp⟩) 12 (fun i => decide (kindE ((i:Int) + 1) = s)) (fun i => (.ret,⟨[(2,.int .i64 ((i:Int) + 1))],hp⟩))
   (.exit 0,⟨[(0,.str s),(3,.int .i64 13),(9,.bool false)],hp⟩)
   (fun i hi hp1 => by
     have e1 : (i:Int) + 1 ≤ 12 := by omega
     have e5 : IntKind.wrap .i64 ((i:Int) + 1 + 1) = (i:Int) + 1 + 1 := wrap_small (by omega) (by omega)
     simp only [decide_eq_false_iff_not] at hp1
     simp [l_pt_kind_0,kind_D,e1,e5,hp1,h0])
   (fun i hi hp1 => by
     have e1 : (i:Int) + 1 ≤ 12 := by omega
     simp only [decide_eq_true_eq] at hp1
     simp [l_pt_kind_0,kind_D,e1,hp1,h0])
   (fun i s => by simp) (by simp [l_pt_kind_0]) (by simp)
 simp only [Int.natCast_zero,Int.zero_add] at hloop
 rcases hloop with ⟨m,hm,hp1,hp2,hl⟩ | ⟨hno,hl⟩
 · have hf : (List.range 12).find? (fun i:Nat => decide (kindE ((i:Int) + 1) = s)) = some m := by
     rw [List.find?_range_eq_some]
     exact ⟨hp1,by simpa using hm,fun j hj => by simpa using hp2 j hj⟩
   have he : kindOf s = (m:Int) + 1 := by unfold kindOf; rw [if_neg h0,hf]
   simp [IP_pt_kind,i_pt_kind,hl,he]
 · have hf : (List.range 12).find? (fun i:Nat => decide (kindE ((i:Int) + 1) = s)) = none := by
     rw [List.find?_eq_none]
     intro i hi; simp at hi; have := hno i hi; simpa using this
   have he : kindOf s = 0 := by unfold kindOf; rw [if_neg h0,hf]
   simp [IP_pt_kind,i_pt_kind,hl,he]
theorem integer_D (a:List UInt8) (ha:a.length ≤ 140737488355000) (l:List AV) (o:Own) (hp:List HObj) (lo:Nat) (q:Bool) : callD G0 IP n_pt_integer [.agg [.str a,.list l o]] hp lo q = some (.ret (.tup [.int .i64 (intE a).1,.bool (decide ((intE a).2 = 0))]) hp) := by
 have e := parseIntT_D a ha
 rw [callD_eq]
 simp [IP_pt_integer,i_pt_integer,e]
end
end Go.Proofs.YtkofimhnehkdoaaGreatDoor.Rf
end
section
namespace Go.Proofs.YtkofimhnehkdoaaGreatDoor.Rf
mutual
def S.fit : S → Prop
 | .mk a _ l => a.length ≤ 65536 ∧ l.length ≤ 65536 ∧ (a ≠ [] → l = []) ∧ S.fits l
def S.fits : List S → Prop
 | [] => True
 | t :: r => t.fit ∧ S.fits r
end
theorem S.fits_iff : ∀ l : List S,S.fits l ↔ ∀ t,t ∈ l → t.fit
 | [] => by simp [S.fits]
 | t :: r => by simp [S.fits,S.fits_iff r]
theorem S.fit_eq (t:S) : t.fit ↔ t.atom.length ≤ 65536 ∧ t.list.length ≤ 65536 ∧ (t.atom ≠ [] → t.list = []) ∧ ∀ u,u ∈ t.list → u.fit := by
 cases t; simp only [S.fit,S.atom,S.list,S.fits_iff]
theorem p_fit (s:List UInt8) (hs:s.length ≤ 65536) : ∀ n,(∀ i d x j,i < s.length → pOne s n i d = .ok x j → x.fit) ∧ (∀ i d acc j acc',i ≤ s.length → acc.length ≤ i → (∀ t,t ∈ acc → t.fit) → pLoop s n i d acc = .stop j acc' → ∀ t,t ∈ acc' → t.fit)
 | 0 => ⟨fun i d x j hi h => by simp [pOne] at h,fun i d acc j acc' hi ha hw h => by simp [pLoop] at h; obtain ⟨_,rfl⟩ := h; exact hw⟩
 | n + 1 => by
   obtain ⟨h1,h2⟩ := p_fit s hs n
   refine ⟨fun i d x j hi h => ?_,fun i d acc j acc' hi ha hw h => ?_⟩
   · simp only [pOne] at h
     have hk := skipN_le (s := s) (i := i + 1) (by omega)
     split at h
     · split at h
       · cases h
       · split at h
         · cases h
         · rename_i j' acc' hl
           have hle := (p_le s n).2 _ _ _ _ _ hk.2 (by simp) hl
           have hw := h2 _ _ _ _ _ hk.2 (by simp) (by simp) hl
           split at h
           · cases h
           · cases h
             rw [S.fit_eq]
             simp only [S.atom,S.list,S.o]
             exact ⟨by simp,by omega,by simp,hw⟩
     · split at h
       · split at h
         · cases h
         · cases h
           rw [S.fit_eq]
           simp only [S.atom,S.list,S.o]
           exact ⟨by simp; omega,by simp,by simp,by simp⟩
       · cases h
   · simp only [pLoop] at h
     split at h
     · rename_i hlt
       split at h
       · cases h; exact hw
       · split at h
         · cases h
         · rename_i x j' ho
           have hj := (p_le s n).1 _ _ _ _ hlt ho
           have hk := skipN_le (s := s) (i := j') (by omega)
           refine h2 _ _ _ _ _ hk.2 (by simp; omega) (fun t ht => ?_) h
           rcases List.mem_append.1 ht with ht | ht
           · exact hw t ht
           · simp at ht; subst ht; exact h1 _ _ _ _ hlt ho
     · cases h; exact hw
theorem top_fit (s:List UInt8) (hs:s.length ≤ 65536) : ∀ n i acc st l st',i ≤ s.length → acc.length ≤ i → (∀ t,t ∈ acc → t.fit) → pTop s n i acc st = .ok l st' → (∀ t,t ∈ l → t.fit)
 | 0,i,acc,st,l,st',hi,ha,hw,h => by simp [pTop] at h; obtain ⟨rfl,rfl⟩ := h; exact hw
 | n + 1,i,acc,st,l,st',hi,ha,hw,h => by
   simp only [pTop] at h
   split at h
   · rename_i hlt
     split at h
     · cases h
     · rename_i x j hx
       have hj := (p_le s _).1 _ _ _ _ hlt hx
       have hk := skipN_le (s := s) (i := j) (by omega)
       refine top_fit s hs n _ _ _ _ _ hk.2 (by simp; omega) (fun t ht => ?_) h
       rcases List.mem_append.1 ht with ht | ht
       · exact hw t ht
       · simp at ht; subst ht; exact (p_fit s hs _).1 _ _ _ _ hlt hx
   · cases h; exact hw
theorem pAll_fit {s:List UInt8} {l:List S} {st:List Nat} (h:pAll s = .ok l st) : ∀ t,t ∈ l → t.fit := by
 unfold pAll at h
 split at h
 · cases h
 · have hk := skipN_le (s := s) (i := 0) (by omega)
   exact top_fit s (by omega) _ _ _ _ _ _ hk.2 (by simp) (by simp) h
def refsS : List S → Option (List Int)
 | [] => some []
 | x :: r => if (intE x.atom).2 = 0 then (match refsS r with | some l => some ((intE x.atom).1 :: l) | none => none) else none
def ownN (acc:List Int) : Own := if acc.isEmpty then .nil else .own 1 0
@[simp] theorem ownN_cp (acc:List Int) : (ownN acc).cp = ownB acc.isEmpty := by cases acc <;> rfl
@[simp] theorem ownN_app (acc:List Int) (x:Int) : ownN (acc ++ [x]) = .own 1 0 := by cases acc <;> rfl
theorem ownN_ok (acc:List Int) : ownN acc = .nil ∨ ownN acc = .own 1 0 := by cases acc <;> simp [ownN]
theorem i64s_app (a b:List Int) : i64s (a ++ b) = i64s a ++ i64s b := by simp [i64s]
@[simp] theorem i64s_nil : i64s [] = [] := rfl
theorem i64s_one (x:Int) : i64s [x] = [.int .i64 x] := rfl
theorem i64s_closed (n:Nat) : ∀ l : List Int,AV.closedL n (i64s l) = true
 | [] => rfl
 | x :: r => by have := i64s_closed n r; simp only [i64s] at this; simp [i64s,AV.closedL,AV.closed,this]
@[simp] theorem okSize_i64s (l:List Int) : okSize 1 (i64s l) = true := by cases l <;> simp [i64s]
section
variable {hp:List HObj} {lo:Nat}
def refsE (e:S) : Option (List Int) := if e.atom ≠ [] then none else refsS e.list
end
end Go.Proofs.YtkofimhnehkdoaaGreatDoor.Rf
end
section
namespace Go.Proofs.YtkofimhnehkdoaaGreatDoor.Rf
section
variable {hp:List HObj} {lo:Nat}
theorem name6_D (s : List UInt8) (hs:s.length ≤ 9223372036854775807) (hp:List HObj) (lo:Nat) (q:Bool) : callD G0 IP n_sr06_Name [.str s] hp lo q = some (.ret (.bool (nameOk s)) hp) := by
 rw [callD_eq]
 by_cases h1 : s.length < 1
 · have h0 : ¬ 1 ≤ s.length := by omega
   have hi : (s.length : Int) < 1 := by omega
   simp [IP_sr06_Name,i_sr06_Name,nameOk,hi,h0]
 · have h1' : 1 ≤ s.length := by omega
   have hi : ¬ (s.length : Int) < 1 := by omega
   by_cases h2 : 16 < s.length
   · have h2' : (16:Int) < (s.length : Int) := by omega
     have h0 : ¬ s.length ≤ 16 := by omega
     simp [IP_sr06_Name,i_sr06_Name,nameOk,hi,h2',h0]
   · have h2' : ¬ (16 : Int) < (s.length : Int) := by omega
     obtain ⟨c,h4,hb⟩ := bt_some (s := s) (i := 0) (by omega)
     have h3 : s.length ≤ 16 := by omega
     by_cases h5 : (c.toNat : Int) < 97
     · have g : lowC (c.toNat : Int) = false := by simp [lowC]; omega
       simp [IP_sr06_Name,i_sr06_Name,nameOk,hi,h2',h4,hb,h5,g]
     · by_cases h6 : 122 < (c.toNat : Int)
       · have g : lowC (c.toNat : Int) = false := by simp [lowC]; omega
         simp [IP_sr06_Name,i_sr06_Name,nameOk,hi,h2',h4,hb,h5,h6,g]
       · have g : lowC (c.toNat : Int) = true := by simp [lowC]; omega
         have hloop := loop_find (G := G0) (IP := IP) (lo := hp.length) (b := l_sr06_Name_0)
           (fun i => ⟨[(0,.str s),(3,.int .i64 i)],hp⟩) s.length (fun i => !nameC (bt s i))
           (.ret,⟨[(2,.bool false)],hp⟩) (.exit 0,⟨[(0,.str s),(3,.int .i64 s.length),(25,.bool false)],hp⟩)
           (fun i hi hp => by
             have hw := wrap_succ hi hs
             obtain ⟨c,h4,hb⟩ := bt_some (s := s) (i := i) hi
             have h4' : s[i] = c := by simpa [hi] using h4
             rw [hb] at hp
             rw [← hw]
             by_cases a1 : (c.toNat : Int) < 97
             · by_cases a2 : (c.toNat : Int) < 48
               · simp [nameC,lowC] at hp; omega
               · by_cases a3 : 57 < (c.toNat : Int)
                 · have a4 : (c.toNat : Int) = 95 := by simp [nameC,lowC] at hp; omega
                   simp [l_sr06_Name_0,h4,h4',hi,a1,a2,a3,a4]
                 · simp [l_sr06_Name_0,h4,h4',hi,a1,a2,a3]
             · by_cases a2 : 122 < (c.toNat : Int)
               · simp [nameC,lowC] at hp; omega
               · simp [l_sr06_Name_0,h4,h4',hi,a1,a2])
           (fun i hi hp => by
             obtain ⟨c,h4,hb⟩ := bt_some (s := s) (i := i) hi
             have h4' : s[i] = c := by simpa [hi] using h4
             rw [hb] at hp
             have a4 : ¬ (c.toNat : Int) = 95 := by simp [nameC,lowC] at hp; omega
             by_cases a1 : (c.toNat : Int) < 97
             · by_cases a2 : (c.toNat : Int) < 48
               · simp [l_sr06_Name_0,h4,h4',hi,a1,a2,a4]
               · have a3 : 57 < (c.toNat : Int) := by simp [nameC,lowC] at hp; omega
                 simp [l_sr06_Name_0,h4,h4',hi,a1,a2,a3,a4]
             · have a2 : 122 < (c.toNat : Int) := by simp [nameC,lowC] at hp; omega
               have a3 : 57 < (c.toNat : Int) := by omega
               have a5 : ¬ (c.toNat : Int) < 48 := by omega
               simp [l_sr06_Name_0,h4,h4',hi,a1,a2,a3,a4,a5])
           (by simp) (by simp [l_sr06_Name_0]) (by simp)
         rw [any_names] at hloop
         simp only [Int.natCast_zero] at hloop
         cases h : s.all fun c => nameC (c.toNat : Int) with
         | true => rw [h] at hloop; simp only [Bool.not_true,Bool.false_eq_true,if_false] at hloop; simp [IP_sr06_Name,i_sr06_Name,hi,h2',h4,h5,h6,hloop,nameOk,hb,g,h1',h3,h]
         | false => rw [h] at hloop; simp only [Bool.not_false,if_true] at hloop; simp [IP_sr06_Name,i_sr06_Name,hi,h2',h4,h5,h6,hloop,nameOk,hb,g,h1',h3,h]
def patB (op:Int) : Bool := decide (24 = op) || (decide (25 = op) || decide (26 = op))
theorem pattern4_D (op:Int) (hp:List HObj) (lo:Nat) (q:Bool) : callD G0 IP n_sr04_Pattern [.int .i64 op] hp lo q = some (.ret (.bool (patB op)) hp) := by
 have e1 := fun hp lo q (o:Own) => is4_D (hp := hp) (lo := lo) (q := q) op [24,25,26] o (by simp)
 simp only [List.map_cons,List.map_nil,List.any_cons,List.any_nil,Bool.or_false] at e1
 rw [callD_eq]
 simp [IP_sr04_Pattern,i_sr04_Pattern,e1,patB]
theorem widths6_L (as:List T) (o:Own) (hl:(as.length : Int) * 8 ≤ 140737488355328) (hp:List HObj) (lo:Nat) : ∀ (r p:List T),as = p ++ r →
   loopD G0 IP lo l_sr06_Widths_0 ⟨[(0,.list (T.avs as) o),(3,.list (wds p) (ownN (p.map T.width))),(4,.int .i64 p.length)],hp⟩ =
     some (.exit 0,⟨[(0,.list (T.avs as) o),(3,.list (wds as) (ownN (as.map T.width))),(4,.int .i64 as.length),(8,.bool false)],hp⟩)
 | [],p,h => by
   rw [loopD_eq,loopBody]
   simp at h
   subst h
   simp [l_sr06_Widths_0]
 | x :: r,p,h => by
   rw [loopD_eq,loopBody]
   have hlen : as.length = p.length + (r.length + 1) := by rw [h]; simp
   have h1 : (p.length : Int) < (as.length : Int) := by omega
   have hll : p.length < as.length := by omega
   have h2 : as[p.length] = x := by simp [h]
   have hw : IntKind.wrap .i64 ((p.length : Int) + 1) = (p.length : Int) + 1 := wrap_small (by omega) (by omega)
   have e2 := widths6_L as o hl hp lo r (p ++ [x]) (by rw [h]; simp)
   simp only [List.length_append,List.length_cons,List.length_nil,Nat.zero_add,Int.natCast_add,Int.natCast_one] at e2
   have hb2 : p.length + 1 ≤ 9223372036854775807 := by omega
   have hb3 : (p.length + 1) * 8 ≤ 140737488355328 := by omega
   rw [wds_app,List.map_append,show ([x].map T.width) = [x.width] from rfl,ownN_app] at e2
   have hok : okSize 1 (wds p) = true := by cases p <;> simp [wds]
   have hwl : (wds p).length = p.length := by simp [wds]
   simp [l_sr06_Widths_0,hll,h1,h2,T.av_eq x,hw,hb2,hb3,ownN_ok,hok,hwl]
   exact e2
theorem widths6_D (as:List T) (o:Own) (hl:(as.length : Int) * 8 ≤ 140737488355328) (hp:List HObj) (lo:Nat) (q:Bool) : callD G0 IP n_sr06_Widths [.list (T.avs as) o] hp lo q = some (.ret (.list (wds as) (ownN (as.map T.width))) hp) := by
 have e1 := fun (hp:List HObj) (lo:Nat) => widths6_L as o hl hp lo as [] rfl
 simp only [List.map_nil,List.length_nil,Int.natCast_zero,show wds [] = [] from rfl,show ownN [] = .nil from rfl] at e1
 have hc : ∀ n,AV.closedL n (wds as) = true := fun n => by have := i64s_closed n (as.map T.width); simpa [i64s,wds] using this
 rw [callD_eq]
 simp [IP_sr06_Widths,i_sr06_Widths,e1,hc]
def nodeE (t:T) : Int := if arE t.op < 0 ∨ patB t.op = true ∨ ¬ (t.args.length : Int) = arE t.op ∨ (¬ t.name = [] ∧ ¬ t.op = 1) ∨ (¬ t.val = 0 ∧ ¬ t.op = 2 ∧ ¬ t.op = 21) then 4 else
 if t.op = 1 ∧ nameOk t.name = false then 5 else if t.width < 1 then 3 else if ¬ (widE t.op t.width t.val (t.args.map T.width)).2 = 0 ∨ ¬ (widE t.op t.width t.val (t.args.map T.width)).1 = t.width then 3 else 0
end
end Go.Proofs.YtkofimhnehkdoaaGreatDoor.Rf
end
section
namespace Go.Proofs.YtkofimhnehkdoaaGreatDoor.Rf
section
variable {hp:List HObj} {lo:Nat}
set_option maxHeartbeats 4000000 in
theorem node6_D (t : T) (hw:t.wf) (hl:(t.args.length : Int) * 8 ≤ 140737488355328) (hp:List HObj) (lo:Nat) (q:Bool) : callD G0 IP n_sr06_Node [t.av] hp lo q = some (.ret (.int .i64 (nodeE t)) hp) := by
 have hwf := (T.wf_eq t).1 hw
 have hv : 0 ≤ t.val ∧ t.val < 18446744073709551616 := by
   have := hwf.2.2.1
   simp [Lit.wf,IntKind.min,IntKind.max,IntKind.signed,IntKind.bits] at this; omega
 have ea := fun hp lo q => arity4_D (hp := hp) (lo := lo) (q := q) t.op
 have ep := fun hp lo q => pattern4_D t.op hp lo q
 have en := fun hp lo q => name6_D t.name hwf.2.2.2.1 hp lo q
 have ewi := fun (o:Own) (hp:List HObj) (lo:Nat) (q:Bool) => widths6_D t.args o hl hp lo q
 have e2 : ∀ hp lo q (oo:Own),callD G0 IP n_sr04_Width [.int .i64 t.op,.int .i64 t.width,.int .u64 t.val,.list (wds t.args) oo] hp lo q = some (.ret (.tup [.int .i64 (widE t.op t.width t.val (t.args.map T.width)).1,.int .i64 (widE t.op t.width t.val (t.args.map T.width)).2]) hp) :=
   fun hp lo q oo => width4_D q t.op _ _ hv.2 (t.args.map T.width) oo (by rw [List.length_map]; omega)
 rw [callD_eq,T.av_eq,nodeE]
 generalize widE t.op t.width t.val (t.args.map T.width) = W at *
 by_cases c1 : arE t.op < 0
 · simp [IP_sr06_Node,i_sr06_Node,ea,c1]
 cases c2 : patB t.op with
 | true =>
   rw [c2] at ep
   simp [IP_sr06_Node,i_sr06_Node,ea,ep,c1]
 | false =>
   rw [c2] at ep
   by_cases c3 : (t.args.length : Int) = arE t.op
   · by_cases c4 : t.name = []
     · by_cases c5 : t.val = 0
       · by_cases c6 : t.op = 1
         · have c7 : nameOk t.name = false := by rw [c4]; rfl
           rw [c7] at en
           rw [c6] at ea ep c1 c3
           rw [c4] at en
           simp [IP_sr06_Node,i_sr06_Node,ea,ep,en,c1,c3,c4,c5,c6,show nameOk [] = false from rfl]
         · by_cases c8 : t.width < 1
           · simp [IP_sr06_Node,i_sr06_Node,ea,ep,en,c1,c3,c4,c5,c6,c8]
           · rw [c5] at e2
             by_cases c9 : W.2 = 0
             · by_cases c10 : W.1 = t.width
               · simp [IP_sr06_Node,i_sr06_Node,ea,ep,en,ewi,e2,c1,c3,c4,c5,c6,c8,c9,c10]
               · simp [IP_sr06_Node,i_sr06_Node,ea,ep,en,ewi,e2,c1,c3,c4,c5,c6,c8,c9,c10]
             · simp [IP_sr06_Node,i_sr06_Node,ea,ep,en,ewi,e2,c1,c3,c4,c5,c6,c8,c9]
       · by_cases c6 : t.op = 2 ∨ t.op = 21
         · by_cases c8 : t.width < 1
           · rcases c6 with c6 | c6
             all_goals
               rw [c6] at ea ep c1 c3
               simp [IP_sr06_Node,i_sr06_Node,ea,ep,en,c1,c3,c4,c5,c6,c8]
           · by_cases c9 : W.2 = 0
             · by_cases c10 : W.1 = t.width
               · rcases c6 with c6 | c6
                 all_goals
                   rw [c6] at ea ep c1 c3 e2
                   simp [IP_sr06_Node,i_sr06_Node,ea,ep,en,ewi,e2,c1,c3,c4,c5,c6,c8,c9,c10]
               · rcases c6 with c6 | c6
                 all_goals
                   rw [c6] at ea ep c1 c3 e2
                   simp [IP_sr06_Node,i_sr06_Node,ea,ep,en,ewi,e2,c1,c3,c4,c5,c6,c8,c9,c10]
             · rcases c6 with c6 | c6
               all_goals
                 rw [c6] at ea ep c1 c3 e2
                 simp [IP_sr06_Node,i_sr06_Node,ea,ep,en,ewi,e2,c1,c3,c4,c5,c6,c8,c9]
         · have n2 : ¬ t.op = 2 := fun h => c6 (.inl h)
           have n21 : ¬ t.op = 21 := fun h => c6 (.inr h)
           simp [IP_sr06_Node,i_sr06_Node,ea,ep,en,c1,c3,c4,c5,n2,n21]
     · have c4' : t.name.isEmpty = false := by simpa using c4
       by_cases c6 : t.op = 1
       · rw [c6] at ea ep c1 c3 e2
         by_cases c5 : t.val = 0
         · cases c7 : nameOk t.name with
           | false =>
             rw [c7] at en
             simp [IP_sr06_Node,i_sr06_Node,ea,ep,en,c1,c3,c4,c4',c5,c6]
           | true =>
             rw [c7] at en
             by_cases c8 : t.width < 1
             · simp [IP_sr06_Node,i_sr06_Node,ea,ep,en,c1,c3,c4,c4',c5,c6,c8]
             · rw [c5] at e2
               by_cases c9 : W.2 = 0
               · by_cases c10 : W.1 = t.width
                 · simp [IP_sr06_Node,i_sr06_Node,ea,ep,en,ewi,e2,c1,c3,c4,c4',c5,c6,c8,c9,c10]
                 · simp [IP_sr06_Node,i_sr06_Node,ea,ep,en,ewi,e2,c1,c3,c4,c4',c5,c6,c8,c9,c10]
               · simp [IP_sr06_Node,i_sr06_Node,ea,ep,en,ewi,e2,c1,c3,c4,c4',c5,c6,c8,c9]
         · simp [IP_sr06_Node,i_sr06_Node,ea,ep,en,c1,c3,c4,c4',c5,c6]
       · simp [IP_sr06_Node,i_sr06_Node,ea,ep,en,c1,c3,c4,c4',c6]
   · simp [IP_sr06_Node,i_sr06_Node,ea,ep,c1,c3]
end
end Go.Proofs.YtkofimhnehkdoaaGreatDoor.Rf
end
