/- A part of the proof: see the last text. -/
import Derived.Test.YtkofimhnehkdoaaGreatDoorRpG5
import Derived.ChangeArms
import Derived.OpenShut
import Derived.Below
import Derived.ProofKit
import Derived.ChangeOld
import Derived.SizedLaws
import Derived.Carry
import Derived.ChangeShapes
import Derived.ShutString
import Derived.WalkKit
import Derived.Test.YtkofimhnehkdoaaGreatDoorRpG1
import Derived.KernelRfl
set_option linter.unusedVariables false
set_option linter.unusedSimpArgs false
section
namespace Go.Proofs.YtkofimhnehkdoaaGreatDoor.Rf
def aggTy (P:Program) (t:TypeId) : Bool :=
 match P.underlying t with
 | some (.struct _) | some (.array _ _) => true
 | _ => false
def elemAV (P:Program) (t:TypeId) (cs:List AV) : AV := if aggTy P t then .agg cs else cs.headD .none
def HasTy {H:Type} (P:Program) : Nat → TypeId → List AV → DataW H → Prop
 | 0,_,_,_ => False
 | n + 1,t,cs,d =>
   match P.underlying t with
   | some .bool => ∃ b,cs = [.bool b] ∧ d = .lit (.bool b)
   | some (.int k) => ∃ m,cs = [.int k m] ∧ (Lit.int k m).wf = true ∧ d = .lit (.int k m)
   | some .string => ∃ s : List UInt8,cs = [.str s] ∧ s.length ≤ maxLen ∧ d = .lit (.string s)
   | some (.slice e) => (cs = [.list [] .nil] ∧ d = .nil) ∨ ∃ xs els rest,cs = [.list xs .no] ∧ d = .slice els rest ∧ xs.length = els.length ∧ xs.length ≤ maxLen ∧ ∀ (i:Nat) x d',xs[i]? = some x → els[i]? = some d' → ∃ ds,x = elemAV P e ds ∧ HasTy P n e ds d'
   | some (.struct fs) => ∃ (parts:List (List AV)) (els:List (DataW H)),cs = parts.flatten ∧ d = .agg els ∧ parts.length = fs.size ∧ els.length = fs.size ∧ ∀ (i:Nat) f ds d',fs[i]? = some f → parts[i]? = some ds → els[i]? = some d' → HasTy P n f.type ds d'
   | some (.array m e) => ∃ (parts:List (List AV)) (els:List (DataW H)),cs = parts.flatten ∧ d = .agg els ∧ parts.length = m ∧ els.length = m ∧ ∀ (i:Nat) ds d',parts[i]? = some ds → els[i]? = some d' → HasTy P n e ds d'
   | _ => False
def tileOk (P:Program) : List Field → Nat → Nat → Bool
 | [],k,n => Nat.beq k n
 | f :: r,k,n => Nat.beq f.offset k && tileOk P r (k + P.cellsOf f.type) n
def covT (P:Program) (S:List TypeId) (t:TypeId) : Bool :=
 match P.underlying t with
 | some .bool | some (.int _) | some .string => Nat.beq (P.cellsOf t) 1
 | some (.slice e) => S.contains e && Nat.blt 0 (P.cellsOf e) && Nat.beq (P.cellsOf t) 1
 | some (.struct fs) => fs.toList.all (fun f => S.contains f.type) && tileOk P fs.toList 0 (P.cellsOf t)
 | some (.array n e) => S.contains e && Nat.beq (n * P.cellsOf e) (P.cellsOf t)
 | _ => false
def covS (P:Program) (S:List TypeId) : Bool := S.all (covT P S)
section
variable {H:Type} {enc:TypeId × Value → H} {P:Program} {g:Gh} {W:World} {base:Nat} {held:Bool}
theorem pick_all {α:Type} {Q:Nat → α → Prop} : ∀ (n:Nat),(∀ i,i < n → ∃ x,Q i x) → ∃ xs : List α,xs.length = n ∧ ∀ (i:Nat) x,xs[i]? = some x → Q i x
 | 0,_ => ⟨[],rfl,fun i x h => by simp at h⟩
 | n + 1,h => by
   obtain ⟨xs,h1,h2⟩ := pick_all n fun i hi => h i (by omega)
   obtain ⟨x,hx⟩ := h n (by omega)
   refine ⟨xs ++ [x],by simp [h1],fun i y hy => ?_⟩
   rw [List.getElem?_append] at hy
   split at hy
   · exact h2 i y hy
   · rename_i hlt
     have : i = n := by
       have := (List.getElem?_eq_some_iff.1 hy).1; simp at this; omega
     subst this; simp [h1] at hy; subst hy; exact hx
theorem VE.of_get {w:World} {sz:Nat} : ∀ {xs:List AV} {b off:Nat},(∀ (i:Nat) x,xs[i]? = some x → x.cells.length = sz ∧ VC g w x.cells b (off + i * sz)) → VE g w sz xs b off
 | [],_,_,_ => by simp [VE]
 | x :: xs,b,off,h => by
   have h0 := h 0 x rfl
   rw [Nat.zero_mul,Nat.add_zero] at h0
   refine VE.cons_mk h0.1 h0.2 (VE.of_get fun i y hy => ?_)
   have := h (i + 1) y (by simpa using hy)
   rwa [show off + (i + 1) * sz = off + sz + i * sz by rw [Nat.succ_mul]; omega] at this
theorem VC.of_get {w:World} : ∀ {cs:List AV} {b off:Nat},(∀ (i:Nat) c,cs[i]? = some c → g.ow b (off + i) = .imm ∧ ∃ cv,w.cell? ⟨b,off + i,none⟩ = some cv ∧ cv.oneCell' = true ∧ V g w c cv) → VC g w cs b off
 | [],_,_,_ => by simp [VC]
 | c :: cs,b,off,h => by
   simp only [VC]
   have h0 := h 0 c rfl
   rw [Nat.add_zero] at h0
   refine ⟨⟨by rw [h0.1]; trivial,h0.2⟩,VC.of_get fun i y hy => ?_⟩
   have := h (i + 1) y (by simpa using hy)
   rwa [show off + (i + 1) = off + 1 + i by omega] at this
theorem VS.tiles {cells:List Value} {n:Nat} (hn:cells.length = n) : ∀ (sizes:List Nat) (k:Nat) (parts:List (List AV)),parts.length = sizes.length → k + sizes.sum = n →
   (∀ (i:Nat) ds sz,parts[i]? = some ds → sizes[i]? = some sz → VS g W ds ((cells.drop (k + (sizes.take i).sum)).take sz) ∧ Ones ((cells.drop (k + (sizes.take i).sum)).take sz)) → VS g W parts.flatten (cells.drop k) ∧ Ones (cells.drop k)
 | [],k,parts,hp,hk,_ => by
   have : parts = [] := List.length_eq_zero_iff.1 (by simpa using hp)
   subst this
   have e : cells.drop k = [] := List.drop_eq_nil_of_le (by simp at hk; omega)
   rw [e]; exact ⟨by simp [VS],fun u hu => by simp at hu⟩
 | sz :: sizes,k,[],hp,_,_ => by simp at hp
 | sz :: sizes,k,ds :: parts,hp,hk,h => by
   have h0 := h 0 ds sz rfl rfl
   simp at h0
   have ih := VS.tiles hn sizes (k + sz) parts (by simpa using hp) (by simp at hk; omega) (fun i ds' sz' a b => by
     have := h (i + 1) ds' sz' (by simpa using a) (by simpa using b)
     simpa [Nat.add_assoc] using this)
   have e : cells.drop k = (cells.drop k).take sz ++ cells.drop (k + sz) := by
     rw [← List.drop_drop,List.take_append_drop]
   rw [e,List.flatten_cons]
   refine ⟨h0.1.append ih.1,fun u hu => ?_⟩
   rcases List.mem_append.1 hu with hu | hu
   · exact h0.2 u hu
   · exact ih.2 u hu
theorem tile_sum : ∀ {fs:List Field} {k n:Nat},tileOk P fs k n = true → k + (fs.map fun f => P.cellsOf f.type).sum = n ∧ ∀ (i:Nat) f,fs[i]? = some f → f.offset = k + ((fs.map fun f => P.cellsOf f.type).take i).sum
 | [],k,n,h => by simp [tileOk] at h; exact ⟨by simp [h],fun i f hf => by simp at hf⟩
 | f :: r,k,n,h => by
   simp only [tileOk,Bool.and_eq_true] at h
   obtain ⟨h1,h2⟩ := tile_sum h.2
   have h0 := Nat.eq_of_beq_eq_true h.1
   refine ⟨by simp; omega,fun i f' hf => ?_⟩
   cases i with
   | zero => simp at hf; subst hf; simpa using h0
   | succ i => have := h2 i f' (by simpa using hf); simp; omega
theorem cell_spot {w:World} {a:Addr} {v:Value} (h:w.cell? a = some v) : a.spot = none := by
 unfold World.cell? at h
 split at h
 · split at h
   · cases h
   · rename_i hs; simpa using hs
 · cases h
theorem trod_V {S : List TypeId} (hS:covS P S = true) (hg:∀ b o,b < W.heap.size → g.ow b o = .imm) : ∀ (fuel:Nat) (t:TypeId) (cs:List Value) (x:DataW H × List MemPlace),t ∈ S → DataW.trod enc P W base (fun _ => true) held fuel t cs = some x →
   ∃ avs,VS g W avs cs ∧ Ones cs ∧ HasTy P fuel t avs x.1 ∧ cs.length = P.cellsOf t := by
 intro fuel
 induction fuel with
 | zero => intro t cs x _ h; simp [DataW.trod] at h
 | succ fuel ih =>
   intro t cs x ht h
   have hc : covT P S t = true := by simp only [covS,List.all_eq_true] at hS; exact hS t ht
   unfold covT at hc
   cases hu : P.underlying t with
   | none => simp [hu] at hc
   | some d =>
     cases d <;> simp [hu] at hc
     case bool =>
       obtain ⟨b,rfl,rfl⟩ := DataW.trod_bool hu h
       exact ⟨[.bool b],by simp [VS,V],by simp [Ones,Value.oneCell'],by simp only [HasTy,hu]; exact ⟨b,rfl,rfl⟩,by simp [hc]⟩
     case int k =>
       obtain ⟨n,rfl,rfl,hw⟩ := DataW.trod_int hu h
       exact ⟨[.int k n],by simp [VS,V],by simp [Ones,Value.oneCell'],by simp only [HasTy,hu]; exact ⟨n,rfl,hw,rfl⟩,by simp [hc]⟩
     case string =>
       obtain ⟨s,rfl,rfl,hw⟩ := DataW.trod_string hu h
       refine ⟨[.str s.data.toList],?_,by simp [Ones,Value.oneCell'],by simp only [HasTy,hu]; exact ⟨_,rfl,(by rw [Array.length_toList]; exact hw),rfl⟩,by simp [hc]⟩
       simp only [VS,V]
       exact ⟨_,[],rfl,by simp,rfl⟩
     case slice e =>
       obtain ⟨⟨he,hpos⟩,h1⟩ := hc
       rcases DataW.trod_slice hu h with ⟨rfl,rfl⟩ | ⟨a,len,cap,elems,rest,n,hn,rfl,rfl,hb,hl,hcap,hel,hget,hsp,_⟩
       · refine ⟨[.list [] .nil],?_,by simp [Ones,Value.oneCell'],by simp only [HasTy,hu]; exact .inl (by simp),by simp [h1]⟩
         simp only [VS,V]
         exact ⟨_,[],rfl,⟨none,0,rfl,by simp,by decide,⟨fun _ => rfl,fun _ => rfl⟩,fun _ => rfl,fun a e => by cases e⟩,rfl⟩
       · cases hn
         -- the address is a plain one
         have first : 0 < cap → a.spot = none := fun hc0 => by
           have key : ∀ {y:Option (DataW H × List MemPlace)},(W.cells? base (a.add 0) (P.cellsOf e)).bind (DataW.trod enc P W base (fun _ => true) held fuel e) = y → y ≠ none → a.spot = none := fun {y} hy hne => by
             cases hcs : W.cells? base (a.add 0) (P.cellsOf e) with
             | none => rw [hcs] at hy; simp at hy; exact absurd hy.symm hne
             | some l =>
               obtain ⟨_,q2,q3⟩ := World.cells?_some hcs
               have := q3 0 hpos
               have h0 : l[0]? = some l[0] := List.getElem?_eq_getElem (by omega)
               rw [h0] at this
               have e0 : (a.add 0).add 0 = a := by simp [Addr.add]
               rw [e0] at this
               exact cell_spot this
           by_cases h0 : 0 < len
           · have := hget 0 h0
             rw [Nat.zero_mul] at this
             exact key this (by rw [List.getElem?_eq_getElem (by omega)]; simp)
           · have h00 : len = 0 := by omega
             obtain ⟨r1,r2⟩ := hsp rfl
             have := r2 0 (by omega)
             rw [h00,Nat.zero_add,Nat.zero_mul] at this
             exact key this (by rw [List.getElem?_eq_getElem (by omega)]; simp)
         have one : ∀ i,i < len → ∃ y,(y.cells.length = P.cellsOf e ∧ VC g W y.cells a.block (a.off + i * P.cellsOf e)) ∧ ∃ ds d',y = elemAV P e ds ∧ elems[i]? = some d' ∧ HasTy P fuel e ds d'.1 := fun i hi => by
           have hgi := hget i hi
           have hei : elems[i]? = some elems[i] := List.getElem?_eq_getElem (by omega)
           rw [hei] at hgi
           cases hcs : W.cells? base (a.add (i * P.cellsOf e)) (P.cellsOf e) with
           | none => rw [hcs] at hgi; simp at hgi
           | some l =>
             rw [hcs] at hgi
             simp only [Option.bind_some] at hgi
             obtain ⟨avs,v1,v2,v3,v4⟩ := ih e l _ (by simpa using he) hgi
             obtain ⟨_,q2,q3⟩ := World.cells?_some hcs
             have hs := first (by omega)
             have ha : a.add (i * P.cellsOf e) = ⟨a.block,a.off + i * P.cellsOf e,none⟩ := by
               obtain ⟨b,q,sp⟩ := a
               simp only at hs; subst hs
               exact Addr.add_lit b q _
             have hvc : VC g W avs a.block (a.off + i * P.cellsOf e) := VC.of_get fun j c hj => by
               obtain ⟨u,u1,u2⟩ := v1.get hj
               have hjl := (List.getElem?_eq_some_iff.1 u1).1
               have := q3 j (by omega)
               rw [u1,ha,Addr.add_lit] at this
               exact ⟨hg _ _ (World.block_lt_of_cell? W ⟨a.block,a.off + i * P.cellsOf e + j,none⟩ this),u,this,v2 u (List.mem_of_getElem? u1),u2⟩
             have hlen : avs.length = P.cellsOf e := by rw [← v1.len]; exact v4
             refine ⟨elemAV P e avs,?_,avs,elems[i],rfl,hei,v3⟩
             unfold elemAV
             by_cases hag : aggTy P e = true
             · rw [if_pos hag]; exact ⟨hlen,hvc⟩
             · rw [if_neg hag]
               have hce : covT P S e = true := by simp only [covS,List.all_eq_true] at hS; exact hS e (by simpa using he)
               have h3 := v3
               cases fuel with
               | zero => exact h3.elim
               | succ m =>
                 unfold aggTy at hag
                 unfold covT at hce
                 simp only [HasTy] at h3
                 cases hue : P.underlying e with
                 | none => simp [hue] at hce
                 | some de =>
                   rw [hue] at h3 hag hce
                   cases de <;> simp at hag hce
                   case bool => obtain ⟨b,rfl,_⟩ := h3; exact ⟨hlen,hvc⟩
                   case int k => obtain ⟨b,rfl,_⟩ := h3; exact ⟨hlen,hvc⟩
                   case string => obtain ⟨b,rfl,_⟩ := h3; exact ⟨hlen,hvc⟩
                   case slice e2 =>
                     rcases h3 with ⟨rfl,_⟩ | ⟨xs,_,_,rfl,_⟩ <;> exact ⟨hlen,hvc⟩
         obtain ⟨xs,hxl,hx⟩ := pick_all len one
         refine ⟨[.list xs .no],?_,by simp [Ones,Value.oneCell'],?_,by simp [h1]⟩
         · simp only [VS,V]
           refine ⟨_,[],rfl,⟨some a,cap,by rw [hxl],by omega,by simpa [maxLen] using hcap,⟨fun e => (by cases e),fun e => (by cases e)⟩,(fun e => by cases e),fun ad ha => ?_⟩,rfl⟩
           cases ha
           exact ⟨fun hc => first (hc.resolve_left (by simp)),(fun hn => absurd rfl hn),P.cellsOf e,VE.of_get fun i y hy => (hx i y hy).1⟩
         · simp only [HasTy,hu]
           refine .inr ⟨xs,elems.map (·.1),rest.map (·.1),rfl,rfl,by simp [hxl,hel],by omega,fun i y d' hy hd => ?_⟩
           obtain ⟨_,ds,d'',e1,e2,e3⟩ := hx i y hy
           rw [List.getElem?_map,e2] at hd
           simp at hd; subst hd
           exact ⟨ds,e1,e3⟩
     case struct fs =>
       obtain ⟨hall,htile⟩ := hc
       obtain ⟨xs,n,hn,rfl,hlen,hxl,hget⟩ := DataW.trod_struct hu h
       cases hn
       obtain ⟨ts1,ts2⟩ := tile_sum htile
       have one : ∀ i,i < fs.size → ∃ ds,(∃ f d',fs[i]? = some f ∧ xs[i]? = some d' ∧ HasTy P fuel f.type ds d'.1 ∧ VS g W ds ((cs.drop f.offset).take (P.cellsOf f.type)) ∧ Ones ((cs.drop f.offset).take (P.cellsOf f.type))) := fun i hi => by
         have hf : fs[i]? = some fs[i] := Array.getElem?_eq_getElem hi
         have hxi : xs[i]? = some xs[i] := List.getElem?_eq_getElem (by omega)
         have := hget i _ hf
         rw [hxi] at this
         obtain ⟨avs,v1,v2,v3,_⟩ := ih _ _ _ (by
           have := hall i hi
           simpa using this) this
         exact ⟨avs,_,_,hf,hxi,v3,v1,v2⟩
       obtain ⟨parts,hpl,hp⟩ := pick_all fs.size one
       have tl := VS.tiles (g := g) (W := W) hlen (fs.toList.map fun f => P.cellsOf f.type) 0 parts (by simp [hpl]) (by simpa using ts1) (fun i ds sz a b => by
         obtain ⟨f,d',q1,_,_,q4,q5⟩ := hp i ds a
         have hfl : fs.toList[i]? = some f := by rw [Array.getElem?_toList]; exact q1
         rw [List.getElem?_map,hfl] at b
         simp at b; subst b
         have := ts2 i f hfl
         rw [← this]; exact ⟨q4,q5⟩)
       simp only [List.drop_zero] at tl
       refine ⟨parts.flatten,tl.1,tl.2,?_,hlen⟩
       simp only [HasTy,hu]
       refine ⟨parts,xs.map (·.1),rfl,rfl,hpl,by simp [hxl],fun i f ds d' a b c => ?_⟩
       obtain ⟨f',d'',q1,q2,q3,_⟩ := hp i ds b
       rw [a] at q1; cases q1
       rw [List.getElem?_map,q2] at c
       simp at c; subst c; exact q3
     case array m e =>
       obtain ⟨he,hsz⟩ := hc
       obtain ⟨xs,n,hn,rfl,hlen,hxl,hget⟩ := DataW.trod_array hu h
       cases hn
       have one : ∀ i,i < m → ∃ ds,(∃ d',xs[i]? = some d' ∧ HasTy P fuel e ds d'.1 ∧ VS g W ds ((cs.drop (i * P.cellsOf e)).take (P.cellsOf e)) ∧ Ones ((cs.drop (i * P.cellsOf e)).take (P.cellsOf e))) := fun i hi => by
         have hxi : xs[i]? = some xs[i] := List.getElem?_eq_getElem (by omega)
         have := hget i hi
         rw [hxi] at this
         obtain ⟨avs,v1,v2,v3,_⟩ := ih _ _ _ (by simpa using he) this
         exact ⟨avs,_,hxi,v3,v1,v2⟩
       obtain ⟨parts,hpl,hp⟩ := pick_all m one
       have tl := VS.tiles (g := g) (W := W) hlen (List.replicate m (P.cellsOf e)) 0 parts (by simp [hpl]) (by simp; exact hsz) (fun i ds sz a b => by
         obtain ⟨d',_,_,q4,q5⟩ := hp i ds a
         have hi := (List.getElem?_eq_some_iff.1 a).1
         have hsz' : sz = P.cellsOf e := by
           obtain ⟨h1,h2⟩ := List.getElem?_eq_some_iff.1 b; simp at h2; exact h2.symm
         subst hsz'
         have hm : min i m = i := by omega
         simp [List.take_replicate,hm]
         exact ⟨q4,q5⟩)
       simp only [List.drop_zero] at tl
       refine ⟨parts.flatten,tl.1,tl.2,?_,hlen⟩
       simp only [HasTy,hu]
       refine ⟨parts,xs.map (·.1),rfl,rfl,hpl,by simp [hxl],fun i ds d' b c => ?_⟩
       obtain ⟨d'',q2,q3,_⟩ := hp i ds b
       rw [List.getElem?_map,q2] at c
       simp at c; subst c; exact q3
end
end Go.Proofs.YtkofimhnehkdoaaGreatDoor.Rf
end
section
namespace Go.Proofs.YtkofimhnehkdoaaGreatDoor.Rf
def gh0 (W:World) : Gh := ⟨fun b _ => if b < W.heap.size then .imm else .out,[],fun _ => 0⟩
theorem gh0_imm {W:World} {b o:Nat} (h:b < W.heap.size) : (gh0 W).ow b o = .imm := if_pos h
def noOwn : AV → Bool
 | .list _ (.own _ _) => false
 | .tup _ => false
 | v => v.plain
def ArgTy {H:Type} (P:Program) (t:TypeId) (v:AV) (d:DataW H) : Prop := ∃ n cs,v = elemAV P t cs ∧ HasTy P n t cs d
inductive ArgsTy {H:Type} (P:Program) : List TypeId → List AV → List (DataW H) → Prop
 | nil : ArgsTy P [] [] []
 | cons {t:TypeId} {v:AV} {d:DataW H} {ts:List TypeId} {vs:List AV} {ds:List (DataW H)} : ArgTy P t v d → ArgsTy P ts vs ds → ArgsTy P (t :: ts) (v :: vs) (d :: ds)
section
variable {H:Type} {enc:TypeId × Value → H} {P:Program} {W:World} {base:Nat}
theorem arg_V {S : List TypeId} (hS:covS P S = true) {t:TypeId} (ht:t ∈ S) {v:Value} {d:DataW H} {p:List MemPlace} (hv:Value.okWide P W .any base t v) (h:DataW.Trod enc P W 0 (fun _ => true) true t v d p) :
   ∃ av,V (gh0 W) W av v ∧ noOwn av = true ∧ ArgTy P t av d := by
 obtain ⟨fuel,hf⟩ := h
 obtain ⟨avs,v1,v2,v3,v4⟩ := trod_V (g := gh0 W) hS (fun b o h => gh0_imm h) fuel t _ _ ht hf
 refine ⟨elemAV P t avs,?_,?_,fuel,avs,rfl,v3⟩
 all_goals
   have hc : covT P S t = true := by simp only [covS,List.all_eq_true] at hS; exact hS t ht
   unfold covT at hc
   unfold Value.okWide at hv
   unfold elemAV aggTy
   cases fuel with
   | zero => exact v3.elim
   | succ n =>
     simp only [HasTy] at v3
     cases hu : P.underlying t with
     | none => simp [hu] at hc
     | some de =>
       rw [hu] at v3 hc hv
       cases de <;> simp at hc
       case' bool => obtain ⟨b,rfl,_⟩ := v3
       case' int k => obtain ⟨b,rfl,_⟩ := v3
       case' string => obtain ⟨b,rfl,_⟩ := v3
       case' slice e => rcases v3 with ⟨rfl,_⟩ | ⟨xs,_,_,rfl,_⟩
       all_goals simp only [Bool.false_eq_true,if_false,if_true,List.headD]
       all_goals first
         | rfl
         | (obtain ⟨cs,rfl,_⟩ := hv
            simp only [V]
            exact ⟨cs.toList,by simp,by simpa [Value.cells] using v1,by simpa [Value.cells] using v2⟩)
         | (have hna : v.cells = #[v] := by
              cases v <;> first | rfl | (simp [Cell.okWide,Cell.ok,hu] at hv)
            rw [hna] at v1
            simp only [VS] at v1
            obtain ⟨u,r,e,hv1,_⟩ := v1
            simp at e
            rw [e.1]; exact hv1)
theorem args_V {S:List TypeId} (hS:covS P S = true) : ∀ {ts:List TypeId} {vs:List Value} {ds:List (DataW H)} {ps:List MemPlace},(∀ t,t ∈ ts → t ∈ S) → (∀ (j:Nat) t v,ts[j]? = some t → vs[j]? = some v → Value.okWide P W .any base t v) → DataW.TrodAll enc P W 0 (fun _ => true) true ts vs ds ps →
   ∃ avs,VS (gh0 W) W avs vs ∧ avs.all noOwn = true ∧ ArgsTy P ts avs ds
 | [],[],[],_,_,_,_ => ⟨[],by simp [VS],rfl,.nil⟩
 | t :: ts,v :: vs,d :: ds,ps,ht,hv,⟨p,q,h1,h2,_⟩ => by
   obtain ⟨av,a1,a2,a3⟩ := arg_V hS (ht t (by simp)) (hv 0 t v rfl rfl) h1
   obtain ⟨avs,b1,b2,b3⟩ := args_V hS (fun x hx => ht x (by simp [hx])) (fun j t' v' a b => hv (j + 1) t' v' (by simpa using a) (by simpa using b)) h2
   exact ⟨av :: avs,by simp only [VS]; exact ⟨v,vs,rfl,a1,b1⟩,by simp [a2,b2],.cons a3 b3⟩
 | [],[],_ :: _,_,_,_,h => h.elim
 | [],_ :: _,_,_,_,_,h => h.elim
 | _ :: _,[],_,_,_,_,h => h.elim
 | _ :: _,_ :: _,[],_,_,_,h => h.elim
theorem trodAll_len : ∀ {ts:List TypeId} {vs:List Value} {ds:List (DataW H)} {ps:List MemPlace} {sp:Nat → Bool} {held:Bool},DataW.TrodAll enc P W base sp held ts vs ds ps → ds.length = ts.length ∧ vs.length = ts.length
 | [],[],[],_,_,_,_ => ⟨rfl,rfl⟩
 | t :: ts,v :: vs,d :: ds,_,_,_,⟨_,_,_,h,_⟩ => by
   obtain ⟨h1,h2⟩ := trodAll_len h; simp [h1,h2]
 | [],[],_ :: _,_,_,_,h => h.elim
 | [],_ :: _,_,_,_,_,h => h.elim
 | _ :: _,[],_,_,_,_,h => h.elim
 | _ :: _,_ :: _,[],_,_,_,h => h.elim
theorem args_back {W' : World} (hl:laidOutB P = true) (hb:RowKit.Below W.heap.size W W') : ∀ {ts:List TypeId} {vs:List Value} {ds:List (DataW H)} {ps:List MemPlace},(∀ t,t ∈ ts → P.readableRec t = true ∧ t < P.types.size) → DataW.TrodAll enc P W 0 (fun _ => true) true ts vs ds ps → DataW.TrodAll enc P W' 0 (fun b => decide (b < W.heap.size)) true ts vs ds ps
 | [],[],[],_,_,h => h
 | t :: ts,v :: vs,d :: ds,ps,ht,⟨p,q,h1,h2,h3⟩ => by
   obtain ⟨r1,r2⟩ := ht t (by simp)
   refine ⟨p,q,RowKit.Below.trod hl r1 r2 h1 hb ?_,args_back hl hb (fun x hx => ht x (by simp [hx])) h2,h3⟩
   obtain ⟨m,hm⟩ := h1
   exact DataW.trod_lt m _ _ _ hm
 | [],[],_ :: _,_,_,h => h.elim
 | [],_ :: _,_,_,_,h => h.elim
 | _ :: _,[],_,_,_,h => h.elim
 | _ :: _,_ :: _,[],_,_,h => h.elim
end
end Go.Proofs.YtkofimhnehkdoaaGreatDoor.Rf
end
section
namespace Go.Proofs.YtkofimhnehkdoaaGreatDoor.Rf
section
variable {H:Type} {P:Program}
theorem HasTy.int {n:Nat} {t:TypeId} {k:IntKind} {cs:List AV} {d:DataW H} (hu:P.underlying t = some (.int k)) (h:HasTy P n t cs d) : ∃ m,cs = [.int k m] ∧ (Lit.int k m).wf = true := by
 cases n with
 | zero => exact h.elim
 | succ n => simp only [HasTy,hu] at h; obtain ⟨m,h1,h2,_⟩ := h; exact ⟨m,h1,h2⟩
theorem ArgTy.int {t:TypeId} {k:IntKind} {v:AV} {d:DataW H} (hu:P.underlying t = some (.int k)) (h:ArgTy P t v d) : ∃ m,v = .int k m ∧ (Lit.int k m).wf = true := by
 obtain ⟨n,cs,rfl,h⟩ := h
 obtain ⟨m,rfl,hm⟩ := h.int hu
 exact ⟨m,by unfold elemAV aggTy; rw [hu]; rfl,hm⟩
theorem ArgsTy.cons' {t:TypeId} {ts:List TypeId} {avs:List AV} {ds:List (DataW H)} (h:ArgsTy P (t :: ts) avs ds) : ∃ v d vs ds',avs = v :: vs ∧ ds = d :: ds' ∧ ArgTy P t v d ∧ ArgsTy P ts vs ds' := by
 cases h with
 | cons h1 h2 => exact ⟨_,_,_,_,rfl,rfl,h1,h2⟩
theorem ArgsTy.nil' {avs:List AV} {ds:List (DataW H)} (h:ArgsTy P [] avs ds) : avs = [] ∧ ds = [] := by
 cases h; exact ⟨rfl,rfl⟩
end
end Go.Proofs.YtkofimhnehkdoaaGreatDoor.Rf
end
section
namespace Go.Proofs.YtkofimhnehkdoaaGreatDoor.Rf
inductive IT where
 | leaf
 | node (k:Nat) (fn:IFun) (l r:IT)
def IT.get : IT → Nat → Option IFun
 | .leaf,_ => none
 | .node k fn l r,f => bif Nat.beq f k then some fn else bif Nat.blt f k then l.get f else r.get f
def IT.all (p:Nat → IFun → Bool) : IT → Bool
 | .leaf => true
 | .node k fn l r => p k fn && (l.all p && r.all p)
theorem IT.all_get {p:Nat → IFun → Bool} : ∀ {t:IT},t.all p = true → ∀ {f fn},t.get f = some fn → p f fn = true
 | .leaf,_,f,fn,h => by simp [IT.get] at h
 | .node k g l r,ha,f,fn,h => by
   simp only [IT.all,Bool.and_eq_true] at ha
   simp only [IT.get] at h
   cases hk : Nat.beq f k with
   | true =>
     rw [hk] at h; simp only [cond_true] at h; cases h
     rw [Nat.eq_of_beq_eq_true hk]; exact ha.1
   | false =>
     rw [hk] at h; simp only [cond_false] at h
     cases hb : Nat.blt f k with
     | true => rw [hb] at h; exact IT.all_get ha.2.1 h
     | false => rw [hb] at h; exact IT.all_get ha.2.2 h
end Go.Proofs.YtkofimhnehkdoaaGreatDoor.Rf
end
