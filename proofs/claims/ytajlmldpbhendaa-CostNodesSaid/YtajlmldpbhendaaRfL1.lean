/- The laws on plain values: nodes' costs. -/
import Derived.Test.YtajlmldpbhendaaRfMo
import Derived.Test.YtajlmldpbhendaaRfC
import Derived.KernelRfl
set_option linter.unusedSimpArgs false
set_option linter.unusedVariables false
namespace Go.Proofs.Ytajlmldpbhendaa.Rf
/-- From some round on the call answers v and leaves the heap alone. -/
def Ans (IP : IProg) (f : Nat) (args : List AV) (v : AV) : Prop := ∃ k0, ∀ k, k0 ≤ k → ∀ hp lo q, (run G0 IP k).1 f args hp lo q = some (.ret v hp)

theorem run_call (IP : IProg) (k : Nat) : (run G0 IP (k + 1)).1 = callBody G0 IP (run G0 IP k).1 (run G0 IP k).2 := rfl

attribute [simp] callBody evalC evalDraw evalOps evalOp opd opds wanted St.put ret1 Fr.get Fr.set Fr.keep Fr.keepOk AV.loose AV.cp AV.cpA AV.cp1 evalRess evalRes1 AV.plain plains tupOf AV.closed AV.closedL enter memOk behind behindPut cut put ofCells binAV intBin strBin shiftBin eqAV unAV bound AV.spread AV.cells okSize buildCells fillElems

@[simp] theorem cp1_int (k : IntKind) : AV.cp1 ∘ AV.int k = AV.int k := rfl
theorem cell_one {l : List Int} {k : IntKind} {n : Nat} (h : n < l.length) : ((l.map (AV.int k)).drop n).take 1 = [AV.int k (l.getD n 0)] := by
  rw [List.drop_eq_getElem_cons (by simpa using h)]
  simp [h]

def clampI (n : Int) : Int := (fun m => if (4611686018427387904 : Int) < m then 4611686018427387904 else m) (if (0 : Int) > n then 0 else n)
theorem clamp_ans (n : Int) : Ans IP 44 [.int .i64 n] (.int .i64 (clampI n)) := by
  refine ⟨1, fun k hk hp lo q => ?_⟩
  obtain ⟨k, rfl⟩ : ∃ j, k = j + 1 := ⟨k - 1, by omega⟩
  rw [run_call]
  simp [IP, i44, clampI]
def addI (a b : Int) : Int := if clampI a > IntKind.wrap .i64 (4611686018427387904 - clampI b) then 4611686018427387904 else IntKind.wrap .i64 (clampI a + clampI b)
theorem add_ans (a b : Int) : Ans IP 17 [.int .i64 a, .int .i64 b] (.int .i64 (addI a b)) := by
  obtain ⟨k1, h1⟩ := clamp_ans a
  obtain ⟨k2, h2⟩ := clamp_ans b
  refine ⟨k1 + k2 + 1, fun k hk hp lo q => ?_⟩
  obtain ⟨k, rfl⟩ : ∃ j, k = j + 1 := ⟨k - 1, by omega⟩
  rw [run_call]
  have e1 := h1 k (by omega)
  have e2 := h2 k (by omega)
  by_cases hc : clampI a > IntKind.wrap .i64 (4611686018427387904 - clampI b) <;> simp [IP, i17, e1, e2, addI, hc] <;> simp at hc <;> simp [hc]
theorem add2_ans (a b : Int) : Ans IP 18 [.int .i64 a, .int .i64 b] (.int .i64 (addI a b)) := by
  refine ⟨1, fun k hk hp lo q => ?_⟩
  obtain ⟨k, rfl⟩ : ∃ j, k = j + 1 := ⟨k - 1, by omega⟩
  rw [run_call]
  have ea : (if (4611686018427387904 : Int) < (if (0 : Int) > a then 0 else a) then 4611686018427387904 else (if (0 : Int) > a then 0 else a)) = clampI a := rfl
  have eb : (if (4611686018427387904 : Int) < (if (0 : Int) > b then 0 else b) then 4611686018427387904 else (if (0 : Int) > b then 0 else b)) = clampI b := rfl
  simp only [gt_iff_lt] at ea eb
  by_cases hc : clampI a > IntKind.wrap .i64 (4611686018427387904 - clampI b) <;> simp [IP, i18, ea, eb, addI, hc] <;> simp at hc <;> simp [hc]
def nodeI (l : List Int) (op : Int) : Int := if op < 1 ∨ op > 26 then 1 else (fun m => if (1048576 : Int) < m then 1048576 else m) (if (1 : Int) > l.getD op.toNat 0 then 1 else l.getD op.toNat 0)
def costs (l : List Int) : AV := .agg (l.map (AV.int .i64))
theorem cp1_ints (l : List Int) : (l.map (AV.int .i64)).map AV.cp1 = l.map (AV.int .i64) := by
  rw [List.map_map]; rfl
theorem node_ans (l : List Int) (hl : l.length = 32) (op : Int) : Ans IP 15 [costs l, .int .i64 op] (.int .i64 (nodeI l op)) := by
  refine ⟨1, fun k hk hp lo q => ?_⟩
  obtain ⟨k, rfl⟩ : ∃ j, k = j + 1 := ⟨k - 1, by omega⟩
  rw [run_call]
  by_cases h1 : op < 1
  · simp [IP, i15, costs, cp1_ints, nodeI, h1]
  · by_cases h2 : op > 26
    · have h2' : (26 : Int) < op := h2
      simp [IP, i15, costs, cp1_ints, nodeI, h1, h2']
    · have h2' : ¬ (26 : Int) < op := h2
      have h3 : 0 ≤ op := by omega
      have h4 : op < 32 := by omega
      have h5 : op.toNat + 1 ≤ l.length := by omega
      have h7 := cell_one (l := l) (k := .i64) (n := op.toNat) (by omega)
      simp [IP, i15, costs, nodeI, h1, h2', h3, h4, h5, h7]
theorem node2_ans (l : List Int) (hl : l.length = 32) (op : Int) : Ans IP 16 [costs l, .int .i64 op] (.int .i64 (nodeI l op)) := by
  refine ⟨1, fun k hk hp lo q => ?_⟩
  obtain ⟨k, rfl⟩ : ∃ j, k = j + 1 := ⟨k - 1, by omega⟩
  rw [run_call]
  by_cases h1 : op < 1
  · simp [IP, i16, costs, cp1_ints, nodeI, h1]
  · by_cases h2 : op > 26
    · have h2' : (26 : Int) < op := h2
      simp [IP, i16, costs, cp1_ints, nodeI, h1, h2']
    · have h2' : ¬ (26 : Int) < op := h2
      have h3 : 0 ≤ op := by omega
      have h4 : op < 32 := by omega
      have h5 : op.toNat + 1 ≤ l.length := by omega
      have h7 := cell_one (l := l) (k := .i64) (n := op.toNat) (by omega)
      simp [IP, i16, costs, nodeI, h1, h2', h3, h4, h5, h7]

def ones : List Int := List.replicate 32 1
theorem uniform_run (k : Nat) (hk : 100 ≤ k) (q : Bool) : (run G0 IP k).1 19 [] [] 0 q = some (.ret (costs ones) []) := by
  have h : ∀ q, (run G0 IP 100).1 19 [] [] 0 q = some (.ret (costs ones) []) := fun q => by
    cases q
    · kernel_rfl
    · kernel_rfl
  exact (run_mono hk).1 _ _ _ _ _ _ (h q)
theorem lives_run (k : Nat) (hk : 100 ≤ k) (q : Bool) : (run G0 IP k).1 20 [] [] 0 q = some (.ret (.bool true) []) := by
  have h : ∀ q, (run G0 IP 100).1 20 [] [] 0 q = some (.ret (.bool true) []) := fun q => by
    cases q
    · kernel_rfl
    · kernel_rfl
  exact (run_mono hk).1 _ _ _ _ _ _ (h q)
theorem node_ones (op : Int) : nodeI ones op = 1 := by
  unfold nodeI
  split
  · rfl
  · rename_i h
    have h1 : op.toNat < 32 := by omega
    have h2 : ∀ n, n < 32 → ones.getD n 0 = 1 := by decide
    have := h2 _ h1
    rw [this]; rfl
/-- The first law: whatever the costs, the operator and the two numbers. -/
theorem costNodes_run (l : List Int) (hl : l.length = 32) (op a b : Int) : ∃ k q hp, (run G0 IP k).1 3 [costs l, .int .i64 op, .agg [.int .i64 a, .int .i64 b]] [] 0 q = some (.ret (.bool true) hp) := by
  obtain ⟨k1, h1⟩ := node_ans l hl op
  obtain ⟨k2, h2⟩ := node2_ans l hl op
  obtain ⟨k3, h3⟩ := add_ans a b
  obtain ⟨k4, h4⟩ := add2_ans a b
  obtain ⟨k5, h5⟩ := node_ans ones rfl op
  refine ⟨k1 + k2 + k3 + k4 + k5 + 100 + 1, false, [], ?_⟩
  generalize hk : k1 + k2 + k3 + k4 + k5 + 100 = k
  have e1 := h1 k (by omega)
  have e2 := h2 k (by omega)
  have e3 := h3 k (by omega)
  have e4 := h4 k (by omega)
  have e5 := h5 k (by omega)
  have e6 := uniform_run k (by omega)
  have e7 := lives_run k (by omega)
  have e8 := node_ones op
  rw [run_call]
  have e9 : List.take 32 (l.map (AV.int .i64)) = l.map (AV.int .i64) := List.take_of_length_le (by simp [hl])
  simp only [costs] at e1 e2 e5 e6 ⊢
  generalize hon : List.map (AV.int .i64) ones = on at e5 e6
  simp [IP, i3, hl, e1, e2, e3, e4, e5, e6, e7, e8, e9]
end Go.Proofs.Ytajlmldpbhendaa.Rf
