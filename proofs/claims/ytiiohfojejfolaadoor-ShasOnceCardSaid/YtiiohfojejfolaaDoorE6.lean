/-
  What is proved: what ShasOrder answers, for any arguments that are numbers of their kinds: true.
  Conditions: none.
-/
import Derived.Test.YtiiohfojejfolaaDoorE5
set_option linter.unusedVariables false
set_option linter.unusedSimpArgs false
namespace Go.Proofs.YtiiohfojejfolaaDoor
open Go Go.Ev Go.Proofs

theorem wf_u8 {m : Int} (h : (Lit.int .u8 m).wf = true) : 0 ≤ m ∧ m < 256 := by
  simp [Lit.wf, IntKind.min, IntKind.max, IntKind.signed, IntKind.bits] at h
  omega
theorem byte_lt {m n : Int} (h1 : 0 ≤ m ∧ m < 256) (h2 : 0 ≤ n ∧ n < 256) : (m.toNat.toUInt8 < n.toNat.toUInt8) ↔ m < n := by
  rw [UInt8.lt_iff_toNat_lt]
  have e1 : m.toNat.toUInt8.toNat = m.toNat := by simp [Nat.toUInt8, UInt8.toNat_ofNat']; omega
  have e2 : n.toNat.toUInt8.toNat = n.toNat := by simp [Nat.toUInt8, UInt8.toNat_ofNat']; omega
  rw [e1, e2]
  omega
theorem byte_inj {m n : Int} (h1 : 0 ≤ m ∧ m < 256) (h2 : 0 ≤ n ∧ n < 256) (h : m.toNat.toUInt8 = n.toNat.toUInt8) : m = n := by
  have e1 : m.toNat.toUInt8.toNat = m.toNat := by simp [Nat.toUInt8, UInt8.toNat_ofNat']; omega
  have e2 : n.toNat.toUInt8.toNat = n.toNat := by simp [Nat.toUInt8, UInt8.toNat_ofNat']; omega
  have := congrArg UInt8.toNat h
  omega
theorem byteL_bl32 (b : Nat → Int) : byteL (bl32 b) = (List.range 32).map fun i => (b i).toNat.toUInt8 := by unfold byteL bl32; rw [List.map_map]; rfl
theorem byteL_zf (b c : Nat → Int) (k : Nat) : byteL (bl32 (zf b c k)) = (byteL (bl32 b)).set k (c k).toNat.toUInt8 := by
  rw [byteL_bl32, byteL_bl32]
  apply List.ext_getElem
  · simp
  · intro i h1 h2
    simp only [List.getElem_map, List.getElem_range, List.getElem_set, zf]
    by_cases h : k = i
    · subst h; simp
    · have : ¬ i = k := fun h' => h h'.symm
      simp [h, this]

theorem c4_true (l0 : List Int) (len0 : l0.length = 32) (w0 : ∀ m ∈ l0, (Lit.int .u8 m).wf = true) (l1 : List Int) (len1 : l1.length = 32) (w1 : ∀ m ∈ l1, (Lit.int .u8 m).wf = true) (n2 : Int) (w2 : (Lit.int .i64 n2).wf = true) :
    c4 [.agg (l0.map (V.int .u8)), .agg (l1.map (V.int .u8)), .int .i64 n2] [] = some (.bool true, [], []) := by
  have hb : ∀ l : List Int, l.length = 32 → l.map (V.int .u8) = bl32 fun i => l.getD i 0 := fun l hl => by
    conv => lhs; rw [list_range hl 0]
    unfold bl32
    rw [List.map_map]
    rfl
  have hr : ∀ l : List Int, l.length = 32 → (∀ m ∈ l, (Lit.int .u8 m).wf = true) → ∀ k, k < 32 → 0 ≤ l.getD k 0 ∧ l.getD k 0 < 256 := fun l hl hw k hk => by
    have : l.getD k 0 ∈ l := by
      rw [List.getD_eq_getElem?_getD, List.getElem?_eq_getElem (by omega)]
      exact List.getElem_mem (by omega)
    exact wf_u8 (hw _ this)
  rw [hb l0 len0, hb l1 len1]
  generalize hbd : (fun i => l0.getD i 0) = b
  generalize hcd : (fun i => l1.getD i 0) = c
  have rb : ∀ k, k < 32 → 0 ≤ b k ∧ b k < 256 := fun k hk => by rw [← hbd]; exact hr l0 len0 w0 k hk
  have rc : ∀ k, k < 32 → 0 ≤ c k ∧ c k < 256 := fun k hk => by rw [← hcd]; exact hr l1 len1 w1 k hk
  have hlen : ∀ b : Nat → Int, (byteL (bl32 b)).length = 32 := fun b => by rw [byteL_bl32]; simp
  have hat : ∀ (b : Nat → Int) (k : Nat) (h : k < (byteL (bl32 b)).length), (byteL (bl32 b))[k] = (b k).toNat.toUInt8 := fun b k h => by
    simp only [byteL_bl32, List.getElem_map, List.getElem_range]
  refine run4 b c n2 ?_ ?_ ?_ ?_
  · intro k hk
    unfold e1
    rw [cmpV_lt, byteL_zf, (less_set _ k _ (by rw [hlen]; exact hk)).1, hat]
    simp [byte_lt (rb k hk) (rc k hk)]
  · intro k hk
    unfold e2
    rw [cmpV_lt, byteL_zf, (less_set _ k _ (by rw [hlen]; exact hk)).2, hat]
    simp [byte_lt (rc k hk) (rb k hk)]
  · unfold lxy
    rw [cmpV_lt, cmpV_lt]
    exact less_asymm _ _
  · unfold lxy
    rw [cmpV_lt, cmpV_lt]
    intro h1 h2
    have h := less_total _ _ (by rw [hlen, hlen]) h1 h2
    rw [byteL_bl32, byteL_bl32] at h
    unfold bl32
    apply List.map_congr_left
    intro i hi
    have hi' : i < 32 := by simpa using hi
    have := List.map_inj_left.1 h i hi
    rw [byte_inj (rb i hi') (rc i hi') this]
end Go.Proofs.YtiiohfojejfolaaDoor
