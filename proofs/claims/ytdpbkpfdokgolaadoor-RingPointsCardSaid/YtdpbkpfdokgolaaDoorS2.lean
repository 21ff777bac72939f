/- How many points each chain has. -/
import Derived.Test.YtdpbkpfdokgolaaDoorS1
set_option linter.unusedVariables false
set_option linter.unusedSimpArgs false
namespace Go.Proofs.YtdpbkpfdokgolaaDoor
open Go.RowKit Go.Proofs.YtdpbkpfdokgolaaDoorW.PrintWords Go.Sort

def cnt (rs : List Pt) (k c : Nat) : Nat := (rs.take k).countP fun x => x.c == (c : Int)
def cnts (rs : List Pt) (k m : Nat) : List Int := (List.range m).map fun c => (cnt rs k c : Int)
theorem cnts_len (rs : List Pt) (k m : Nat) : (cnts rs k m).length = m := by simp [cnts]
theorem cnts_get (rs : List Pt) (k m q : Nat) (hq : q < m) : (cnts rs k m).getD q 0 = cnt rs k q := by simp [cnts, List.getD, hq]
theorem cnts_zero (rs : List Pt) (m : Nat) : cnts rs 0 m = List.replicate m 0 := by
  apply List.ext_getElem
  · simp [cnts]
  · intro i h1 h2
    simp [cnts, cnt]
theorem cnt_le (rs : List Pt) (k c : Nat) : cnt rs k c ≤ k := Nat.le_trans List.countP_le_length (by rw [List.length_take]; omega)
theorem cnt_succ (rs : List Pt) (k c : Nat) (hk : k < rs.length) : cnt rs (k + 1) c = cnt rs k c + if (rs.getD k default).c = c then 1 else 0 := by
  unfold cnt
  rw [List.take_succ_eq_append_getElem hk, List.countP_append]
  simp [List.getD, List.getElem?_eq_getElem hk, List.countP_cons]
theorem cnts_succ (rs : List Pt) (k m q : Nat) (hk : k < rs.length) (hq : (rs.getD k default).c = q) : cnts rs (k + 1) m = (cnts rs k m).set q (cnt rs k q + 1) := by
  apply List.ext_getElem
  · simp [cnts]
  · intro i h1 h2
    rw [List.getElem_set]
    simp only [cnts, List.getElem_map, List.getElem_range]
    rw [cnt_succ rs k i hk, hq]
    by_cases hi : q = i
    · subst hi; simp
    · rw [if_neg (by omega), if_neg hi]; simp
theorem row_count (q n c : Nat) : (rowP q n).countP (fun x => x.c == (c : Int)) = if q = c then n else 0 := by
  unfold rowP
  rw [List.countP_map]
  by_cases h : q = c
  · rw [if_pos h]
    have : ((fun x : Pt => x.c == (c : Int)) ∘ ptAt q) = fun _ => true := by
      funext i
      simp [ptAt, h]
    rw [this]
    simp
  · rw [if_neg h, List.countP_eq_zero]
    intro i _
    simp [ptAt]
    omega
theorem pre_count (ws : List Int) (c : Nat) : ∀ k, (preP ws k).countP (fun x => x.c == (c : Int)) = if c < k then wAt ws c else 0
  | 0 => by simp [preP]
  | k + 1 => by
    rw [preP_succ, List.countP_append, pre_count ws c k, row_count]
    by_cases h1 : c < k
    · rw [if_pos h1, if_neg (by omega), if_pos (by omega)]; omega
    · by_cases h2 : k = c
      · subst h2; rw [if_neg h1, if_pos rfl, if_pos (by omega)]; omega
      · rw [if_neg h1, if_neg h2, if_neg (by omega)]
theorem cnt_end {ws : List Int} (h : MayW ws) (c : Nat) (hc : c < ws.length) : (cnt (ringOf ws) (ringOf ws).length c : Int) = ws.getD c 0 := by
  have h1 : cnt (ringOf ws) (ringOf ws).length c = wAt ws c := by
    unfold cnt
    rw [List.take_length, ringOf, (List.mergeSort_perm _ _).countP_eq, ptsW, pre_count, if_pos hc]
  rw [h1]
  have h2 := h.2.2.1 (ws.getD c 0) (by simp [List.getD, hc])
  unfold wAt
  omega
theorem ring_chain {ws : List Int} (k : Nat) (hk : k < (ringOf ws).length) : ∃ q : Nat, ((ringOf ws).getD k default).c = q ∧ q < ws.length := by
  have hm : (ringOf ws).getD k default ∈ ringOf ws := by simp [List.getD, hk]
  obtain ⟨q, h1, h2, _⟩ := ring_mem hm
  exact ⟨q, h2, h1⟩

/-- What the law's walk has found of the key's place behind k points. -/
def FoundR (rs : List Pt) (h : Int) (k : Nat) (want found : Value) : Prop :=
  (found = .bool false ∧ want = .int .i64 (rs.getD 0 default).c ∧ ∀ t, t < k → (rs.getD t default).at_ < h) ∨
  (found = .bool true ∧ ∃ t, t < k ∧ want = .int .i64 (rs.getD t default).c ∧ h ≤ (rs.getD t default).at_ ∧ ∀ u, u < t → (rs.getD u default).at_ < h)
theorem found_end {rs : List Pt} {h : Int} {want found : Value} (hf : FoundR rs h rs.length want found) {i : Nat} (hc : Cut rs h i) : want = .int .i64 (chainAt rs i) := by
  rcases hf with ⟨_, rfl, h1⟩ | ⟨_, t, ht, rfl, h1, h2⟩
  · have : i = rs.length := by
      rcases Nat.lt_or_ge i rs.length with hlt | hge
      · have a := h1 i hlt
        have b := hc.2.2 i (Nat.le_refl _) hlt
        omega
      · have := hc.1; omega
    subst this
    rw [chainAt, Nat.mod_self]
  · have : i = t := by
      rcases Nat.lt_trichotomy i t with hlt | he | hgt
      · have a := h2 i hlt
        have b := hc.2.2 i (Nat.le_refl _) (by omega)
        omega
      · exact he
      · have a := hc.2.1 t hgt
        omega
    subst this
    rw [chainAt, Nat.mod_eq_of_lt ht]
end Go.Proofs.YtdpbkpfdokgolaaDoor
