/- works of chapter 6: its examples. -/
import Derived.Test.YtdpbkpfdokgolaaDoorR9
set_option linter.unusedVariables false
set_option linter.unusedSimpArgs false
namespace Go.Proofs.YtdpbkpfdokgolaaDoor
open Go.RowKit Go.Proofs.YtdpbkpfdokgolaaDoorW.PrintWords Go.Sort

/-- A row of whole numbers of one's own, read. -/
theorem own_ints {w : World} {B e : Nat} {k : IntKind} {v : Value} {xs : List Int} (h : w.ownsRow B e 1 v xs.length (xs.map (Value.int k))) : ∃ A c, v = .slice A xs.length c ∧ xs.length ≤ c ∧ (Kd.int k).C w A xs.length xs :=
  Kd.R_reads (d := Kd.int k) (e := e) (base := B) (ok := fun _ => True) (Kd.R_of_own (enc := Value.int k) (h1 := fun _ => rfl) h (fun _ _ => trivial))

/-- A literal of whole numbers, read. -/
theorem int_lit (w : World) (e : Nat) (l : List Int) (hl : l.length ≤ 9223372036854775807) : (Kd.int .i64).C (w.alloc (.cells (l.map (Value.int .i64)).toArray e)) (some ⟨w.heap.size, 0, none⟩) l.length l := by
  have h : (w.alloc (.cells (l.map (Value.int .i64)).toArray e)).ownsRow 0 e 1 (.slice (some ⟨w.heap.size, 0, none⟩) l.length l.length) l.length (l.map (Value.int .i64)) := by
    refine ⟨by simp, .inr ⟨w.heap.size, l.length, (l.map (Value.int .i64)).toArray, rfl, Nat.zero_le _, heap_alloc_new w _, Nat.le_refl _, by unfold maxLen; omega, by simp, ?_⟩⟩
    show (l.map (Value.int .i64)).take _ = _
    rw [List.take_of_length_le (by simp)]
  obtain ⟨A', c', e', _, hc⟩ := own_ints h
  cases e'
  exact hc

theorem chain_all {rs : List Pt} {q : Int} (h : ∀ x ∈ rs, x.c = q) (h0 : 0 < rs.length) (i : Nat) : chainAt rs i = q := by
  have hlt : i % rs.length < rs.length := Nat.mod_lt _ h0
  unfold chainAt
  simp only [List.getD, List.getElem?_eq_getElem hlt, Option.getD_some]
  exact h _ (List.getElem_mem _)
theorem ring_mem {ws : List Int} {x : Pt} (h : x ∈ ringOf ws) : ∃ c, c < ws.length ∧ x.c = c ∧ 0 < wAt ws c := by
  rw [ringOf, List.mem_mergeSort, ptsW, preP, List.mem_flatMap] at h
  obtain ⟨c, hc, hx⟩ := h
  rw [rowP, List.mem_map] at hx
  obtain ⟨i, hi, rfl⟩ := hx
  rw [List.mem_range] at hc hi
  exact ⟨c, hc, rfl, by omega⟩
theorem ex1 : MayW [1] := by decide
theorem ex2 : MayW [0, 3] := by decide
theorem ex3 : errW' [0, 0] = 1 := by decide
theorem ex1c (i : Nat) : chainAt (ringOf [1]) i = 0 := chain_all (fun x hx => by obtain ⟨c, hc, e, _⟩ := ring_mem hx; simp at hc; subst hc; simpa using e) (ring_pos ex1) i
theorem ex2c (i : Nat) : chainAt (ringOf [0, 3]) i = 1 := chain_all (fun x hx => by
  obtain ⟨c, hc, e, hp⟩ := ring_mem hx
  match c, hc with
  | 0, _ => simp [wAt] at hp
  | 1, _ => simpa using e) (ring_pos ex2) i
set_option maxRecDepth 100000 in
theorem ex4 : (hashOf ⟨#[]⟩ == hashOf ⟨#[97]⟩) = false := by decide +kernel

set_option maxRecDepth 20000 in
set_option maxHeartbeats 2000000 in
theorem works06_any (w : World) (htab : Lib.TabIs Tryd.prog w "internal/strconv.uint64pow10" .u64 Lib.pow10Tab) : Calls Tryd.prog 16 #[] w fun e w' => e = .returned (.bool true) ∧ Below w.heap.size w w' := by
  have HT := Lib.hid (Lib.tabBelow_of_tabIs htab)
  have H4 := Lib.hid ex4
  clear htab
  go_enter Tryd.func16, Tryd.ntmps16
  go_wp2_with fail
  have hb0 : Below w.heap.size w (w.alloc (.cells ([1].map (Value.int .i64)).toArray 3)) := (Below.refl _ w).alloc (Nat.le_refl _) _
  refine (ofW_any (some ⟨w.heap.size, 0, none⟩) 1 [1] ⟨#[107]⟩ _ (int_lit w 3 [1] (by decide)) (by decide) (by decide) (HT.out.on hb0).here).mono ?_
  rintro e w1 (⟨hno, _⟩ | ⟨_, i, rfl, _, hb⟩)
  · exact absurd ex1 hno
  rw [ex1c]
  have HB1 : Hid (Below w.heap.size w w1) := hb0.trans (hb.mono (by simp))
  clear hb0 hb
  go_wp2_with fail
  have hb0 : Below w.heap.size w (w1.alloc (.cells ([0, 3].map (Value.int .i64)).toArray 3)) := HB1.out.alloc HB1.out.size _
  refine (ofW_any (some ⟨w1.heap.size, 0, none⟩) 2 [0, 3] ⟨#[107]⟩ _ (int_lit w1 3 [0, 3] (by decide)) (by decide) (by decide) (HT.out.on hb0).here).mono ?_
  rintro e w2 (⟨hno, _⟩ | ⟨_, i2, rfl, _, hb⟩)
  · exact absurd ex2 hno
  rw [ex2c]
  have HB2 : Hid (Below w.heap.size w w2) := hb0.trans (hb.mono (by have := HB1.out.size; simp; omega))
  clear hb0 hb
  go_wp2_with fail
  have hb0 : Below w.heap.size w (w2.alloc (.cells ([0, 0].map (Value.int .i64)).toArray 3)) := HB2.out.alloc HB2.out.size _
  have hck := check_any (some ⟨w2.heap.size, 0, none⟩) 2 [0, 0] _ (int_lit w2 3 [0, 0] (by decide)) (by decide)
  rw [ex3] at hck
  refine hck.mono ?_
  rintro e w3 ⟨rfl, hw3⟩
  have HB3 : Hid (Below w.heap.size w w3) := by rw [hw3]; exact hb0
  clear hb0 hck hw3
  go_wp2_with fail
  refine (hash_any ⟨#[]⟩ w3 (by decide)).mono ?_
  rintro e w4 ⟨rfl, q4, hw4⟩
  have HB4 : Hid (Below w.heap.size w w4) := by rw [hw4]; exact HB3.out.trans (drawsBelow _ _ _)
  clear hw4
  go_wp2_with fail
  refine (hash_any ⟨#[97]⟩ w4 (by decide)).mono ?_
  rintro e w5 ⟨rfl, q5, hw5⟩
  have HB5 : Hid (Below w.heap.size w w5) := by rw [hw5]; exact HB4.out.trans (drawsBelow _ _ _)
  clear hw5
  have h4 := H4.out
  generalize hashOf ⟨#[]⟩ = x4 at h4 ⊢
  generalize hashOf ⟨#[97]⟩ = x5 at h4 ⊢
  have h5 : (x4 != x5) = true := by simpa [bne] using h4
  have H5 := Lib.hid h5
  clear h4 h5
  go_wp2
  go_ret
  exact ⟨by rw [H5.out]; rfl, HB5.out⟩
end Go.Proofs.YtdpbkpfdokgolaaDoor
