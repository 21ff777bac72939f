/-
  Words for the walks of this seat: rows of elements whose cells are plain numbers and strings, kept in order; the library's sort over such a row.
-/
import Derived.Test.YtnpiphlmdjmfeaaWWords
import Derived.Shelf.SlSortCmp.NoneTotal
import Derived.WalkSpells
import Derived.WalkLawsBesides
import Derived.Lib.Hide
import Derived.StillTailTactics
set_option linter.unusedVariables false
set_option linter.unusedSimpArgs false
namespace Go.Proofs.Ytnpiphlmdjmfeaa
open Go.RowKit Go.Proofs.YtnpiphlmdjmfeaaW.PrintWords

/-! ### Elements whose cells are a plain list of values -/
section
variable {α : Type}
/-- The kind of elements that are just the cells 'enc x'. -/
def flatKd (enc : α → List Value) (k : Nat) (hk : ∀ x, (enc x).length = k) (h1 : ∀ x, ∀ v ∈ enc x, v.oneCell' = true) : Kd α where
  sz := k
  E := []
  K := fun _ x cs => cs = enc x
  M := fun _ _ _ x cs => cs = enc x
  K_len := fun h => by rw [h]; exact hk _
  K_one := fun h u hu => by rw [h] at hu; exact h1 _ u hu
  K_below := fun _ h => h
  K_of_M := fun h => h
  M_mono := fun _ h => h
  M_bound := fun h => h
  M_move := fun _ h => h
  M_lower := fun _ h => h

variable {enc : α → List Value} {k : Nat} {hk : ∀ x, (enc x).length = k} {h1 : ∀ x, ∀ v ∈ enc x, v.oneCell' = true}

theorem flat_get {xs : List α} (hk : ∀ x, (enc x).length = k) (z : α) : ∀ (i j : Nat), i < xs.length → j < k → (xs.flatMap enc)[i * k + j]? = (enc (xs.getD i z))[j]? := by
  induction xs with
  | nil => intro i j hi; simp at hi
  | cons x r ih =>
    intro i j hi hj
    rw [List.flatMap_cons]
    cases i with
    | zero => rw [List.getElem?_append_left (by rw [hk]; omega)]; simp
    | succ i =>
      rw [List.getElem?_append_right (by rw [hk, Nat.add_mul, Nat.one_mul]; omega), hk]
      have e : (i + 1) * k + j - k = i * k + j := by rw [Nat.add_mul, Nat.one_mul]; omega
      rw [e, ih i j (by simpa using hi) hj]
      simp

theorem flat_len {xs : List α} (hk : ∀ x, (enc x).length = k) : (xs.flatMap enc).length = xs.length * k := by
  induction xs with
  | nil => simp
  | cons x r ih => rw [List.flatMap_cons, List.length_append, ih, hk, List.length_cons, Nat.add_mul, Nat.one_mul]; omega

/-- A row that is owned, whose cells are its elements' in line, as a row of the kind. -/
theorem flat_reps {xs : List α} (hk : ∀ x, (enc x).length = k) : Reps (fun x cs => cs = enc x) k xs (xs.flatMap enc) := by
  refine ⟨flat_len hk, fun j p hj => ?_⟩
  induction xs generalizing j with
  | nil => simp at hj
  | cons x r ih =>
    rw [List.flatMap_cons]
    cases j with
    | zero =>
      obtain rfl : x = p := by simpa using hj
      rw [Nat.zero_mul, List.drop_zero, List.take_append_of_le_length (by rw [hk]; exact Nat.le_refl _), ← hk x, List.take_length]
    | succ j =>
      have e : (j + 1) * k = (enc x).length + j * k := by rw [hk, Nat.add_mul, Nat.one_mul, Nat.add_comm]
      rw [e, List.drop_append, ← ih j (by simpa using hj)]
      rw [List.drop_eq_nil_of_le (by omega)]
      simp

theorem flat_of_reps {xs : List α} (hk : ∀ x, (enc x).length = k) {inner : List Value} (h : Reps (fun x cs => cs = enc x) k xs inner) : inner = xs.flatMap enc := by
  have h2 := flat_reps (xs := xs) hk
  apply List.ext_getElem?
  intro t
  rcases Nat.eq_zero_or_pos k with h0 | h0
  · have e1 := h.1; have e2 := h2.1
    rw [h0, Nat.mul_zero] at e1 e2
    rw [List.getElem?_eq_none (by omega), List.getElem?_eq_none (by omega)]
  rcases Nat.lt_or_ge t (xs.length * k) with ht | ht
  · have hj : t / k < xs.length := (Nat.div_lt_iff_lt_mul h0).2 ht
    have hm : t % k < k := Nat.mod_lt _ h0
    have e := Nat.div_add_mod t k
    rw [Nat.mul_comm] at e
    have a := h.2 (t / k) _ (List.getElem?_eq_getElem hj)
    have b := h2.2 (t / k) _ (List.getElem?_eq_getElem hj)
    have a' : ((inner.drop (t / k * k)).take k)[t % k]? = (((xs.flatMap enc).drop (t / k * k)).take k)[t % k]? := by rw [a, b]
    rw [List.getElem?_take, List.getElem?_take, if_pos hm, if_pos hm, List.getElem?_drop, List.getElem?_drop, e] at a'
    exact a'
  · rw [List.getElem?_eq_none (by rw [h.1]; exact ht), List.getElem?_eq_none (by rw [h2.1]; exact ht)]

theorem flat_R_own {e : Nat} {w : World} {base : Nat} {ok : Nat → Prop} {v : Value} {xs : List α} (h : (flatKd enc k hk h1).R e w base ok v xs) : w.ownsRow base e k v xs.length (xs.flatMap enc) := by
  obtain ⟨_, inner, ho, hr⟩ := h
  rw [← flat_of_reps hk hr]
  exact ho

theorem flat_own_R {e : Nat} {w : World} {base : Nat} {v : Value} {xs : List α} (h : w.ownsRow base e k v xs.length (xs.flatMap enc)) : (flatKd enc k hk h1).R e w base (fun _ => True) v xs :=
  ⟨fun _ _ => trivial, _, h, flat_reps hk⟩

/-- Element i's cells. -/
theorem flat_at {w : World} {A : Option Addr} {n : Nat} {xs : List α} (h : (flatKd enc k hk h1).C w A n xs) (z : α) (i : Int) (h0 : 0 ≤ i) (hi : i < n) :
    ∃ ad, A = some ad ∧ ∀ j u, (enc (xs.getD i.toNat z))[j]? = some u → w.cell? (ad.add (i.toNat * k + j)) = some u := by
  obtain ⟨ad, c, e, _, hK, hc⟩ := Kd.C_get h z i h0 hi
  have hK' : c = enc (xs.getD i.toNat z) := hK
  subst hK'
  exact ⟨ad, e, hc⟩
end

/-! ### Elements of a row of one's own: read, written, cut -/
section
variable {α : Type} {enc : α → List Value} {k : Nat}
theorem own_elem (hk : ∀ x, (enc x).length = k) {w : World} {base e g n cap : Nat} {xs : List α} (h : w.ownsRow base e k (.slice (some ⟨g, 0, none⟩) n cap) n (xs.flatMap enc)) (z : α) (i : Nat) (hi : i < xs.length) :
    ∀ j u, (enc (xs.getD i z))[j]? = some u → w.cell? ⟨g, i * k + j, none⟩ = some u ∧ w.frozen? ⟨g, i * k + j, none⟩ = false := by
  intro j u hu
  have hj : j < k := by
    have := (List.getElem?_eq_some_iff.1 hu).1
    rw [hk] at this
    exact this
  have h1 := flat_get hk z i j hi hj
  rw [hu] at h1
  have h2 := h.cells (g := g) rfl _ _ h1
  rw [add_plain] at h2
  obtain ⟨cells, hb⟩ := own_typed h g rfl
  exact ⟨h2, blk_frozen hb _⟩

theorem own_max {w : World} {base e n : Nat} {v : Value} {xs : List Value} (h : w.ownsRow base e k v n xs) : n ≤ 9223372036854775807 := by
  rcases h.2 with ⟨_, rfl⟩ | ⟨g, cap, cur, rfl, _, _, h1, h2, _⟩
  · omega
  · simp only [maxLen] at h2; omega

theorem splice_take {β : Type} {L vs : List β} {o N : Nat} (h1 : o + vs.length ≤ N) (h2 : N ≤ L.length) :
    (L.take o ++ vs ++ L.drop (o + vs.length)).take N = (L.take N).take o ++ vs ++ (L.take N).drop (o + vs.length) := by
  have e1 : (L.take o ++ vs).length = o + vs.length := by rw [List.length_append, List.length_take]; omega
  rw [List.take_append, e1, List.take_of_length_le (by omega), List.drop_take, List.take_take, Nat.min_eq_left (by omega)]

theorem own_write {w : World} {base e g n cap : Nat} {cs : List Value} (h : w.ownsRow base e k (.slice (some ⟨g, 0, none⟩) n cap) n cs) (o : Nat) (vs : List Value) (hl : o + vs.length ≤ n * k) :
    (w.setCells g o vs).ownsRow base e k (.slice (some ⟨g, 0, none⟩) n cap) n (cs.take o ++ vs ++ cs.drop (o + vs.length)) ∧ w.grownBy (w.setCells g o vs) (some g) := by
  obtain ⟨hlen, hh⟩ := h
  rcases hh with ⟨hv, _⟩ | ⟨g', cap', cur, hv, hb, hg, hn, hm, hc, ht⟩
  · cases hv
  · injection hv with hv1 hv2 hv3
    injection hv1 with hv1
    injection hv1 with hv1
    subst hv1; subst hv3
    have hle : n * k ≤ cap * k := Nat.mul_le_mul_right k hn
    obtain ⟨cur', h1, h2, h3⟩ := setCells_row vs o w cur hg (by omega)
    obtain ⟨s1, s2, s3, s4⟩ := setCells_same g vs o w
    refine ⟨⟨?_, .inr ⟨g, cap, cur', rfl, hb, h1, hn, hm, by rw [h2, hc], ?_⟩⟩, ⟨s1, s2, s3, by omega, fun i hi hne => setCells_far vs o i (fun he => hne (by rw [he]))⟩⟩
    · simp only [List.length_append, List.length_take, List.length_drop]; omega
    · have hcl : cur.toList.length = cap * k := by rw [Array.length_toList, hc]
      rw [h3, ← ht]
      exact splice_take (by omega) (by omega)

theorem flat_take (hk : ∀ x, (enc x).length = k) : ∀ (xs : List α) (i : Nat), (xs.flatMap enc).take (i * k) = (xs.take i).flatMap enc
  | [], i => by simp
  | x :: r, 0 => by simp
  | x :: r, i + 1 => by
    rw [List.flatMap_cons, List.take_succ_cons, List.flatMap_cons, ← flat_take hk r i, List.take_append, hk, Nat.add_mul, Nat.one_mul, List.take_of_length_le (by rw [hk]; omega), Nat.add_sub_cancel]
theorem flat_drop (hk : ∀ x, (enc x).length = k) : ∀ (xs : List α) (i : Nat), (xs.flatMap enc).drop (i * k) = (xs.drop i).flatMap enc
  | [], i => by simp
  | x :: r, 0 => by simp
  | x :: r, i + 1 => by
    rw [List.flatMap_cons, List.drop_succ_cons, ← flat_drop hk r i, List.drop_append, hk, Nat.add_mul, Nat.one_mul, List.drop_eq_nil_of_le (by rw [hk]; omega), Nat.add_sub_cancel, List.nil_append]

theorem own_set (hk : ∀ x, (enc x).length = k) {w : World} {base e g cap n : Nat} {xs : List α} (h : w.ownsRow base e k (.slice (some ⟨g, 0, none⟩) n cap) n (xs.flatMap enc)) (hn : xs.length = n) (i : Nat) (hi : i < n) (u : α) :
    (w.setCells g (i * k) (enc u)).ownsRow base e k (.slice (some ⟨g, 0, none⟩) n cap) n ((xs.set i u).flatMap enc) ∧ w.grownBy (w.setCells g (i * k) (enc u)) (some g) := by
  have hle : i * k + k ≤ n * k := by have := Nat.mul_le_mul_right k (show i + 1 ≤ n from hi); rwa [Nat.add_mul, Nat.one_mul] at this
  have h2 := own_write h (i * k) (enc u) (by rw [hk]; exact hle)
  refine ⟨?_, h2.2⟩
  have e : (xs.set i u).flatMap enc = (xs.flatMap enc).take (i * k) ++ enc u ++ (xs.flatMap enc).drop (i * k + (enc u).length) := by
    rw [hk, show i * k + k = (i + 1) * k by rw [Nat.add_mul, Nat.one_mul], flat_take hk, flat_drop hk, List.set_eq_take_append_cons_drop, if_pos (by omega)]
    simp
  rw [e]
  exact h2.1

/-- The row cut at m elements. -/
theorem own_cut (hk : ∀ x, (enc x).length = k) {w : World} {base e n cap m : Nat} {A : Option Addr} {xs : List α} (h : w.ownsRow base e k (.slice A n cap) n (xs.flatMap enc)) (hm : m ≤ n) :
    w.ownsRow base e k (.slice A m cap) m ((xs.take m).flatMap enc) := by
  rw [← flat_take hk]
  exact own_take h hm
end

/-! ### 'clear(s)' at elements of several cells -/
theorem clear_cells {P : Program} (w : World) (t e ty : TypeId) (z : Value) (ht : P.underlying t = some (.slice e)) (hv : ∀ w, (zeroValue e).run P w = .ok z w) (b o n c : Nat) (h1 : ∀ u ∈ (Builtin.zeroCells z.cells n).toList, u.oneCell' = true)
    (hn : 0 < n) (m : Nat) (hm : (Builtin.zeroCells z.cells n).toList.length = m) (hc : ∀ j, j < m → (w.cell? ⟨b, o + j, none⟩).isSome = true) (hf : ∀ j, j < m → w.frozen? ⟨b, o + j, none⟩ = false) :
    (Builtin.clear_ #[t] ty #[.slice (some ⟨b, o, none⟩) n c]).run P w = .ok (.tuple #[]) (w.setCells b o (Builtin.zeroCells z.cells n).toList) := by
  have hst := run_storeCells_cells (P := P) b o (Builtin.zeroCells z.cells n).toList 0 w (by rw [hm]; simpa using hc) (by rw [hm]; simpa using hf) h1
  simp only [Nat.add_zero] at hst
  obtain ⟨q, rfl⟩ : ∃ q, n = q + 1 := ⟨n - 1, by omega⟩
  simp [Builtin.clear_, run_underlying ht, hv, hst]

/-! ### The sort over a row of one's own -/
section
open Go.Sort
variable {α : Type} [Inhabited α] {enc : α → List Value} {k : Nat}

theorem getD_def (xs : List α) (i : Nat) (hi : i < xs.length) : xs.toArray[i]! = xs.getD i default := by
  simp [hi]

theorem flatK_toList (hk : ∀ x, (enc x).length = k) (xs : List α) : (flatK enc k xs.toArray).toList = xs.flatMap enc := by
  apply List.ext_getElem?
  intro t
  rcases Nat.lt_or_ge t (xs.length * k) with ht | ht
  · have k0 : 0 < k := by
      rcases Nat.eq_zero_or_pos k with h | h
      · subst h; simp at ht
      · exact h
    have hj : t / k < xs.length := (Nat.div_lt_iff_lt_mul k0).2 ht
    have hm : t % k < k := Nat.mod_lt _ k0
    have e := Nat.div_add_mod t k
    rw [Nat.mul_comm] at e
    have h1 := flat_get hk default (t / k) (t % k) hj hm
    rw [e] at h1
    rw [h1]
    have h2 := get_flatK enc k xs.toArray t (by simpa using ht)
    have hs : t < (flatK enc k xs.toArray).toList.length := by simpa using ht
    rw [List.getElem?_eq_getElem hs]
    rw [getElem!_pos _ t (by simpa using ht)] at h2
    rw [Array.getElem_toList, h2, getD_def xs _ hj]
    have hl : t % k < (enc (xs.getD (t / k) default)).length := by rw [hk]; exact hm
    rw [getElem!_pos (enc (xs.getD (t / k) default)) (t % k) hl, List.getElem?_eq_getElem hl]
  · rw [List.getElem?_eq_none (by simpa using ht), List.getElem?_eq_none (by rw [flat_len hk]; exact ht)]

theorem holds_of_own (hk : ∀ x, (enc x).length = k) {w : World} {base e g cap : Nat} {xs : List α} (h : w.ownsRow base e k (.slice (some ⟨g, 0, none⟩) xs.length cap) xs.length (xs.flatMap enc)) : HoldsK enc k w g 0 xs.toArray := by
  intro j hj
  have hj' : j < (flatK enc k xs.toArray).toList.length := by simpa using hj
  have e1 : (flatK enc k xs.toArray)[j]! = (flatK enc k xs.toArray)[j] := getElem!_pos _ j (by simpa using hj)
  have h2 : (xs.flatMap enc)[j]? = some (flatK enc k xs.toArray)[j]! := by
    rw [← flatK_toList hk, List.getElem?_eq_getElem hj', Array.getElem_toList, e1]
  have h3 := h.cells (g := g) rfl j _ h2
  rw [add_plain] at h3
  rw [Nat.zero_add]
  refine ⟨h3, ?_⟩
  obtain ⟨cells, hb⟩ := own_typed h g rfl
  exact blk_frozen hb j

theorem putRowK_own (hk : ∀ x, (enc x).length = k) {w : World} {base e g cap : Nat} {xs ys : List α} (h : w.ownsRow base e k (.slice (some ⟨g, 0, none⟩) xs.length cap) xs.length (xs.flatMap enc)) (hl : ys.length = xs.length) (m : Nat) (os : Array Obj) :
    (sortWorldK enc k w g 0 m ys.toArray os).ownsRow base e k (.slice (some ⟨g, 0, none⟩) xs.length cap) xs.length (ys.flatMap enc) ∧ w.grownBy (sortWorldK enc k w g 0 m ys.toArray os) (some g) := by
  obtain ⟨hlen, hh⟩ := h
  rcases hh with ⟨hv, _⟩ | ⟨g', cap', cur, hv, hb, hg, hn, hm, hc, ht⟩
  · cases hv
  · injection hv with hv1 hv2 hv3
    injection hv1 with hv1
    injection hv1 with hv1
    subst hv1; subst hv3
    have hlt : g < w.heap.size := blk_lt hg
    have hput : (putRowK enc k (Sort.ahead w m) g 0 ys.toArray).heap[g]? = some (.cells (putCells id 0 (flatK enc k ys.toArray) cur) e (0, 0)) := by
      show (w.heap.modify g (onCells _))[g]? = _
      rw [Array.getElem?_modify, if_pos rfl, hg]
      rfl
    have hsz : (putRowK enc k (Sort.ahead w m) g 0 ys.toArray).heap.size = w.heap.size := by
      show (w.heap.modify g _).size = _
      simp
    refine ⟨⟨by rw [flat_len hk, hl], .inr ⟨g, cap, _, rfl, hb, (heap_grow_old _ _ (by rw [hsz]; exact hlt)).trans hput, hn, hm, ?_, ?_⟩⟩, ?_⟩
    · simp only [putCells, Array.size_mapIdx]
      exact hc
    · have hle : xs.length * k ≤ cap * k := Nat.mul_le_mul_right k hn
      apply List.ext_getElem?
      intro t
      rw [List.getElem?_take]
      split
      · rename_i htl
        have h1 : t < cur.size := by omega
        have h2 : t < (flatK enc k ys.toArray).toList.length := by simpa [hl] using htl
        rw [Array.getElem?_toList, putCells, Array.getElem?_mapIdx, Array.getElem?_eq_getElem h1, Option.map_some, if_pos ⟨Nat.zero_le _, by simpa [hl] using htl⟩, ← flatK_toList hk, List.getElem?_eq_getElem h2, Array.getElem_toList]
        simp only [Nat.sub_zero, id]
        rw [getElem!_pos _ t (by simpa [hl] using htl)]
      · rename_i htl
        rw [List.getElem?_eq_none (by rw [flat_len hk, hl]; omega)]
    · refine ⟨rfl, rfl, rfl, ?_, fun i hi hne => ?_⟩
      · show w.heap.size ≤ (grow _ _).heap.size
        rw [size_grow, hsz]
        omega
      · show (grow _ _).heap[i]? = _
        rw [heap_grow_old _ _ (by rw [hsz]; exact hi)]
        show (w.heap.modify g _)[i]? = _
        rw [Array.getElem?_modify, if_neg (fun he => hne (by rw [he]))]

/-- slices.SortFunc over a row of one's own, nil too: the row sorted; nothing else is turned. -/
theorem sort_own {P : Program} {ρ : Shelf.Ren} (L : SlLaysF0.n6 P ρ) (aE : ∀ w, (isAgg (ρ.t 24)).run P w = .ok true w) (zE : ∀ w, (Go.sizeOf (ρ.t 24)).run P w = .ok k w) (hk : ∀ x, (enc x).length = k) (h1 : ∀ x, ∀ v ∈ enc x, v.oneCell' = true)
    (cf : α → α → Int) (hO : SWO (ltOf cf)) (hT : ∀ x y, (ltOf cf) x y = false → (ltOf cf) y x = false → x = y) (g : Nat)
    (eg : ∀ args w, (callFunc g args).run P w = .ok (.enter g args) w)
    (hcmp : ∀ (x y : α) (W : World), Calls P g #[.agg (enc x).toArray, .agg (enc y).toArray] W fun e w' => e = .returned (.int .i64 (cf x y)) ∧ ∃ q os', w' = grow (W.drewN q) os')
    (base e : Nat) (v : Value) (xs : List α) (w : World) (hown : w.ownsRow base e k v xs.length (xs.flatMap enc)) (hsz : xs.length < 4611686018427387904) :
    Calls P (ρ.f 6) #[v, .func (.func g) #[] #[]] w fun en w' => en = .returned (.tuple #[]) ∧
      w'.ownsRow base e k v xs.length ((xs.mergeSort fun x y => !(ltOf cf) y x).flatMap enc) ∧ w.grownBy w' v.ownBlock := by
  rcases own_slice hown with ⟨A, c, rfl⟩
  rcases Nat.eq_zero_or_pos xs.length with h0 | h0
  · have hx : xs = [] := List.eq_nil_of_length_eq_zero h0
    subst hx
    refine (AnyF.slices_SortFunc_none { L with } A c (.func (.func g) #[] #[]) w).mono ?_
    rintro en w' ⟨rfl, rfl⟩
    exact ⟨rfl, by simpa using hown, ⟨rfl, rfl, rfl, Nat.le_refl _, fun _ _ _ => rfl⟩⟩
  · obtain ⟨b, cap, hv, _, _⟩ := hown.form h0
    rw [hv] at hown ⊢
    obtain ⟨cells, hb⟩ := own_typed hown b rfl
    have hc : CmpLays P g #[] enc k cf b 0 xs.toArray.size w := fun m os dk _ x y => by simpa using hcmp x y _
    have := AnyQ.slices_SortFunc_total L k aE zE enc hk h1 cf hO g #[] b 0 cap xs.toArray w eg hc (holds_of_own hk hown) (blk_lt hb) (by simpa using hsz) hT
    rw [show xs.toArray.size = xs.length from rfl] at this
    refine this.mono ?_
    rintro en w' ⟨rfl, n, os, rfl⟩
    have hr := putRowK_own hk hown (ys := xs.mergeSort fun x y => !(ltOf cf) y x) (List.length_mergeSort _) n os
    exact ⟨rfl, hr.1, hr.2⟩
end
end Go.Proofs.Ytnpiphlmdjmfeaa
