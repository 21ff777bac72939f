/- works: the chapter's example. -/
import Derived.Test.YtnpiphlmdjmfeaaB1
set_option linter.unusedVariables false
set_option linter.unusedSimpArgs false
namespace Go.Proofs.Ytnpiphlmdjmfeaa
open Go.RowKit Go.Proofs.YtnpiphlmdjmfeaaW.PrintWords

/-- A literal's row, read. -/
theorem flat_lit {α : Type} {enc : α → List Value} {k : Nat} {hk : ∀ x, (enc x).length = k} {h1 : ∀ x, ∀ v ∈ enc x, v.oneCell' = true} (w : World) (e : Nat) (l : List α) (hl : l.length ≤ 9223372036854775807) :
    (flatKd enc k hk h1).C (w.alloc (.cells (l.flatMap enc).toArray e)) (some ⟨w.heap.size, 0, none⟩) l.length l := by
  have h : (w.alloc (.cells (l.flatMap enc).toArray e)).ownsRow 0 e k (.slice (some ⟨w.heap.size, 0, none⟩) l.length l.length) l.length (l.flatMap enc) := by
    refine ⟨flat_len hk, .inr ⟨w.heap.size, l.length, (l.flatMap enc).toArray, rfl, Nat.zero_le _, heap_alloc_new w _, Nat.le_refl _, by unfold maxLen; omega, ?_, ?_⟩⟩
    · rw [List.size_toArray, flat_len hk]
    · show (l.flatMap enc).take _ = _
      rw [List.take_of_length_le (by rw [flat_len hk]; omega)]
  obtain ⟨A', c', e', _, hc⟩ := Kd.R_reads (flat_own_R (hk := hk) (h1 := h1) h)
  cases e'
  exact hc

def exL : List Pl := [⟨1, 0, 12⟩, ⟨2, 0, 52⟩]
def exS : List Sz := [⟨1, 100⟩, ⟨2, 100⟩, ⟨3, 10⟩]
theorem exL_once : onceF exL = exL := by
  unfold onceF
  rw [List.mergeSort_of_pairwise]
  · decide
  · decide
theorem exL_held (f : Int) : heldF exL f = (if f = 1 then 20 else 0) + (if f = 2 then 60 else 0) := by
  simp only [heldF, exL, List.map_cons, List.map_nil, List.sum_cons, List.sum_nil, okPl]
  by_cases h1 : f = 1
  · subst h1; decide
  · by_cases h2 : f = 2
    · subst h2; decide
    · have e1 : ¬ (1 : Int) = f := fun h => h1 h.symm
      have e2 : ¬ (2 : Int) = f := fun h => h2 h.symm
      simp [h1, h2, e1, e2]
theorem exL_has (f : Int) : hasF exL f = true ↔ f = 1 ∨ f = 2 := by
  simp [hasF, exL, okPl]
  constructor
  · rintro (h | h)
    · exact .inl h.symm
    · exact .inr h.symm
  · rintro (h | h)
    · exact .inl h.symm
    · exact .inr h.symm
theorem exR : planE exS exL 50 = 0 ∧ planR exS exL 50 = [1] := by
  have h : planE exS exL 50 = 0 := by decide
  refine ⟨h, ?_⟩
  rw [planR, if_pos h, exL_once]
  decide
theorem two_files (fs : List Int) (hp : fs.Pairwise (· < ·)) (hm : ∀ f, f ∈ fs ↔ f = 1 ∨ f = 2) : fs = [1, 2] := by
  match fs, hp, hm with
  | [], _, hm => have := (hm 1).2 (.inl rfl); simp at this
  | [a], _, hm =>
    have h1 := (hm 1).2 (.inl rfl)
    have h2 := (hm 2).2 (.inr rfl)
    simp at h1 h2
    omega
  | a :: b :: r, hp, hm =>
    have ha := (hm a).1 (by simp)
    have hb := (hm b).1 (by simp)
    rw [List.pairwise_cons, List.pairwise_cons] at hp
    have hab := hp.1 b (by simp)
    obtain rfl : a = 1 := by omega
    obtain rfl : b = 2 := by omega
    cases r with
    | nil => rfl
    | cons c r =>
      have hc := (hm c).1 (by simp)
      have := hp.2.1 c (by simp)
      omega

theorem exL_wf : ∀ p ∈ exL, wfPl p := by
  intro p hp
  simp [exL] at hp
  rcases hp with rfl | rfl <;> exact ⟨(wfI_iff _).2 (by simp), (wfI_iff _).2 (by simp), (wfI_iff _).2 (by simp)⟩
theorem exS_wf : ∀ p ∈ exS, wfSz p := by
  intro p hp
  simp [exS] at hp
  rcases hp with rfl | rfl | rfl <;> exact ⟨(wfI_iff _).2 (by simp), (wfI_iff _).2 (by simp)⟩

set_option maxRecDepth 20000 in
set_option maxHeartbeats 2000000 in
theorem works_any (w : World) : Calls Try.prog 5 #[] w fun e w' => e = .returned (.bool true) ∧ Below w.heap.size w w' := by
  go_enter Try.func5, Try.ntmps5
  go_wp2_with fail
  have hL : Hid (kPl.C (w.alloc (.cells (exL.flatMap encPl).toArray 42)) (some ⟨w.heap.size, 0, none⟩) 2 exL) := flat_lit w 42 exL (by decide)
  have hwl := Lib.hid exL_wf
  refine (live_any (some ⟨w.heap.size, 0, none⟩) 2 2 exL _ rfl hL.out hwl.out (by omega)).mono ?_
  rintro e w1 ⟨v, fs, rfl, ho1, hp, hwf, hm, hb1⟩
  have hfs : fs = [1, 2] := two_files fs hp (fun f => by
    constructor
    · intro hf
      have := (hm f (hwf f hf)).1 hf
      rw [exL_once] at this
      exact (exL_has f).1 this
    · intro hf
      refine (hm f ?_).2 ?_
      · rcases hf with rfl | rfl <;> exact (wfI_iff _).2 (by omega)
      · rw [exL_once]; exact (exL_has f).2 hf)
  subst hfs
  rw [exL_once] at ho1
  have HO1 : Hid (w1.ownsRow (w.heap.size + 1) 34 2 v 2 ([⟨1, 20⟩, ⟨2, 60⟩].flatMap encSz)) := by
    rw [World.size_alloc] at ho1
    have e1 : heldF exL 1 = 20 := by decide
    have e2 : heldF exL 2 = 60 := by decide
    have e3 : [1, 2].flatMap (encG (heldF exL)) = [(⟨1, 20⟩ : Sz), ⟨2, 60⟩].flatMap encSz := by simp [encG, encSz, e1, e2]
    rw [e3] at ho1
    exact ho1
  have HB1 : Hid (Below w.heap.size w w1) := ((Below.refl _ w).alloc (Nat.le_refl _) _).trans (hb1.mono (by simp))
  have HL1 : Hid (kPl.C w1 (some ⟨w.heap.size, 0, none⟩) 2 exL) := Kd.C_below hL.out hb1
  clear ho1 hp hwf hm hb1 hL
  obtain ⟨A1, c1, rfl⟩ := own_slice HO1.out
  go_wp2_with fail
  have hS : Hid (kSz.C (w1.alloc (.cells (exS.flatMap encSz).toArray 34)) (some ⟨w1.heap.size, 0, none⟩) 3 exS) := flat_lit w1 34 exS (by decide)
  refine (plan_any (some ⟨w1.heap.size, 0, none⟩) 3 3 exS (some ⟨w.heap.size, 0, none⟩) 2 2 exL 50 _ rfl hS.out rfl (Kd.C_below HL1.out ((Below.refl _ w1).alloc (Nat.le_refl _) _)) exS_wf exL_wf (by omega) (by omega)).mono ?_
  rintro e w2 ⟨v2, rfl, ho2, hb2⟩
  rw [exR.1]
  rw [exR.2] at ho2
  have HO2 : Hid (w2.ownsRow (w1.heap.size + 1) 3 1 v2 1 (nums .i64 [1])) := by
    rw [World.size_alloc] at ho2
    exact ho2
  have HB2 : Hid (Below w1.heap.size w1 w2) := ((Below.refl _ w1).alloc (Nat.le_refl _) _).trans (hb2.mono (by simp))
  clear ho2 hb2 hS
  go_wp2_with fail
  have hC1 : kSz.C w1 A1 2 [⟨1, 20⟩, ⟨2, 60⟩] := by
    obtain ⟨A', c', e, _, hc⟩ := Kd.R_reads (flat_own_R (hk := encSz_len) (h1 := encSz_one) (xs := [(⟨1, 20⟩ : Sz), ⟨2, 60⟩]) HO1.out)
    cases e
    exact hc
  have hC2 : kSz.C (w2.alloc (.cells ([(⟨1, 20⟩ : Sz), ⟨2, 60⟩].flatMap encSz).toArray 34)) (some ⟨w2.heap.size, 0, none⟩) 2 [⟨1, 20⟩, ⟨2, 60⟩] := flat_lit w2 34 [(⟨1, 20⟩ : Sz), ⟨2, 60⟩] (by decide)
  refine (sameS_any A1 c1 2 [⟨1, 20⟩, ⟨2, 60⟩] (some ⟨w2.heap.size, 0, none⟩) 2 2 [⟨1, 20⟩, ⟨2, 60⟩] _ rfl rfl (Kd.C_below hC1 (HB2.out.trans ((Below.refl _ w2).alloc (by have := HB2.out.size; omega) _))) hC2 (by omega)).mono ?_
  rintro e w3 ⟨rfl, q, rfl⟩
  obtain ⟨b2, cap2, rfl, hbb, -⟩ := HO2.out.form (by omega)
  have hc2 : w2.cell? ⟨b2, 0, none⟩ = some (.int .i64 1) := by
    have := HO2.out.cells (g := b2) rfl 0 (.int .i64 1) rfl
    rwa [add_plain] at this
  have hlt2 := own_lt HO2.out b2 rfl
  have hc3 : ((w2.alloc (.cells ([(⟨1, 20⟩ : Sz), ⟨2, 60⟩].flatMap encSz).toArray 34)).drewN q).cell? ⟨b2, 0, none⟩ = some (.int .i64 1) := (World.cell?_drewN _ _ _).trans (Lib.cell?_alloc_some _ hc2)
  have HBW : Hid (Below w.heap.size w (w2.alloc (.cells ([(⟨1, 20⟩ : Sz), ⟨2, 60⟩].flatMap encSz).toArray 34))) := (HB1.out.trans (HB2.out.mono HB1.out.size)).alloc (Nat.le_trans HB1.out.size HB2.out.size) _
  have hdec : decide ([(⟨1, 20⟩ : Sz), ⟨2, 60⟩] = [⟨1, 20⟩, ⟨2, 60⟩]) = true := by decide
  rw [hdec]
  generalize hW : (w2.alloc (.cells ([(⟨1, 20⟩ : Sz), ⟨2, 60⟩].flatMap encSz).toArray 34)).drewN q = w5 at hc3
  have HW := Lib.hid hW
  clear hW
  go_wp2
  go_ret
  exact ⟨rfl, by rw [← HW.out]; exact pw_below_drewN HBW.out _⟩
end Go.Proofs.Ytnpiphlmdjmfeaa
