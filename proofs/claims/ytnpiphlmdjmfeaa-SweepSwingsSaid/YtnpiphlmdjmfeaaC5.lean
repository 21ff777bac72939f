/- For every list of places and every list of moves, SweepSwings answers true and leaves its arguments as they were: no condition. -/
import Derived.Test.YtnpiphlmdjmfeaaB4
import Derived.Test.YtnpiphlmdjmfeaaC4
set_option linter.unusedVariables false
set_option linter.unusedSimpArgs false
namespace Go.Proofs.Ytnpiphlmdjmfeaa
open Go.ChangeShapes Go.WideShapes Go.ChangeAt Go.RowKit Go.Joins Go.Deep Go.Proofs.YtnpiphlmdjmfeaaW.PrintWords

section
variable {H : Type} {eH : TypeId × Value → H} {w : World} {base : Nat} {spare : Nat → Bool} {held : Bool}
theorem el_mv (n : Nat) (cs : List Value) (y : DataW H × List MemPlace) (h : DataW.trod eH Try.prog w base spare held n 44 cs = some y) : ∃ x : Mv, cs = encMv x ∧ wfMv x := by
  obtain ⟨y0, y1, m, _, hl, h0, h1⟩ := trod_struct2 Try.underlying44 h
  have hc : Try.prog.cellsOf 44 = 6 := by kernel_rfl
  have hc3 : Try.prog.cellsOf 42 = 3 := by kernel_rfl
  rw [hc] at hl
  match cs, hl with
  | [c0, c1, c2, c3, c4, c5], _ =>
    rw [hc3] at h0 h1
    obtain ⟨p, e0, wp⟩ := el_pl _ _ _ h0
    obtain ⟨q, e1, wq⟩ := el_pl _ _ _ h1
    simp [encPl] at e0 e1
    exact ⟨⟨p, q⟩, by simp [encMv, e0, e1], wp, wq⟩
end

namespace sweepSwings
set_option maxRecDepth 100000 in
theorem lifted (os : Os) (started : os.Started) (H : Type) (enc : TypeId × Value → H) :
    ReturnsInHanded {} Try.checked os 4 .any (Rows.sweepSwingsSpec.pre6 enc Try.prog Try.f4 Rows.sweepSwingsRow.domain false) (Rows.sweepSwingsSpec.post enc Try.prog Try.f4 false true false false) := by
  refine returnsInHanded_of_change (C := Try.checked) sweepLess.own started (by kernel_rfl) Try.func4
    (ChangeSpec.witness6 (enc := enc) (C := Try.checked) false ⟨#[], #[.slice none 0 0, .slice none 0 0], []⟩ 8 (by kernel_rfl) (by kernel_rfl) (by kernel_rfl) (by kernel_rfl)) ?_
  intro W base args ds gs before hval0 hW hcnd _
  have hval : ∀ (j : Nat) t v, Try.f4.params[j]? = some t → args[j]? = some v → Value.okWide Try.prog W .any base t v := hval0
  have hW' := hW
  obtain ⟨p, q, hA0, hV, rfl, hfz, hnd⟩ := hW
  have hA : DataW.TrodAll enc Try.prog W 0 (fun _ => true) true Try.f4.params.toList args.toList ds p := hA0
  rw [Try.params4] at hA hval
  obtain ⟨v0, v1, d0, d1, p0, p1, rfl, rfl, rfl, h0, h1⟩ := trodAll_two hA
  obtain ⟨rfl, rfl⟩ := trodVars_none hV
  have k0 := h0
  have k1 := h1
  have lt0 : ∀ x ∈ p0, x.block < W.heap.size := by obtain ⟨m, hm⟩ := k0; exact DataW.trod_lt m _ _ _ hm
  have lt1 : ∀ x ∈ p1, x.block < W.heap.size := by obtain ⟨m, hm⟩ := k1; exact DataW.trod_lt m _ _ _ hm
  obtain ⟨f0, hf0⟩ := h0
  obtain ⟨f1, hf1⟩ := h1
  have hv0 : v0.cells = #[v0] := by
    obtain ⟨A, n, c, rfl⟩ := okWide_slice Try.underlying23 (hval 0 23 v0 rfl rfl)
    rfl
  have hv1 : v1.cells = #[v1] := by
    obtain ⟨A, n, c, rfl⟩ := okWide_slice Try.underlying36 (hval 1 36 v1 rfl rfl)
    rfl
  obtain ⟨A, c, live, rfl, _, hL, hwl⟩ := open_flat (hk := encPl_len) (h1 := encPl_one) Try.underlying23 (by kernel_rfl) el_pl (by rw [hv0] at hf0; exact hf0)
  obtain ⟨AM, cM, ms, rfl, _, hM, hwm⟩ := open_flat (hk := encMv_len) (h1 := encMv_one) Try.underlying36 (by kernel_rfl) el_mv (by rw [hv1] at hf1; exact hf1)
  clear hA0 hval0
  refine (swings_any A c live.length live AM cM ms.length ms W rfl hL rfl hM hwl hwm).mono fun e W' ⟨he, bel⟩ => ?_
  subst he
  exact ⟨_, rfl, _, _, _, [], _, [], hW', trodAll_mk1 (shut_bool Try.underlying4 _), trodAll_mk2 (Below.trod sweepLess.laidOut (by kernel_rfl) (of_decide_eq_true (by kernel_rfl)) k0 bel lt0) (Below.trod sweepLess.laidOut (by kernel_rfl) (of_decide_eq_true (by kernel_rfl)) k1 bel lt1), by first | rfl | simp, bel.frame _, fun h => by cases h⟩

theorem over : Rows.sweepSwingsRow.holds Try.pinned (OpenSpec.ofChange Rows.sweepSwingsSpec) :=
  OpenClaim.holds_of_wide 4 Try.f4 rfl rfl rfl rfl rfl rfl rfl ⟨rfl, rfl, rfl, rfl, rfl⟩ rfl rfl rfl rfl rfl (by kernel_rfl) Try.func4 (by kernel_rfl)
    (of_decide_eq_true (by kernel_rfl)) (by unfold Func.isWrapper; first | (rw [if_pos (by decide +kernel)]; kernel_rfl) | (rw [if_neg (by decide +kernel)]; exact ⟨rfl, rfl⟩))
    (fun os started H enc _ => lifted os started H enc)
end sweepSwings
/-- The row, under a short name, for the claim. -/
theorem sweepSwings_holds : Rows.SweepSwingsSaid := sweepSwings.over
#print axioms sweepSwings_holds
end Go.Proofs.Ytnpiphlmdjmfeaa
