/- For every plan and every number, SweepLess answers true and leaves its arguments as they were: no condition. -/
import Derived.Test.YtnpiphlmdjmfeaaRows
import Derived.Test.YtnpiphlmdjmfeaaB3
import Derived.ProofKit
import Derived.OpenShut
import Derived.ChangeOld
import Derived.SizedLaws
import Derived.Lib.SmallJoins
import Derived.Deep.Slices
set_option linter.unusedVariables false
set_option linter.unusedSimpArgs false
namespace Go.Proofs.Ytnpiphlmdjmfeaa
open Go.ChangeShapes Go.WideShapes Go.ChangeAt Go.RowKit Go.Joins Go.Deep Go.Proofs.YtnpiphlmdjmfeaaW.PrintWords

section
variable {H : Type} {eH : TypeId × Value → H} {P : Program} {w : World} {base : Nat} {spare : Nat → Bool} {held : Bool} {α : Type} {enc : α → List Value} {k : Nat} {hk : ∀ x, (enc x).length = k} {h1 : ∀ x, ∀ v ∈ enc x, v.oneCell' = true}

/-- A slice that came in, opened: its elements' cells, element by element. -/
theorem open_flat {t e : TypeId} {fuel : Nat} {v : Value} {y : DataW H × List MemPlace} {good : α → Prop} (hu : P.underlying t = some (.slice e)) (hc : P.cellsOf e = k)
    (hel : ∀ n cs y, DataW.trod eH P w base spare held n e cs = some y → ∃ x, cs = enc x ∧ good x) (h : DataW.trod eH P w base spare held fuel t [v] = some y) :
    ∃ A c l, v = .slice A l.length c ∧ l.length ≤ c ∧ (flatKd enc k hk h1).C w A l.length l ∧ ∀ x ∈ l, good x := by
  rcases open_slice hu h with ⟨h0, _⟩ | ⟨a, len, cap, m, n, D, Pl, h0, hb, hl, hm, hmm, hx, hi⟩
  · obtain rfl : v = .slice none 0 0 := by simpa using h0
    exact ⟨none, 0, [], rfl, Nat.le_refl _, Kd.C_nil _ _, by simp⟩
  · obtain rfl : v = .slice (some a) len cap := by simpa using h0
    have hlm : len ≤ m := by rw [hmm]; split <;> omega
    have hex : ∀ i, i < len → ∃ x, w.cells? base (a.add (i * k)) k = some (enc x) ∧ good x := fun i hlt => by
      obtain ⟨cs', h2, h3⟩ := hi i (by omega)
      obtain ⟨x, rfl, hg⟩ := hel _ _ _ h3
      rw [hc] at h2
      exact ⟨x, h2, hg⟩
    obtain ⟨l, hlen, hall⟩ : ∃ l : List α, l.length = len ∧ ∀ i x, l[i]? = some x → w.cells? base (a.add (i * k)) k = some (enc x) ∧ good x := by
      clear hi hx h h0 hlm hmm hl hm
      induction len with
      | zero => exact ⟨[], rfl, by simp⟩
      | succ q ih =>
        obtain ⟨l, h2, h3⟩ := ih (fun i hi => hex i (by omega))
        obtain ⟨x, h4⟩ := hex q (by omega)
        refine ⟨l ++ [x], by simp [h2], fun i z hz => ?_⟩
        rcases Nat.lt_or_ge i l.length with hlt | hge
        · rw [List.getElem?_append_left hlt] at hz
          exact h3 i z hz
        · have : i = l.length := by
            have := (List.getElem?_eq_some_iff.1 hz).1
            simp at this
            omega
          subst this
          have : x = z := by simpa using hz
          subst this
          rw [h2]
          exact h4
    subst hlen
    refine ⟨some a, cap, l, rfl, hl, ⟨rfl, by unfold maxLen at hm; omega, fun _ => ⟨a, rfl, fun j p hj => ?_⟩⟩, fun x hx => ?_⟩
    · refine ⟨enc p, hk p, rfl, fun i u hu => ?_⟩
      have hlt : i < k := by
        have := (List.getElem?_eq_some_iff.1 hu).1
        rwa [hk] at this
      have h2 := ((World.cells?_some (hall j p hj).1).2.2) i hlt
      rw [hu] at h2
      rw [← h2]
      rw [Addr.add_add]
      rfl
    · obtain ⟨i, hi, rfl⟩ := List.getElem_of_mem hx
      exact (hall i _ (List.getElem?_eq_getElem hi)).2
end

section
variable {H : Type} {eH : TypeId × Value → H} {w : World} {base : Nat} {spare : Nat → Bool} {held : Bool}
theorem el_int {n : Nat} {cs : List Value} {y : DataW H × List MemPlace} (h : DataW.trod eH Try.prog w base spare held n 3 cs = some y) : ∃ a, cs = [.int .i64 a] ∧ wfI a := by
  obtain ⟨a, h1, _, h2⟩ := DataW.trod_int Try.underlying3 h
  exact ⟨a, h1, h2⟩
theorem el_sz (n : Nat) (cs : List Value) (y : DataW H × List MemPlace) (h : DataW.trod eH Try.prog w base spare held n 34 cs = some y) : ∃ x : Sz, cs = encSz x ∧ wfSz x := by
  obtain ⟨y0, y1, m, _, hl, h0, h1⟩ := trod_struct2 Try.underlying34 h
  have hc : Try.prog.cellsOf 34 = 2 := by kernel_rfl
  have hc3 : Try.prog.cellsOf 3 = 1 := by kernel_rfl
  rw [hc] at hl
  match cs, hl with
  | [c0, c1], _ =>
    rw [hc3] at h0 h1
    obtain ⟨a, e0, wa⟩ := el_int h0
    obtain ⟨b, e1, wb⟩ := el_int h1
    simp at e0 e1
    exact ⟨⟨a, b⟩, by simp [encSz, e0, e1], wa, wb⟩
theorem el_pl (n : Nat) (cs : List Value) (y : DataW H × List MemPlace) (h : DataW.trod eH Try.prog w base spare held n 42 cs = some y) : ∃ x : Pl, cs = encPl x ∧ wfPl x := by
  obtain ⟨y0, y1, y2, m, _, hl, h0, h1, h2⟩ := trod_struct3 Try.underlying42 h
  have hc : Try.prog.cellsOf 42 = 3 := by kernel_rfl
  have hc3 : Try.prog.cellsOf 3 = 1 := by kernel_rfl
  rw [hc] at hl
  match cs, hl with
  | [c0, c1, c2], _ =>
    rw [hc3] at h0 h1 h2
    obtain ⟨a, e0, wa⟩ := el_int h0
    obtain ⟨b, e1, wb⟩ := el_int h1
    obtain ⟨c, e2, wc⟩ := el_int h2
    simp at e0 e1 e2
    exact ⟨⟨a, b, c⟩, by simp [encPl, e0, e1, e2], wa, wb, wc⟩
end

namespace sweepLess
theorem own : ownKnob Try.prog.godebug = none := by kernel_rfl
theorem laidOut : laidOutB Try.prog = true := by kernel_rfl

set_option maxRecDepth 100000 in
theorem lifted (os : Os) (started : os.Started) (H : Type) (enc : TypeId × Value → H) :
    ReturnsInHanded {} Try.checked os 3 .any (Rows.sweepLessSpec.pre6 enc Try.prog Try.f3 Rows.sweepLessRow.domain false) (Rows.sweepLessSpec.post enc Try.prog Try.f3 false true false false) := by
  refine returnsInHanded_of_change (C := Try.checked) own started (by kernel_rfl) Try.func3
    (ChangeSpec.witness6 (enc := enc) (C := Try.checked) false ⟨#[], #[.agg #[.slice none 0 0, .slice none 0 0, .int .i64 0], .int .i64 0], []⟩ 8 (by kernel_rfl) (by kernel_rfl) (by kernel_rfl) (by kernel_rfl)) ?_
  intro W base args ds gs before hval0 hW hcnd _
  have hval : ∀ (j : Nat) t v, Try.f3.params[j]? = some t → args[j]? = some v → Value.okWide Try.prog W .any base t v := hval0
  have hW' := hW
  obtain ⟨p, q, hA0, hV, rfl, hfz, hnd⟩ := hW
  have hA : DataW.TrodAll enc Try.prog W 0 (fun _ => true) true Try.f3.params.toList args.toList ds p := hA0
  rw [Try.params3] at hA hval
  obtain ⟨v0, v1, d0, d1, p0, p1, rfl, rfl, rfl, h0, h1⟩ := trodAll_two hA
  obtain ⟨rfl, rfl⟩ := trodVars_none hV
  have k0 := h0
  have k1 := h1
  have lt0 : ∀ x ∈ p0, x.block < W.heap.size := by obtain ⟨m, hm⟩ := k0; exact DataW.trod_lt m _ _ _ hm
  obtain ⟨c0, c1, c2, y0, y1, y2, n, rfl, _, _, t0, t1, t2⟩ := open_agg3 Try.underlying25 (by kernel_rfl) (by kernel_rfl) (hval 0 25 v0 rfl rfl) h0
  obtain ⟨more, rfl, rfl, rfl, wm⟩ := open_int Try.underlying3 (hval 1 3 v1 rfl rfl) h1
  obtain ⟨AS, cS, sizes, rfl, _, hS, hws⟩ := open_flat (hk := encSz_len) (h1 := encSz_one) Try.underlying22 (by kernel_rfl) el_sz t0
  obtain ⟨A, c, live, rfl, _, hL, hwl⟩ := open_flat (hk := encPl_len) (h1 := encPl_one) Try.underlying23 (by kernel_rfl) el_pl t1
  obtain ⟨pct, e2, _⟩ := el_int t2
  obtain rfl : c2 = .int .i64 pct := by simpa using e2
  clear hA0 hval0
  simp only [List.append_nil] at hW'
  refine (sweepLess_any AS cS sizes.length sizes A c live.length live pct more W rfl hS rfl hL hws hwl wm).mono fun e W' ⟨he, bel⟩ => ?_
  subst he
  exact ⟨_, rfl, _, _, _, [], _, [], hW', trodAll_mk1 (shut_bool Try.underlying4 _), trodAll_mk2 (Below.trod laidOut (by kernel_rfl) (of_decide_eq_true (by kernel_rfl)) k0 bel lt0) (shut_int Try.underlying3 wm), rfl, bel.frame _, fun h => by cases h⟩

theorem over : Rows.sweepLessRow.holds Try.pinned (OpenSpec.ofChange Rows.sweepLessSpec) :=
  OpenClaim.holds_of_wide 3 Try.f3 rfl rfl rfl rfl rfl rfl rfl ⟨rfl, rfl, rfl, rfl, rfl⟩ rfl rfl rfl rfl rfl (by kernel_rfl) Try.func3 (by kernel_rfl)
    (of_decide_eq_true (by kernel_rfl)) (by unfold Func.isWrapper; first | (rw [if_pos (by decide +kernel)]; kernel_rfl) | (rw [if_neg (by decide +kernel)]; exact ⟨rfl, rfl⟩))
    (fun os started H enc _ => lifted os started H enc)
end sweepLess
/-- The row, under a short name, for the claim. -/
theorem sweepLess_holds : Rows.SweepLessSaid := sweepLess.over
#print axioms sweepLess_holds
end Go.Proofs.Ytnpiphlmdjmfeaa
