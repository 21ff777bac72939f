/- A slice that came in, opened; what the condition on the listed tables gives. -/
import Derived.Test.YtdpbkpfdokgolaaDoorRows
import Derived.Test.YtdpbkpfdokgolaaDoorS1
import Derived.ProofKit
import Derived.OpenShut
import Derived.ChangeOld
import Derived.SizedLaws
import Derived.Lib.SmallJoins
import Derived.Deep.Slices
import Derived.LaidMore
import Derived.Stop.Joined
import Derived.Stop.LaidErr
set_option linter.unusedVariables false
set_option linter.unusedSimpArgs false
namespace Go.Proofs.YtdpbkpfdokgolaaDoor
open Go.ChangeShapes Go.WideShapes Go.ChangeAt Go.RowKit Go.Joins Go.Deep Go.Proofs.YtdpbkpfdokgolaaDoorW.PrintWords

section
variable {H : Type} {eH : TypeId × Value → H} {P : Program} {w : World} {base : Nat} {spare : Nat → Bool} {held : Bool} {α : Type} {enc : α → List Value} {k : Nat} {hk : ∀ x, (enc x).length = k} {h1 : ∀ x, ∀ v ∈ enc x, v.oneCell' = true}

/-- A slice that came in, opened: its elements' cells, element by element. -/
theorem open_flat {t e : TypeId} {fuel : Nat} {v : Value} {y : DataW H × List MemPlace} {good : α → Prop} (hu : P.underlying t = some (.slice e)) (hc : P.cellsOf e = k)
    (hel : ∀ n cs y, DataW.trod eH P w base spare held n e cs = some y → ∃ x, cs = enc x ∧ good x) (h : DataW.trod eH P w base spare held fuel t [v] = some y) :
    ∃ A c l, v = .slice A l.length c ∧ l.length ≤ c ∧ (flatKd enc k hk h1).C w A l.length l ∧ ∀ x ∈ l, good x := by
  rcases open_slice hu h with ⟨h0, _⟩ | ⟨a, len, cap, m, n, D, Pl, h0, hb, hl, hm, hmm, hx, hi⟩
  · obtain rfl : v = .slice none 0 0 := by simpa using h0
    exact ⟨none, 0, [], rfl, Nat.le_refl _, Kd.C_nil _ _, by simp⟩
  · obtain rfl : v = .slice (some a) len cap := by simpa using h0
    have hlm : len ≤ m := by rw [hmm]; split <;> omega
    have hex : ∀ i, i < len → ∃ x, w.cells? base (a.add (i * k)) k = some (enc x) ∧ good x := fun i hlt => by
      obtain ⟨cs', h2, h3⟩ := hi i (by omega)
      obtain ⟨x, rfl, hg⟩ := hel _ _ _ h3
      rw [hc] at h2
      exact ⟨x, h2, hg⟩
    obtain ⟨l, hlen, hall⟩ : ∃ l : List α, l.length = len ∧ ∀ i x, l[i]? = some x → w.cells? base (a.add (i * k)) k = some (enc x) ∧ good x := by
      clear hi hx h h0 hlm hmm hl hm
      induction len with
      | zero => exact ⟨[], rfl, by simp⟩
      | succ q ih =>
        obtain ⟨l, h2, h3⟩ := ih (fun i hi => hex i (by omega))
        obtain ⟨x, h4⟩ := hex q (by omega)
        refine ⟨l ++ [x], by simp [h2], fun i z hz => ?_⟩
        rcases Nat.lt_or_ge i l.length with hlt | hge
        · rw [List.getElem?_append_left hlt] at hz
          exact h3 i z hz
        · have : i = l.length := by
            have := (List.getElem?_eq_some_iff.1 hz).1
            simp at this
            omega
          subst this
          have : x = z := by simpa using hz
          subst this
          rw [h2]
          exact h4
    subst hlen
    refine ⟨some a, cap, l, rfl, hl, ⟨rfl, by unfold maxLen at hm; omega, fun _ => ⟨a, rfl, fun j p hj => ?_⟩⟩, fun x hx => ?_⟩
    · refine ⟨enc p, hk p, rfl, fun i u hu => ?_⟩
      have hlt : i < k := by
        have := (List.getElem?_eq_some_iff.1 hu).1
        rwa [hk] at this
      have h2 := ((World.cells?_some (hall j p hj).1).2.2) i hlt
      rw [hu] at h2
      rw [← h2]
      rw [Addr.add_add]
      rfl
    · obtain ⟨i, hi, rfl⟩ := List.getElem_of_mem hx
      exact (hall i _ (List.getElem?_eq_getElem hi)).2
end


section
variable {H : Type} {eH : TypeId × Value → H} {w : World} {base : Nat} {spare : Nat → Bool} {held : Bool}
def wfI (a : Int) : Prop := (Lit.int .i64 a).wf = true
theorem el_int {n : Nat} {cs : List Value} {y : DataW H × List MemPlace} (h : DataW.trod eH Tryd.prog w base spare held n 3 cs = some y) : ∃ a, cs = [.int .i64 a] ∧ wfI a := by
  obtain ⟨a, h1, _, h2⟩ := DataW.trod_int Tryd.underlying3 h
  exact ⟨a, h1, h2⟩
/-- A slice of whole numbers that came in. -/
theorem open_ints' {fuel : Nat} {v : Value} {y : DataW H × List MemPlace} (h : DataW.trod eH Tryd.prog w base spare held fuel 22 [v] = some y) :
    ∃ A c l, v = .slice A l.length c ∧ l.length ≤ c ∧ (Kd.int .i64).C w A l.length l ∧ ∀ x ∈ l, wfI x :=
  open_flat (enc := fun x : Int => [Value.int .i64 x]) (k := 1) (hk := fun _ => rfl) (h1 := fun x v hv => by rw [List.mem_singleton.1 hv]; rfl) Tryd.underlying22 (by kernel_rfl) (fun n cs y h => el_int h) h
end

/-- The tables that the rows list. -/
def laid3 : List (String × DataW Unit) := [("math/bits.deBruijn32tab", Rows.laid_math_bits_deBruijn32tab), ("math/bits.deBruijn64tab", Rows.laid_math_bits_deBruijn64tab), ("internal/strconv.uint64pow10", Rows.laid_internal_strconv_uint64pow10)]
theorem gPow : Tryd.prog.globalNamed "internal/strconv.uint64pow10" = some 1 := by kernel_rfl
set_option maxRecDepth 100000 in
theorem tab_of_laid {W : World} (h : laidMetH Tryd.prog laid3 W) : Lib.TabIs Tryd.prog W "internal/strconv.uint64pow10" .u64 Lib.pow10Tab := by
  rw [MakeChecks.laidMetH_plain _ _ _ (by kernel_rfl)] at h
  exact Lib.tabIs_of_head (t := 208) (e := 29) (n := 20) gPow (by kernel_rfl) (by kernel_rfl) (by kernel_rfl) (by kernel_rfl) (by kernel_rfl) h.tail.tail
theorem own : ownKnob Tryd.prog.godebug = none := by kernel_rfl
theorem laidOut : laidOutB Tryd.prog = true := by kernel_rfl
/-- The door's own heap meets the condition. -/
theorem door_met (os : Os) (args : Array Value) : laidMetH Tryd.prog laid3 ((World.doorLaid Tryd.prog 400 os).forCall (fun _ _ => 0) ⟨#[], args, []⟩).memory :=
  laidMetH_of_parts3 (fuel := 8) (laidMet_of_run' 8 (by kernel_rfl) (by kernel_rfl)) (by kernel_rfl) (by kernel_rfl)
end Go.Proofs.YtdpbkpfdokgolaaDoor
