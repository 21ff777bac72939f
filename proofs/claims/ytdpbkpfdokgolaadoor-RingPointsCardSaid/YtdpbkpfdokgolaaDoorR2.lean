/- slices.SortFunc over a row of points of one's own, and the ring's method sort. -/
import Derived.Test.YtdpbkpfdokgolaaDoorR1
set_option linter.unusedVariables false
set_option linter.unusedSimpArgs false
namespace Go.Proofs.YtdpbkpfdokgolaaDoor
open Go.RowKit Go.Proofs.YtdpbkpfdokgolaaDoorW.PrintWords Go.Sort Go.Lib

theorem bitsLen_any (n : Nat) (hn : n < 4611686018427387904) (w : World) : Calls Tryd.prog 109 #[.int .u64 (n : Int)] w fun e w' => e = .returned (.int .i64 (Lib.bitLen n : Nat)) ∧ w' = w := by
  have h := Any.bits_Len Tryd.lays125 (n : Int) w (by omega) (by omega)
  rwa [Int.toNat_natCast] at h

theorem compare_pt (x y : Pt) (W : World) : Calls Tryd.prog 63 #[.agg (encPt x).toArray, .agg (encPt y).toArray] W fun e w' => e = .returned (.int .i64 (cfPt x y)) ∧ ∃ q os', w' = grow (W.drewN q) os' :=
  compare_any x.at_ x.c x.i y.at_ y.c y.i W

/-- The row's sort, at a row that is not empty. -/
theorem pdq_own (base e g0 cap : Nat) (xs : List Pt) (w : World) (hown : w.ownsRow base e 3 (.slice (some ⟨g0, 0, none⟩) xs.length cap) xs.length (xs.flatMap encPt)) (hsz : xs.length < 4611686018427387904) :
    Calls Tryd.prog 108 #[.slice (some ⟨g0, 0, none⟩) xs.length cap, .int .i64 0, .int .i64 xs.length, .int .i64 (Lib.bitLen xs.length : Nat), .func (.func 63) #[] #[]] w fun en w' => en = .returned (.tuple #[]) ∧
      w'.ownsRow base e 3 (.slice (some ⟨g0, 0, none⟩) xs.length cap) xs.length ((xs.mergeSort fun x y => !(ltOf cfPt) y x).flatMap encPt) ∧ w.grownBy w' (some g0) := by
  obtain ⟨cells, hb⟩ := own_typed hown g0 rfl
  have hc : CmpLays Tryd.prog 63 #[] encPt 3 cfPt g0 0 xs.toArray.size w := fun m os dk _ x y => by simpa using compare_pt x y _
  have hlim : Lib.bitLen xs.length < 4611686018427387904 := Nat.lt_of_le_of_lt (Lib.bitLen_le xs.length 62 (by omega) (by omega)) (by omega)
  have hp := AnyQ.pdqsortCmpFunc_all Tryd.sortPt 3 Tryd.isAgg83 Tryd.sizeOf83 encPt cfPt 63 #[] swoPt g0 0 cap xs.toArray w
    (enters_of Tryd.func63 (by kernel_rfl) rfl) hc ⟨encPt_len, encPt_one, holds_of_own encPt_len hown, blk_lt hb⟩ (xs.toArray.size + 1) 0 xs.toArray.size (Lib.bitLen xs.toArray.size) xs.toArray w (by omega) rfl (SWK.start (holds_of_own encPt_len hown)) (Nat.zero_le _) (Nat.le_refl _) (by simpa using hsz) hlim (Or.inl rfl)
  have hp2 := hp.mono (R' := fun en w' => en = .returned (.tuple #[]) ∧ ∃ n os, w' = sortWorldK encPt 3 w g0 0 n (xs.mergeSort fun x y => !(ltOf cfPt) y x).toArray os) (by
    rintro en w' ⟨he, n, os, rfl⟩
    have h := pdq_sorts (ltOf cfPt) swoPt xs.toArray 0 xs.toArray.size (Lib.bitLen xs.toArray.size) true true (Nat.zero_le _) (Nat.le_refl _) (Or.inl rfl)
    exact ⟨he, n, os, by rw [← sorted_unique_holds swoPt totPt xs.toArray _ h.1 h.2]⟩)
  simp only [List.size_toArray] at hp2
  refine Calls.mono hp2 ?_
  rintro en w' ⟨rfl, n, os, rfl⟩
  have hr := putRowK_own encPt_len hown (ys := xs.mergeSort fun x y => !(ltOf cfPt) y x) (List.length_mergeSort _) n os
  exact ⟨rfl, hr.1, hr.2⟩

/-- slices.SortFunc over a row of points of one's own, nil too. -/
theorem sortF_own (base e : Nat) (v : Value) (xs : List Pt) (w : World) (hown : w.ownsRow base e 3 v xs.length (xs.flatMap encPt)) (hsz : xs.length < 4611686018427387904) :
    Calls Tryd.prog 93 #[v, .func (.func 63) #[] #[]] w fun en w' => en = .returned (.tuple #[]) ∧
      w'.ownsRow base e 3 v xs.length ((xs.mergeSort fun x y => !(ltOf cfPt) y x).flatMap encPt) ∧ w.grownBy w' v.ownBlock := by
  rcases own_slice hown with ⟨A, c, rfl⟩
  have hl := bitsLen_any xs.length hsz w
  have wr : IntKind.u64.wrap (xs.length : Int) = xs.length := by simp [IntKind.wrap, IntKind.bits, IntKind.signed]; omega
  have HL := Lib.hid hl
  clear hl
  rcases Nat.eq_zero_or_pos xs.length with h0 | h0
  · have hx : xs = [] := List.eq_nil_of_length_eq_zero h0
    subst hx
    have hp := fun lim W => AnyF.pdqsortCmpFunc_none Tryd.sortPt A c lim (.func (.func 63) #[] #[]) W
    have HO := Lib.hid hown
    clear hown
    simp only [List.length_nil] at HL wr ⊢
    go_enter Tryd.func93, Tryd.ntmps93
    go_wp2_with (first | (go_at_call 109; refine HL.out.mono ?_; rintro e w' ⟨rfl, rfl⟩) | (go_at_call 108; refine (hp _ _).mono ?_; rintro e w' ⟨rfl, rfl⟩))
    go_end0
    exact ⟨rfl, by simpa using HO.out, ⟨rfl, rfl, rfl, Nat.le_refl _, fun _ _ _ => rfl⟩⟩
  · obtain ⟨b, cap, hv, _, _⟩ := hown.form h0
    rw [hv] at hown ⊢
    have hp := pdq_own base e b cap xs w hown hsz
    have HP := Lib.hid hp
    clear hp hown
    generalize (xs.mergeSort fun x y => !(ltOf cfPt) y x).flatMap encPt = ys at HP ⊢
    generalize xs.length = n at *
    go_enter Tryd.func93, Tryd.ntmps93
    go_wp2_with (first | (go_at_call 109; refine HL.out.mono ?_; rintro e w' ⟨rfl, rfl⟩) | (go_at_call 108; refine HP.out.mono ?_; rintro e w' ⟨rfl, hown', hgr⟩))
    go_end0
    exact ⟨rfl, hown', hgr⟩

/-- The method sort. -/
theorem sort_any (base e : Nat) (v : Value) (xs : List Pt) (w : World) (hown : w.ownsRow base e 3 v xs.length (xs.flatMap encPt)) (hsz : xs.length < 4611686018427387904) :
    Calls Tryd.prog 62 #[v, .func (.func 63) #[] #[]] w fun en w' => en = .returned (.tuple #[]) ∧
      w'.ownsRow base e 3 v xs.length ((xs.mergeSort fun x y => !(ltOf cfPt) y x).flatMap encPt) ∧ w.grownBy w' v.ownBlock := by
  have HP := Lib.hid (sortF_own base e v xs w hown hsz)
  clear hown hsz
  generalize (xs.mergeSort fun x y => !(ltOf cfPt) y x).flatMap encPt = ys at HP ⊢
  generalize xs.length = n at *
  go_enter Tryd.func62, Tryd.ntmps62
  go_wp2_with (go_at_call 93; refine HP.out.mono ?_; rintro e w' ⟨rfl, hown', hgr⟩)
  go_end0
  exact ⟨rfl, hown', hgr⟩
end Go.Proofs.YtdpbkpfdokgolaaDoor
