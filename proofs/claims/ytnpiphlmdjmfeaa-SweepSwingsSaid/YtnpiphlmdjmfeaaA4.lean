/- The order of places and of sizes; the sort over rows of them. -/
import Derived.Test.YtnpiphlmdjmfeaaBase
import Derived.Test.YtnpiphlmdjmfeaaShelf
import Derived.Test.YtnpiphlmdjmfeaaA2
set_option linter.unusedVariables false
set_option linter.unusedSimpArgs false
namespace Go.Proofs.Ytnpiphlmdjmfeaa
open Go.RowKit Go.Proofs.YtnpiphlmdjmfeaaW.PrintWords Go.Sort

structure Pl where
  f : Int
  a : Int
  l : Int
instance : Inhabited Pl := ⟨⟨0, 0, 0⟩⟩
structure Sz where
  f : Int
  b : Int
instance : Inhabited Sz := ⟨⟨0, 0⟩⟩
def encPl (x : Pl) : List Value := [.int .i64 x.f, .int .i64 x.a, .int .i64 x.l]
def encSz (x : Sz) : List Value := [.int .i64 x.f, .int .i64 x.b]
theorem encPl_len (x : Pl) : (encPl x).length = 3 := rfl
theorem encSz_len (x : Sz) : (encSz x).length = 2 := rfl
theorem encPl_one (x : Pl) : ∀ v ∈ encPl x, v.oneCell' = true := by simp [encPl, Value.oneCell']
theorem encSz_one (x : Sz) : ∀ v ∈ encSz x, v.oneCell' = true := by simp [encSz, Value.oneCell']
def kPl : Kd Pl := flatKd encPl 3 encPl_len encPl_one
def kSz : Kd Sz := flatKd encSz 2 encSz_len encSz_one

def cfPl (x y : Pl) : Int := firstNZ [cmpI x.f y.f, cmpI x.a y.a, cmpI x.l y.l]
def cfSz (x y : Sz) : Int := cmpI x.f y.f

def ltPl (x y : Pl) : Prop := x.f < y.f ∨ (x.f = y.f ∧ (x.a < y.a ∨ (x.a = y.a ∧ x.l < y.l)))
instance (x y : Pl) : Decidable (ltPl x y) := by unfold ltPl; infer_instance
theorem cmpI_lt {a b : Int} (h : a < b) : cmpI a b = -1 := by simp [cmpI, h]
theorem cmpI_gt {a b : Int} (h : b < a) : cmpI a b = 1 := by simp [cmpI, h, show ¬ a < b by omega]
theorem cmpI_eq (a : Int) : cmpI a a = 0 := by simp [cmpI]
theorem cfPl_lt (x y : Pl) : cfPl x y < 0 ↔ ltPl x y := by
  unfold cfPl ltPl
  rcases Int.lt_trichotomy x.f y.f with h | h | h
  · simp [firstNZ, cmpI_lt h, h]
  · rw [h, cmpI_eq]
    rcases Int.lt_trichotomy x.a y.a with h2 | h2 | h2
    · simp [firstNZ, cmpI_lt h2, h2]
    · rw [h2, cmpI_eq]
      rcases Int.lt_trichotomy x.l y.l with h3 | h3 | h3
      · simp [firstNZ, cmpI_lt h3, h3]
      · rw [h3, cmpI_eq]; simp [firstNZ]
      · simp [firstNZ, cmpI_gt h3]; omega
    · simp [firstNZ, cmpI_gt h2]; omega
  · simp [firstNZ, cmpI_gt h]; omega
theorem ltOf_cfPl (x y : Pl) : ltOf cfPl x y = decide (ltPl x y) := by
  unfold ltOf
  exact decide_eq_decide.2 (cfPl_lt x y)
theorem swoPl : SWO (ltOf cfPl) where
  irrefl x := by rw [ltOf_cfPl]; simp [ltPl]
  trans x y z h1 h2 := by
    rw [ltOf_cfPl] at h1 h2 ⊢
    have a := of_decide_eq_true h1
    have b := of_decide_eq_true h2
    refine decide_eq_true ?_
    unfold ltPl at a b ⊢
    omega
  ntrans x y z h1 h2 := by
    rw [ltOf_cfPl] at h1 h2 ⊢
    have a := of_decide_eq_false h1
    have b := of_decide_eq_false h2
    refine decide_eq_false ?_
    unfold ltPl at a b ⊢
    omega
theorem totPl (x y : Pl) (h1 : ltOf cfPl x y = false) (h2 : ltOf cfPl y x = false) : x = y := by
  rw [ltOf_cfPl] at h1 h2
  have h1 := of_decide_eq_false h1
  have h2 := of_decide_eq_false h2
  unfold ltPl at h1 h2
  obtain ⟨a, b, c⟩ := x
  obtain ⟨d, e, f⟩ := y
  simp only [Pl.mk.injEq]
  simp only at h1 h2
  omega

theorem ltOf_cfSz (x y : Sz) : ltOf cfSz x y = decide (x.f < y.f) := by
  unfold ltOf cfSz cmpI
  by_cases h : x.f < y.f
  · simp [h]
  · by_cases h2 : y.f < x.f <;> simp [h, h2]
theorem swoSz : SWO (ltOf cfSz) where
  irrefl x := by rw [ltOf_cfSz]; simp
  trans x y z h1 h2 := by rw [ltOf_cfSz] at *; simp only [decide_eq_true_eq] at *; omega
  ntrans x y z h1 h2 := by rw [ltOf_cfSz] at *; simp only [decide_eq_false_iff_not] at *; omega

theorem or3 (b : Nat) (r1 r2 r3 : Int) (w : World)
    (h0 : w.cell? ⟨b, 0, none⟩ = some (.int .i64 r1)) (h1 : w.cell? ⟨b, 1, none⟩ = some (.int .i64 r2)) (h2 : w.cell? ⟨b, 2, none⟩ = some (.int .i64 r3)) :
    Calls Try.prog 27 #[.slice (some ⟨b, 0, none⟩) 3 3] w fun e w' => e = .returned (.int .i64 (firstNZ [r1, r2, r3])) ∧ w' = w :=
  or_any b 0 3 [r1, r2, r3] w (by simp) (fun i hi => by
    match i, hi with
    | 0, _ => exact h0
    | 1, _ => exact h1
    | 2, _ => exact h2)

set_option maxRecDepth 20000 in
set_option maxHeartbeats 400000 in
theorem compare_any (a b c x y z : Int) (w : World) :
    Calls Try.prog 20 #[.agg #[.int .i64 a, .int .i64 b, .int .i64 c], .agg #[.int .i64 x, .int .i64 y, .int .i64 z]] w fun e w' => e = .returned (.int .i64 (firstNZ [cmpI a x, cmpI b y, cmpI c z])) ∧ ∃ q os', w' = grow (w.drewN q) os' := by
  have h1 := fun W => cmp_any a x W
  have h2 := fun W => cmp_any b y W
  have h3 := fun W => cmp_any c z W
  generalize cmpI a x = r1 at h1 ⊢
  generalize cmpI b y = r2 at h2 ⊢
  generalize cmpI c z = r3 at h3 ⊢
  go_enter Try.func20, Try.ntmps20
  go_wp2
  refine wp_region_still_tail 15 (by kernel_rfl) (by kernel_rfl) ?_
  simp only [List.take_succ_cons, List.take_zero, List.drop_succ_cons, List.drop_zero]
  change wpStill _ _ (World.drew ((w.alloc _).alloc _)) _ _ _
  iterate 4 still_step
  still_call (h1 _)
  iterate 4 still_step
  still_call (h2 _)
  iterate 4 still_step
  still_call (h3 _)
  refine wpStill_nil ?_
  change wpList _ _ _ _ _ (World.drew ((w.alloc _).alloc _))
  go_wp2_with (go_at_call 27; (refine (or3 _ r1 r2 r3 _ ?_ ?_ ?_).mono ?_; (go_simp); (go_simp); (go_simp); rintro e w' ⟨rfl, rfl⟩))
  go_ret
  exact ⟨rfl, 1, _, by rw [alloc_eq_grow, alloc_eq_grow, alloc_eq_grow, grow_grow]; show grow (grow w.drew _) _ = _; rw [grow_grow]; rfl⟩

set_option maxHeartbeats 400000 in
theorem less_any (a b x y : Int) (w : World) :
    Calls Try.prog 17 #[.agg #[.int .i64 a, .int .i64 b], .agg #[.int .i64 x, .int .i64 y]] w fun e w' => e = .returned (.int .i64 (cmpI a x)) ∧ ∃ q os', w' = grow (w.drewN q) os' := by
  have h1 := fun W => cmp_any a x W
  generalize cmpI a x = r1 at h1 ⊢
  go_enter Try.func17, Try.ntmps17
  go_wp2_with (go_at_call 18; refine (h1 _).mono ?_; rintro e w' ⟨rfl, rfl⟩)
  go_ret
  exact ⟨rfl, 0, _, by rw [alloc_eq_grow, alloc_eq_grow, grow_grow]; rfl⟩

/-- slices.SortFunc(out, place.compare). -/
theorem sortPl_any (base : Nat) (v : Value) (xs : List Pl) (w : World) (hown : w.ownsRow base 60 3 v xs.length (xs.flatMap encPl)) (hsz : xs.length < 4611686018427387904) :
    Calls Try.prog 19 #[v, .func (.func 20) #[] #[]] w fun en w' => en = .returned (.tuple #[]) ∧
      w'.ownsRow base 60 3 v xs.length ((xs.mergeSort fun x y => !(ltOf cfPl) y x).flatMap encPl) ∧ w.grownBy w' v.ownBlock :=
  sort_own Try.sortPl Try.isAgg60 Try.sizeOf60 encPl_len encPl_one cfPl swoPl totPl 20 (enters_of Try.func20 (by kernel_rfl) rfl) (fun x y W => compare_any x.f x.a x.l y.f y.a y.l W) base 60 v xs w hown hsz
end Go.Proofs.Ytnpiphlmdjmfeaa
