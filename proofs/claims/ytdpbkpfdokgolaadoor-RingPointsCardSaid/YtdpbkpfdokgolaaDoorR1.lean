/- The points of the ring: their order; the sort over rows of them. -/
import Derived.Test.YtdpbkpfdokgolaaDoorBase
import Derived.Test.YtdpbkpfdokgolaaDoorShelf
import Derived.Test.YtdpbkpfdokgolaaDoorC2
set_option linter.unusedVariables false
set_option linter.unusedSimpArgs false
namespace Go.Proofs.YtdpbkpfdokgolaaDoor
open Go.RowKit Go.Proofs.YtdpbkpfdokgolaaDoorW.PrintWords Go.Sort

structure Pt where
  at_ : Int
  c : Int
  i : Int
instance : Inhabited Pt := ⟨⟨0, 0, 0⟩⟩
def encPt (x : Pt) : List Value := [.int .u64 x.at_, .int .i64 x.c, .int .i64 x.i]
theorem encPt_len (x : Pt) : (encPt x).length = 3 := rfl
theorem encPt_one (x : Pt) : ∀ v ∈ encPt x, v.oneCell' = true := by simp [encPt, Value.oneCell']
def kPt : Kd Pt := flatKd encPt 3 encPt_len encPt_one

def cfPt (x y : Pt) : Int := firstNZ [cmpI x.at_ y.at_, cmpI x.c y.c, cmpI x.i y.i]

def ltPt (x y : Pt) : Prop := x.at_ < y.at_ ∨ (x.at_ = y.at_ ∧ (x.c < y.c ∨ (x.c = y.c ∧ x.i < y.i)))
instance (x y : Pt) : Decidable (ltPt x y) := by unfold ltPt; infer_instance
theorem cmpI_lt {a b : Int} (h : a < b) : cmpI a b = -1 := by simp [cmpI, h]
theorem cmpI_gt {a b : Int} (h : b < a) : cmpI a b = 1 := by simp [cmpI, h, show ¬ a < b by omega]
theorem cmpI_eq (a : Int) : cmpI a a = 0 := by simp [cmpI]
theorem cfPt_lt (x y : Pt) : cfPt x y < 0 ↔ ltPt x y := by
  unfold cfPt ltPt
  rcases Int.lt_trichotomy x.at_ y.at_ with h | h | h
  · simp [firstNZ, cmpI_lt h, h]
  · rw [h, cmpI_eq]
    rcases Int.lt_trichotomy x.c y.c with h2 | h2 | h2
    · simp [firstNZ, cmpI_lt h2, h2]
    · rw [h2, cmpI_eq]
      rcases Int.lt_trichotomy x.i y.i with h3 | h3 | h3
      · simp [firstNZ, cmpI_lt h3, h3]
      · rw [h3, cmpI_eq]; simp [firstNZ]
      · simp [firstNZ, cmpI_gt h3]; omega
    · simp [firstNZ, cmpI_gt h2]; omega
  · simp [firstNZ, cmpI_gt h]; omega
theorem ltOf_cfPt (x y : Pt) : ltOf cfPt x y = decide (ltPt x y) := by
  unfold ltOf
  exact decide_eq_decide.2 (cfPt_lt x y)
theorem swoPt : SWO (ltOf cfPt) where
  irrefl x := by rw [ltOf_cfPt]; simp [ltPt]
  trans x y z h1 h2 := by
    rw [ltOf_cfPt] at h1 h2 ⊢
    have a := of_decide_eq_true h1
    have b := of_decide_eq_true h2
    refine decide_eq_true ?_
    unfold ltPt at a b ⊢
    omega
  ntrans x y z h1 h2 := by
    rw [ltOf_cfPt] at h1 h2 ⊢
    have a := of_decide_eq_false h1
    have b := of_decide_eq_false h2
    refine decide_eq_false ?_
    unfold ltPt at a b ⊢
    omega
theorem totPt (x y : Pt) (h1 : ltOf cfPt x y = false) (h2 : ltOf cfPt y x = false) : x = y := by
  rw [ltOf_cfPt] at h1 h2
  have h1 := of_decide_eq_false h1
  have h2 := of_decide_eq_false h2
  unfold ltPt at h1 h2
  obtain ⟨a, b, c⟩ := x
  obtain ⟨d, e, f⟩ := y
  simp only [Pt.mk.injEq]
  simp only at h1 h2
  omega


theorem or3 (b : Nat) (r1 r2 r3 : Int) (w : World)
    (h0 : w.cell? ⟨b, 0, none⟩ = some (.int .i64 r1)) (h1 : w.cell? ⟨b, 1, none⟩ = some (.int .i64 r2)) (h2 : w.cell? ⟨b, 2, none⟩ = some (.int .i64 r3)) :
    Calls Tryd.prog 83 #[.slice (some ⟨b, 0, none⟩) 3 3] w fun e w' => e = .returned (.int .i64 (firstNZ [r1, r2, r3])) ∧ w' = w :=
  or_any b 0 3 [r1, r2, r3] w (by simp) (fun i hi => by
    match i, hi with
    | 0, _ => exact h0
    | 1, _ => exact h1
    | 2, _ => exact h2)

set_option maxRecDepth 20000 in
set_option maxHeartbeats 400000 in
theorem compare_any (a b c x y z : Int) (w : World) :
    Calls Tryd.prog 63 #[.agg #[.int .u64 a, .int .i64 b, .int .i64 c], .agg #[.int .u64 x, .int .i64 y, .int .i64 z]] w fun e w' => e = .returned (.int .i64 (firstNZ [cmpI a x, cmpI b y, cmpI c z])) ∧ ∃ q os', w' = grow (w.drewN q) os' := by
  have h1 := fun W => cmpu_any a x W
  have h2 := fun W => cmp_any b y W
  have h3 := fun W => cmp_any c z W
  generalize cmpI a x = r1 at h1 ⊢
  generalize cmpI b y = r2 at h2 ⊢
  generalize cmpI c z = r3 at h3 ⊢
  go_enter Tryd.func63, Tryd.ntmps63
  go_wp2
  refine wp_region_still_tail 15 (by kernel_rfl) (by kernel_rfl) ?_
  simp only [List.take_succ_cons, List.take_zero, List.drop_succ_cons, List.drop_zero]
  change wpStill _ _ (World.drew ((w.alloc _).alloc _)) _ _ _
  iterate 4 still_step
  still_call (h1 _)
  iterate 4 still_step
  still_call (h2 _)
  iterate 4 still_step
  still_call (h3 _)
  refine wpStill_nil ?_
  change wpList _ _ _ _ _ (World.drew ((w.alloc _).alloc _))
  go_wp2_with (go_at_call 83; (refine (or3 _ r1 r2 r3 _ ?_ ?_ ?_).mono ?_; (go_simp); (go_simp); (go_simp); rintro e w' ⟨rfl, rfl⟩))
  go_ret
  exact ⟨rfl, 1, _, by rw [alloc_eq_grow, alloc_eq_grow, alloc_eq_grow, grow_grow]; show grow (grow w.drew _) _ = _; rw [grow_grow]; rfl⟩

end Go.Proofs.YtdpbkpfdokgolaaDoor
