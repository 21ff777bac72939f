/- bytes: the live bytes of files. -/
import Derived.Test.YtnpiphlmdjmfeaaA6
import Derived.Maps.OwnSet
import Derived.Maps.Views
set_option linter.unusedVariables false
set_option linter.unusedSimpArgs false
namespace Go.Proofs.Ytnpiphlmdjmfeaa
open Go.RowKit Go.Proofs.YtnpiphlmdjmfeaaW.PrintWords Go.Maps

def wfI (n : Int) : Prop := (Lit.int .i64 n).wf = true
def wfPl (p : Pl) : Prop := wfI p.f ∧ wfI p.a ∧ wfI p.l
/-- A place that counts. -/
def okPl (p : Pl) : Bool := decide (0 ≤ p.l) && decide (p.l ≤ 65536)
/-- The live bytes of file f. -/
def heldF (l : List Pl) (f : Int) : Int := (l.map fun p => if okPl p = true ∧ p.f = f then p.l + 8 else 0).sum
/-- Is there a place that counts, of file f? -/
def hasF (l : List Pl) (f : Int) : Bool := l.any fun p => okPl p && decide (p.f = f)

theorem heldF_snoc (l : List Pl) (p : Pl) (f : Int) : heldF (l ++ [p]) f = heldF l f + if okPl p = true ∧ p.f = f then p.l + 8 else 0 := by simp [heldF]
theorem hasF_snoc (l : List Pl) (p : Pl) (f : Int) : hasF (l ++ [p]) f = (hasF l f || (okPl p && decide (p.f = f))) := by simp [hasF]
theorem heldF_bd (l : List Pl) (f : Int) : 0 ≤ heldF l f ∧ heldF l f ≤ 65544 * l.length := by
  induction l with
  | nil => simp [heldF]
  | cons p r ih =>
    unfold heldF at ih ⊢
    simp only [List.map_cons, List.sum_cons, List.length_cons]
    split
    · rename_i h
      obtain ⟨h1, h2⟩ : 0 ≤ p.l ∧ p.l ≤ 65536 := by simpa [okPl] using h.1
      push_cast
      omega
    · push_cast
      omega

theorem law3 : Keyed Try.prog 3 := int_keyed Try.underlying3
theorem zero3 (w : World) : (zeroValue 3).run Try.prog w = .ok (.int .i64 0) w := by kernel_rfl

/-- The map D tells of each file its live bytes. -/
structure Tells (l : List Pl) (D : DataW Unit) : Prop where
  tidy : Tidy D
  at_ : ∀ f, wfI f → D.atKey (.int .i64 f) (.lit (.int .i64 0)) = .lit (.int .i64 (heldF l f))
  has_ : ∀ f, wfI f → has D (.int .i64 f) = hasF l f

def BytesPost (l : List Pl) (w : World) (e : Ending) (w' : World) : Prop :=
  ∃ b D, e = .returned (.map (some b)) ∧ w.heap.size ≤ b ∧ w'.ownsMap Try.prog 3 (plainElem Try.prog 3) b l.length D ∧ Tells l D ∧ Below w.heap.size w w'

theorem keyI (f : Int) : WideAt.IsKeyLit (.int .i64 f) := by simp [WideAt.IsKeyLit]
theorem litI_ne {a b : Int} (h : a ≠ b) : (Lit.int .i64 a) ≠ .int .i64 b := by simp [h]
theorem wfI_iff (n : Int) : wfI n ↔ -9223372036854775808 ≤ n ∧ n ≤ 9223372036854775807 := by
  unfold wfI
  simp [Lit.wf, IntKind.min, IntKind.max, IntKind.signed, IntKind.bits]

theorem Tells.empty : Tells [] (.map []) := ⟨tidy_empty, fun f _ => by simp [DataW.atKey, heldF], fun f _ => by simp [has, hasF]⟩
theorem Tells.skip {l : List Pl} {D : DataW Unit} {p : Pl} (h : Tells l D) (hp : okPl p = false) : Tells (l ++ [p]) D :=
  ⟨h.tidy, fun f hf => by rw [h.at_ f hf, heldF_snoc]; simp [hp], fun f hf => by rw [h.has_ f hf, hasF_snoc]; simp [hp]⟩
theorem Tells.take {l : List Pl} {D : DataW Unit} {p : Pl} (h : Tells l D) (hp : okPl p = true) (hw : wfI p.f) : Tells (l ++ [p]) (D.put (.int .i64 p.f) (.lit (.int .i64 (heldF l p.f + (p.l + 8))))) := by
  refine ⟨h.tidy.put (keyI _) _, fun f hf => ?_, fun f hf => ?_⟩
  · rw [heldF_snoc]
    by_cases e : p.f = f
    · subst e
      rw [atKey_put_same h.tidy.isMap (keyI _)]
      simp [hp]
    · rw [atKey_put_other (litI_ne (fun h => e h.symm)), h.at_ f hf]
      simp [e]
  · rw [hasF_snoc]
    by_cases e : p.f = f
    · subst e
      rw [has_put_same h.tidy.isMap (keyI _)]
      simp [hp]
    · rw [has_put_other (litI_ne (fun h => e h.symm)), h.has_ f hf]
      simp [e]

set_option maxRecDepth 20000 in
set_option maxHeartbeats 1000000 in
theorem bytes_any (A : Option Addr) (c : Nat) (l : List Pl) (n : Nat) (w : World) (hn : l.length = n) (hr : kPl.C w A n l) (hw : ∀ p ∈ l, wfPl p) (h : n ≤ 4096) :
    Calls Try.prog 14 #[.slice A n c] w (BytesPost l w) := by
  have HR := Lib.hid hr
  have HN := Lib.hid hn
  have HW := Lib.hid hw
  clear hr hn hw
  have hmm := @run_makeMap Try.prog
  go_enter Try.func14, Try.ntmps14
  go_wp2
  go_loopw [9] (fun s9 wr => ∃ k : Nat, k ≤ n ∧ s9 = .int .i64 k ∧ Hid (∃ D, wr.ownsMap Try.prog 3 (plainElem Try.prog 3) w.heap.size k D ∧ Tells (l.take k) D) ∧ Below w.heap.size w wr) (fun s9 _ => n - (intOf s9).toNat)
  case atStart => exact ⟨0, Nat.zero_le _, rfl, ⟨_, World.ownsMap_made _ _ _ _, Tells.empty⟩, (Below.refl _ _).alloc (Nat.le_refl _) _⟩
  case round =>
    obtain ⟨k, hk, rfl, HM, hb⟩ := hrel
    by_cases hlt : k < n
    · obtain ⟨ad, rfl, c0, c1, c2⟩ := pl_at (Kd.C_below HR.out hb) k hlt
      have hwx : wfPl (l.getD k default) := by
        apply HW.out
        rw [List.getD_eq_getElem?_getD, List.getElem?_eq_getElem (show k < l.length by rw [HN.out]; exact hlt)]
        exact List.getElem_mem _
      have hsn : l.take (k + 1) = l.take k ++ [l.getD k default] := by
        rw [List.take_succ_eq_append_getElem (show k < l.length by rw [HN.out]; exact hlt), List.getD_eq_getElem?_getD, List.getElem?_eq_getElem (show k < l.length by rw [HN.out]; exact hlt)]
        rfl
      generalize l.getD k default = x at c0 c1 c2 hwx hsn
      have HS := Lib.hid hsn
      have HWX := Lib.hid hwx
      have HB := Lib.hid hb
      clear hsn hwx hb
      have hbl := HB.out.size
      by_cases hlo : 0 ≤ x.l
      · by_cases hhi : x.l ≤ 65536
        · have hok : okPl x = true := by simp [okPl, hlo, hhi]
          have HK := Lib.hid hok
          clear hok
          obtain ⟨D, hM, hT⟩ := HM.out
          have hkey : keyOf Try.prog 3 (.int .i64 x.f) = some (.int .i64 x.f) := keyOf_int_mk Try.underlying3 HWX.out.1
          have hbd := heldF_bd (l.take k) x.f
          have hat := hT.at_ x.f HWX.out.1
          generalize hq : heldF (l.take k) x.f = q at hat hbd
          have HQ := Lib.hid hq
          have hlk : (l.take k).length ≤ 4096 := by rw [List.length_take]; omega
          obtain ⟨c, hrun, hat2, -⟩ := (hM.alloc (.cells #[.int .i64 x.f, .int .i64 x.a, .int .i64 x.l] 60)).lookup_int law3 Try.underlying53 Try.underlying3 (zero3 _) hkey
          have hcq : c = q := by rw [hat] at hat2; simpa using hat2.symm
          subst hcq
          obtain ⟨w1, hup, hM1, hg1⟩ := (hM.alloc (.cells #[.int .i64 x.f, .int .i64 x.a, .int .i64 x.l] 60)).update law3 Try.underlying53 (by unfold maxLen; omega) hkey (plainElem_int Try.underlying3 (a := c + (x.l + 8)) ((wfI_iff _).2 (by omega)))
          have HM1 := Lib.hid hM1
          have HG1 := Lib.hid hg1
          have HT := Lib.hid hT
          clear hM hat hat2 hM1 hg1 hT hq HM hkey
          have hq0 := hbd.1
          have hq1 : c ≤ 300000000 := by omega
          clear hbd hlk
          go_wp2
          go_roundw
          case rel =>
            refine ⟨k + 1, by omega, by go_num, ⟨_, HM1.out, ?_⟩, ?_⟩
            · rw [HS.out, ← HQ.out]; exact HT.out.take HK.out HWX.out.1
            · exact (HB.out.alloc hbl _).grown HG1.out (by simp; omega) (fun j hj => by cases hj; exact Nat.le_refl _)
          case measure => simp [intOf]; omega
        · have hok : okPl x = false := by simp [okPl, hhi]
          have HK := Lib.hid hok
          clear hok
          go_wp2
          go_roundw
          case rel =>
            obtain ⟨D, hM, hT⟩ := HM.out
            exact ⟨k + 1, by omega, by go_num, ⟨D, (hM.alloc _).mono (by omega), by rw [HS.out]; exact hT.skip HK.out⟩, HB.out.alloc hbl _⟩
          case measure => simp [intOf]; omega
      · have hok : okPl x = false := by simp [okPl, hlo]
        have HK := Lib.hid hok
        clear hok
        go_wp2
        go_roundw
        case rel =>
          obtain ⟨D, hM, hT⟩ := HM.out
          exact ⟨k + 1, by omega, by go_num, ⟨D, (hM.alloc _).mono (by omega), by rw [HS.out]; exact hT.skip HK.out⟩, HB.out.alloc hbl _⟩
        case measure => simp [intOf]; omega
    · have hend : k = n := by omega
      subst hend
      have HB := Lib.hid hb
      clear hb
      go_wp2
      go_ret
      obtain ⟨D, hM, hT⟩ := HM.out
      rw [← HN.out, List.take_length] at hT
      exact ⟨_, D, rfl, Nat.le_refl _, by rw [HN.out]; exact hM, hT, HB.out⟩
end Go.Proofs.Ytnpiphlmdjmfeaa
