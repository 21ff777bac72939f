/- Live: of each file its live bytes. -/
import Derived.Test.YtnpiphlmdjmfeaaA8
import Derived.Maps.RangeWalk
set_option linter.unusedVariables false
set_option linter.unusedSimpArgs false
namespace Go.Proofs.Ytnpiphlmdjmfeaa
open Go.RowKit Go.Proofs.YtnpiphlmdjmfeaaW.PrintWords Go.Maps

/-- A size's cells, its file given, its bytes told by h. -/
def encG (h : Int → Int) (f : Int) : List Value := [.int .i64 f, .int .i64 (h f)]
theorem encG_len (h : Int → Int) (f : Int) : (encG h f).length = 2 := rfl
theorem encG_one (h : Int → Int) (f : Int) : ∀ v ∈ encG h f, v.oneCell' = true := by simp [encG, Value.oneCell']
theorem ltOf_cmpI (x y : Int) : ltOf cmpI x y = decide (x < y) := by
  unfold ltOf cmpI
  by_cases h : x < y
  · simp [h]
  · by_cases h2 : y < x <;> simp [h, h2]
theorem swoI : Sort.SWO (ltOf cmpI) where
  irrefl x := by rw [ltOf_cmpI]; simp
  trans x y z h1 h2 := by rw [ltOf_cmpI] at *; simp only [decide_eq_true_eq] at *; omega
  ntrans x y z h1 h2 := by rw [ltOf_cmpI] at *; simp only [decide_eq_false_iff_not] at *; omega
theorem totI (x y : Int) (h1 : ltOf cmpI x y = false) (h2 : ltOf cmpI y x = false) : x = y := by
  rw [ltOf_cmpI] at h1 h2
  simp only [decide_eq_false_iff_not] at h1 h2
  omega

theorem sortSz_any (h : Int → Int) (base : Nat) (v : Value) (xs : List Int) (w : World) (hown : w.ownsRow base 34 2 v xs.length (xs.flatMap (encG h))) (hsz : xs.length < 4611686018427387904) :
    Calls Try.prog 16 #[v, .func (.func 17) #[] #[]] w fun en w' => en = .returned (.tuple #[]) ∧
      w'.ownsRow base 34 2 v xs.length ((xs.mergeSort fun x y => !(ltOf cmpI) y x).flatMap (encG h)) ∧ w.grownBy w' v.ownBlock :=
  sort_own Try.sortSz Try.isAgg34 Try.sizeOf34 (encG_len h) (encG_one h) cmpI swoI totI 17 (enters_of Try.func17 (by kernel_rfl) rfl) (fun x y W => less_any x (h x) y (h y) W) base 34 v xs w hown hsz

theorem info34 : (Try.prog.info? 34).map (fun i => (i.zero, i.size, i.bytes)) = some (some (.agg #[.int .i64 0, .int .i64 0]), 2, 16) := by kernel_rfl

/-- The files of live bytes that were met so far. -/
structure Met (l : List Pl) (left : Lit → Bool) (acc : List Int) : Prop where
  once : acc.Nodup
  wf : ∀ f ∈ acc, wfI f
  mem : ∀ f, wfI f → (f ∈ acc ↔ hasF l f = true ∧ left (.int .i64 f) = false)

def LivePost (l : List Pl) (w : World) (e : Ending) (w' : World) : Prop :=
  ∃ (v : Value) (fs : List Int), e = .returned (.tuple #[v, .int .i64 0]) ∧ w'.ownsRow w.heap.size 34 2 v fs.length (fs.flatMap (encG (heldF (onceF l)))) ∧ fs.Pairwise (· < ·) ∧ (∀ f ∈ fs, wfI f) ∧ (∀ f, wfI f → (f ∈ fs ↔ hasF (onceF l) f = true)) ∧ Below w.heap.size w w'

theorem sorted_lt (acc : List Int) (h : acc.Nodup) : (acc.mergeSort fun x y => !(ltOf cmpI) y x).Pairwise (· < ·) := by
  have h1 := List.pairwise_mergeSort (le := fun x y : Int => !(ltOf cmpI) y x) (by intro a b c; simp only [ltOf_cmpI, Bool.not_eq_true', decide_eq_false_iff_not]; omega) (by intro a b; simp only [ltOf_cmpI, Bool.or_eq_true, Bool.not_eq_true', decide_eq_false_iff_not]; omega) acc
  have h2 : (acc.mergeSort fun x y => !(ltOf cmpI) y x).Nodup := (List.mergeSort_perm acc _).nodup_iff.2 h
  refine (h1.and h2).imp ?_
  intro a b hab
  obtain ⟨h3, h4⟩ := hab
  simp only [ltOf_cmpI, Bool.not_eq_true', decide_eq_false_iff_not] at h3
  omega

theorem map_size {w : World} {b n : Nat} {D : DataW Unit} (h : w.ownsMap Try.prog 3 (plainElem Try.prog 3) b n D) : size D ≤ n := by
  obtain ⟨es, clock, _, _, hs, rfl⟩ := h
  show (List.foldr DataW.insert [] _).length ≤ n
  rw [length_sorted]
  simpa using hs
theorem below_of_grown {w w' : World} (h : w.grownBy w' none) : Below w.heap.size w w' := ⟨h.os, h.tape, h.output, h.size, fun k hk => h.block k hk (by simp)⟩
theorem below_from {B : Nat} {w w' : World} {r : Nat} (h : w.grownBy w' (some r)) (hr : B ≤ r) (hB : B ≤ w.heap.size) : Below B w w' := ⟨h.os, h.tape, h.output, h.size, fun k hk => h.block k (by omega) (by intro e; cases e; omega)⟩
theorem Met.step {l : List Pl} {left : Lit → Bool} {acc : List Int} (h : Met l left acc) {x : Int} (hw : wfI x) (hl : left (.int .i64 x) = true) (hh : hasF l x = true) : Met l (fun z => left z && !z.sameKey (.int .i64 x)) (acc ++ [x]) := by
  have hx : x ∉ acc := fun hx => by have := ((h.mem x hw).1 hx).2; rw [hl] at this; cases this
  refine ⟨?_, ?_, ?_⟩
  · rw [List.nodup_append]
    refine ⟨h.once, by simp, ?_⟩
    intro a ha b hb
    rw [List.mem_singleton.1 hb]
    intro e
    exact hx (e ▸ ha)
  · intro f hf
    rcases List.mem_append.1 hf with hf | hf
    · exact h.wf f hf
    · rw [List.mem_singleton.1 hf]; exact hw
  · intro f hf
    rw [List.mem_append, List.mem_singleton, h.mem f hf]
    by_cases e : f = x
    · subst e
      have : (Lit.int .i64 f).sameKey (.int .i64 f) = true := by simp [Lit.sameKey]
      simp [this, hh]
    · have : (Lit.int .i64 f).sameKey (.int .i64 x) = false := sameKey_ne (litI_ne e)
      simp [this, e]

set_option maxRecDepth 20000 in
set_option maxHeartbeats 2000000 in
theorem live_any (A : Option Addr) (c n : Nat) (l : List Pl) (w : World) (hn : l.length = n) (hr : kPl.C w A n l) (hwl : ∀ p ∈ l, wfPl p) (h : n ≤ 4096) :
    Calls Try.prog 11 #[.slice A n c] w (LivePost l w) := by
  have HN := Lib.hid hn
  have HR := Lib.hid hr
  have HWL := Lib.hid hwl
  clear hn hr hwl
  go_enter Try.func11, Try.ntmps11
  go_wp2_with fail
  refine (once_any A c l n w HN.out HR.out h).mono ?_
  rintro e w1 ⟨v1, rfl, ho1, hb1⟩
  have HO1 := Lib.hid ho1
  have HB1 := Lib.hid hb1
  clear ho1 hb1
  have hol := onceF_len l
  obtain ⟨A1, c1, rfl⟩ := own_slice HO1.out
  have HC : Hid (kPl.C w1 A1 (onceF l).length (onceF l)) := by
    obtain ⟨A', c', e, _, hc⟩ := Kd.R_reads (flat_own_R (hk := encPl_len) (h1 := encPl_one) HO1.out)
    cases e
    exact hc
  go_wp2_with fail
  refine (bytes_any A1 c1 (onceF l) (onceF l).length w1 rfl HC.out (fun p hp => HWL.out p (onceF_mem l p hp)) (by have := HN.out; omega)).mono ?_
  rintro e w2 ⟨b, D, rfl, hbb, hmap, hT, hb2⟩
  have HMAP := Lib.hid hmap
  have HT := Lib.hid hT
  have HB2 := Lib.hid hb2
  have HBB := Lib.hid hbb
  have HOL := Lib.hid hol
  clear hmap hT hb2 hbb hol
  go_wp2_with (at_range; refine wpList_range_own _ rfl _ 53 rfl 3 3 law3 Try.underlying53 _ b (onceF l).length D rfl HMAP.out ?_; intro w0 hrg0 hg0 hs0; go_frame)
  have hsz0 := map_size HMAP.out
  have hst : Hid (Below w2.heap.size w2 w0) := below_of_grown hg0
  have HRG := Lib.hid hrg0
  have HMET : Hid (Met (onceF l) (has D) []) := ⟨List.nodup_nil, by simp, fun f hf => by rw [HT.out.has_ f hf]; cases hasF (onceF l) f <;> simp⟩
  have hcnt : ([] : List Int).length + size D ≤ 4096 := by have h1 := HOL.out; have h2 := HN.out; simp; omega
  have hsz2 : w2.heap.size < w0.heap.size := by omega
  clear hrg0 hg0 hsz0
  go_loopw [6] (fun s6 wr => ∃ (left : Lit → Bool) (cnt : Nat) (acc : List Int), Hid (wr.ranges Try.prog 3 (plainElem Try.prog 3) b w2.heap.size (onceF l).length D left cnt) ∧ Hid (wr.ownsRow (w2.heap.size + 1) 34 2 s6 acc.length (acc.flatMap (encG (heldF (onceF l))))) ∧ Hid (Below w2.heap.size w2 wr) ∧ Hid (Met (onceF l) left acc) ∧ acc.length + cnt ≤ 4096 ∧ w2.heap.size < wr.heap.size) (fun _ wr => wr.rangeLeft b w2.heap.size)
  case atStart => exact ⟨_, _, [], HRG.out, own_nil _ _ _ _, hst.out, HMET.out, hcnt, hsz2⟩
  case round =>
    clear HMET hcnt hsz2 HRG hst
    obtain ⟨left, cnt, acc, HRG, HOUT, HB3, HMET, hcnt, hszr⟩ := hrel
    go_wp2_with (at_next; refine wpList_next_ranges_ii _ rfl _ rfl 3 3 .i64 .i64 law3 Try.underlying3 Try.underlying3 b w2.heap.size (onceF l).length _ _ _ rfl HRG.out ?_ ?_)
    · intro _ hl0
      have hM2 : Hid (∀ f, wfI f → (f ∈ acc ↔ hasF (onceF l) f = true)) := fun f hf => by rw [HMET.out.mem f hf, hl0]; simp
      have hso := sorted_lt acc HMET.out.once
      have HSO := Lib.hid hso
      have hls : acc.length < 4611686018427387904 := by omega
      have HBW : Hid (Below w.heap.size w wr) := ((HB1.out.trans (HB2.out.mono HB1.out.size)).trans (HB3.out.mono (Nat.le_trans HB1.out.size HB2.out.size)))
      have hb12 := Nat.le_trans HB1.out.size HB2.out.size
      have HB12 := Lib.hid hb12
      clear hso hl0 hb12
      go_wp2_with fail
      refine (sortSz_any (heldF (onceF l)) (w2.heap.size + 1) _ acc wr HOUT.out hls).mono ?_
      rintro e w4 ⟨rfl, ho4, hg4⟩
      have HO4 := Lib.hid ho4
      have HG4 := Lib.hid hg4
      clear ho4 hg4
      go_wp2
      go_ret2
      refine ⟨_, acc.mergeSort fun x y => !(ltOf cmpI) y x, rfl, ?_, HSO.out, ?_, ?_, ?_⟩
      · rw [List.length_mergeSort]
        exact own_weaken HO4.out (by have := HB12.out; omega)
      · intro f hf
        rw [List.mem_mergeSort] at hf
        exact HMET.out.wf f hf
      · intro f hf
        rw [List.mem_mergeSort]
        exact hM2.out f hf
      · exact HBW.out.grown HG4.out HBW.out.size (fun k hk => by have := own_base HOUT.out k hk; have := HB12.out; omega)
    · intro x c w3 cnt1 hwx hwc hlx hat hrg1 hlt hg1 hs1 hen
      have hcx : c = heldF (onceF l) x := by
        have := hat (.lit (.int .i64 0))
        rw [HT.out.at_ x hwx] at this
        simpa using this.symm
      have hhx : hasF (onceF l) x = true := by
        rw [← HT.out.has_ x hwx]
        exact has_true_of_atKey (fun z => hat z)
      have HMET2 := Lib.hid (HMET.out.step hwx hlx hhx)
      have HO3 : Hid (w3.ownsRow (w2.heap.size + 1) 34 2 _ acc.length (acc.flatMap (encG (heldF (onceF l))))) := own_other HOUT.out hg1 (by
        rcases hv : Value.ownBlock _ with _ | k
        · exact .inl rfl
        · refine .inr (fun e => ?_)
          have := own_base HOUT.out k hv
          cases e
          omega)
      have HRG1 := Lib.hid hrg1
      have HLT := Lib.hid hlt
      have HB4 : Hid (Below w2.heap.size w2 w3) := HB3.out.trans (below_from hg1 (Nat.le_refl _) (by omega))
      have hone : Hid (∀ u ∈ encG (heldF (onceF l)) x, u.oneCell' = true) := encG_one _ _
      clear hrg1 hlt hg1 hat hhx hwx hwc hlx
      subst hcx
      go_wp2_with (at_builtin; refine print_append_cells (w0 := w3) (w2.heap.size + 1) rfl (.tmp 22) (.tmp 26) 22 34 (.agg #[.int .i64 0, .int .i64 0]) 2 16 rfl Try.underlying22 info34 rfl (by decide) (by decide) _ acc.length (acc.flatMap (encG (heldF (onceF l)))) (encG (heldF (onceF l)) x) rfl ?aX rfl hone ?aO ?aB ?aS ?aL ?_; rotate_left 5; intro v5 w5 hown5 hb5 hg5 hat5; have HO5 := Lib.hid hown5; have HB5 := Lib.hid hb5; have HG5 := Lib.hid hg5; clear hown5 hb5 hg5 hat5)
      case aX => simp [Act.eval]
      case aO => exact HO3.out
      case aB => exact Below.refl _ _
      case aS => omega
      case aL => omega
      have hne : ∀ k, k ≤ w2.heap.size → some k ≠ Value.ownBlock _ := fun k hk e => by have := own_base HO3.out k e.symm; omega
      have HRG2 := Lib.hid (HRG1.out.kept HG5.out (hne b (by have := HMAP.out.lt; omega)) (hne _ (Nat.le_refl _)))
      go_roundw
      case rel =>
        refine ⟨_, cnt1, acc ++ [x], HRG2.out, ?_, HB4.out.trans (HB5.out.mono (by omega)), HMET2.out, by have := HLT.out; simp; omega, by have := HB5.out.size; omega⟩
        rw [List.length_append, List.flatMap_append, List.flatMap_cons, List.flatMap_nil, List.append_nil]
        exact HO5.out
      case measure => rw [HRG2.out.left_eq, HRG.out.left_eq]; exact HLT.out
end Go.Proofs.Ytnpiphlmdjmfeaa
