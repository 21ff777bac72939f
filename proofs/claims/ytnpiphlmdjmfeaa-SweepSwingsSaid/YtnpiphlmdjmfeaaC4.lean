/- SweepSwings: the walk. -/
import Derived.Test.YtnpiphlmdjmfeaaC3
set_option linter.unusedVariables false
set_option linter.unusedSimpArgs false
namespace Go.Proofs.Ytnpiphlmdjmfeaa
open Go.RowKit Go.Shelf Go.Proofs.YtnpiphlmdjmfeaaW.PrintWords Go.Maps

attribute [local go_sem high] eqA42

theorem swF_nil (l : List Pl) : l.map (swF []) = l := by
  have : swF [] = id := by funext p; rfl
  rw [this, List.map_id]
theorem own_places {w : World} {B : Nat} {v : Value} {n : Nat} {xs : List Pl} (hn : xs.length = n) (h : w.ownsRow B 42 3 v n (xs.flatMap encPl)) : ∃ A c, v = .slice A n c ∧ kPl.C w A n xs := by
  subst hn
  obtain ⟨A', c', e, _, hc⟩ := Kd.R_reads (flat_own_R (hk := encPl_len) (h1 := encPl_one) h)
  exact ⟨A', c', e, hc⟩
/-- What the law's own map tells when the first k places are done. -/
def doneF (ms : List Mv) (l : List Pl) (p : Pl) : Option Pl := if p ∈ l then some (swF ms p) else none
theorem doneF_snoc (ms : List Mv) (l : List Pl) (p : Pl) : (fun x => if x = p then some (swF ms p) else doneF ms l x) = doneF ms (l ++ [p]) := by
  funext x
  unfold doneF
  by_cases e : x = p
  · subst e; simp
  · simp [e]
/-- Is a place named by a move? -/
def namedF (ms : List Mv) (p : Pl) : Bool := ms.any fun m => decide (m.s = p)
theorem namedF_snoc (ms : List Mv) (m : Mv) (p : Pl) : namedF (ms ++ [m]) p = (namedF ms p || decide (m.s = p)) := by simp [namedF]
theorem toF_none {ms : List Mv} {p : Pl} (h : namedF ms p = false) : swF ms p = p := by
  unfold swF
  have : toF ms p = none := by
    induction ms with
    | nil => rfl
    | cons m r ih =>
      simp only [namedF, List.any_cons, Bool.or_eq_false_iff, decide_eq_false_iff_not] at h
      rw [toF, if_neg (fun e => h.1 e.symm)]
      exact ih h.2
  rw [this]
  rfl

set_option maxRecDepth 100000 in
set_option maxHeartbeats 8000000 in
theorem swings_any (A : Option Addr) (c n : Nat) (live : List Pl) (AM : Option Addr) (cM m : Nat) (ms : List Mv) (w : World) (hn : live.length = n) (hr : kPl.C w A n live) (hm : ms.length = m) (hrm : kMv.C w AM m ms)
    (hwl : ∀ p ∈ live, wfPl p) (hwm : ∀ x ∈ ms, wfMv x) :
    Calls Try.prog 4 #[.slice A n c, .slice AM m cM] w fun e w' => e = .returned (.bool true) ∧ Below w.heap.size w w' := by
  have HN := Lib.hid hn
  have HR := Lib.hid hr
  have HM := Lib.hid hm
  have HRM := Lib.hid hrm
  have HWL := Lib.hid hwl
  have HWM := Lib.hid hwm
  clear hn hr hm hrm hwl hwm
  have hmm := @run_makeMap Try.prog
  go_enter Try.func4, Try.ntmps4
  go_wp2_with fail
  refine (works_any _).mono ?_
  rintro e w1 ⟨rfl, hb1⟩
  have HB1 := Lib.hid hb1
  clear hb1
  by_cases hl1 : 300 < n
  · go_wp2
    go_ret
    exact ⟨rfl, HB1.out⟩
  · by_cases hl2 : 300 < m
    · go_wp2
      go_ret
      exact ⟨rfl, HB1.out⟩
    · go_wp2_with fail
      refine (swing_any A c n live AM cM m ms w1 HN.out (Kd.C_below HR.out HB1.out) HM.out (Kd.C_below HRM.out HB1.out) HWL.out HWM.out (by omega) (by omega)).mono ?_
      rintro e w2 ⟨va, rfl, hoa, hb2⟩
      have HB2 : Hid (Below w.heap.size w w2) := HB1.out.trans (hb2.mono HB1.out.size)
      have HOA := Lib.hid hoa
      clear hoa hb2
      go_wp2_with fail
      refine (swing_any A c n live none 0 0 [] w2 HN.out (Kd.C_below HR.out HB2.out) rfl (Kd.C_nil kMv w2) HWL.out (by simp) (by omega) (by omega)).mono ?_
      rintro e w3 ⟨vb, rfl, hob, hb3⟩
      rw [swF_nil] at hob
      have HB3 : Hid (Below w.heap.size w w3) := HB2.out.trans (hb3.mono HB2.out.size)
      have HOA3 := Lib.hid (pw_own_below HOA.out hb3)
      obtain ⟨Ab, cb, rfl, hCb⟩ := own_places HN.out hob
      obtain ⟨Aa, ca, rfl, hCa⟩ := own_places (by rw [List.length_map]; exact HN.out) HOA3.out
      have HCA := Lib.hid hCa
      have HCB := Lib.hid hCb
      clear hob hb3 hCa hCb HOA HOA3
      go_wp2_with fail
      refine (sameP_any Ab cb n live A c n live w3 HN.out HN.out HCB.out (Kd.C_below HR.out HB3.out) (by omega)).mono ?_
      rintro e w4 ⟨rfl, q4, rfl⟩
      rw [decide_eq_true rfl]
      have HB4 : Hid (Below w.heap.size w (w3.drewN q4)) := pw_below_drewN HB3.out q4
      have HCA4 : Hid (kPl.C (w3.drewN q4) Aa n (live.map (swF ms))) := Kd.C_drewN HCA.out q4
      generalize w3.drewN q4 = w4 at HB4 HCA4 ⊢
      clear HCA HCB HB3 HB2 HB1
      go_wp2_with fail
      have hMap0 : Hid (∃ D, (w4.alloc (.map #[] 0)).ownsMap Try.prog 42 readPl w4.heap.size 0 D ∧ TellsP (doneF ms (live.take 0)) D) := ⟨_, World.ownsMap_made _ _ _ _, by
        have : doneF ms (live.take 0) = fun _ => none := by funext x; simp [doneF]
        rw [this]
        exact TellsP.empty⟩
      go_loopw [60] (fun s60 wr => ∃ k : Nat, k ≤ n ∧ s60 = .int .i64 k ∧ Hid (∃ D, wr.ownsMap Try.prog 42 readPl w4.heap.size k D ∧ TellsP (doneF ms (live.take k)) D) ∧ Hid (Below w4.heap.size w4 wr)) (fun s60 _ => n - (intOf s60).toNat)
      case atStart => exact ⟨0, Nat.zero_le _, rfl, hMap0, (Below.refl _ _).alloc (Nat.le_refl _) _⟩
      case round =>
        obtain ⟨wo, rfl⟩ : ∃ wo : World, wo = wr := ⟨_, rfl⟩
        clear hMap0
        obtain ⟨k, hk, rfl, HMap, HBW⟩ := hrel
        by_cases hlt : k < n
        · have hbx := HBW.out
          obtain ⟨ad, rfl, c0, c1, c2⟩ := pl_at (Kd.C_below HR.out (HB4.out.trans (hbx.mono HB4.out.size))) k hlt
          obtain ⟨ada, rfl, a0, a1, a2⟩ := pl_at (Kd.C_below HCA4.out hbx) k hlt
          have hkl : k < live.length := by rw [HN.out]; exact hlt
          have hwx : wfPl (live.getD k default) := by
            apply HWL.out
            rw [List.getD_eq_getElem?_getD, List.getElem?_eq_getElem hkl]
            exact List.getElem_mem _
          have hsn : live.take (k + 1) = live.take k ++ [live.getD k default] := by
            rw [List.take_succ_eq_append_getElem hkl, List.getD_eq_getElem?_getD, List.getElem?_eq_getElem hkl]
            rfl
          have hga : (live.map (swF ms)).getD k default = swF ms (live.getD k default) := by
            simp only [List.getD_eq_getElem?_getD, List.getElem?_map, List.getElem?_eq_getElem hkl]
            rfl
          rw [hga] at a0 a1 a2
          clear hga hkl
          obtain ⟨x, hxe⟩ : ∃ x, live.getD k default = x := ⟨_, rfl⟩
          rw [hxe] at c0 c1 c2 a0 a1 a2 hwx hsn
          have HXE := Lib.hid hxe
          clear hxe

          have HWX := Lib.hid hwx
          have HS := Lib.hid hsn
          have hto := fun h => toF_none (ms := ms) (p := x) h
          have HTO := Lib.hid hto
          have hdn := doneF_snoc ms (live.take k) x
          have HDN := Lib.hid hdn
          have hdx : doneF ms (live.take k) x = if x ∈ live.take k then some (swF ms x) else none := rfl
          have HDX := Lib.hid hdx
          obtain ⟨y, hy⟩ : ∃ y, swF ms x = y := ⟨_, rfl⟩
          rw [hy] at a0 a1 a2 HTO HDX HDN
          have HY := Lib.hid hy
          have hszo := hbx.size
          have HGM : Hid (w4.heap.size < wo.heap.size) := by obtain ⟨D, h1, _⟩ := HMap.out; exact h1.lt
          have HAB : Hid ((ada.add (k * 3)).block < w4.heap.size) := by
            obtain ⟨ad', e', c0', _⟩ := pl_at HCA4.out k hlt
            injection e' with e'
            rw [e']
            exact World.block_lt_of_cell? w4 _ c0'
          clear hwx hsn hto hdn hdx hy hbx
          obtain ⟨wx, hwxx⟩ : ∃ wx, wo.alloc (.cells #[.int .i64 x.f, .int .i64 x.a, .int .i64 x.l] 42) = wx := ⟨_, rfl⟩
          have p0 : wx.cell? ⟨wo.heap.size, 0, none⟩ = some (.int .i64 x.f) := by rw [← hwxx]; exact blk_cell (heap_alloc_new wo _) 0
          have p1 : wx.cell? ⟨wo.heap.size, 1, none⟩ = some (.int .i64 x.a) := by rw [← hwxx]; exact blk_cell (heap_alloc_new wo _) 1
          have p2 : wx.cell? ⟨wo.heap.size, 2, none⟩ = some (.int .i64 x.l) := by rw [← hwxx]; exact blk_cell (heap_alloc_new wo _) 2
          have HBX : Hid (Below w4.heap.size w4 wx) := by rw [← hwxx]; exact HBW.out.alloc hszo _
          have hpl : wo.heap.size < wx.heap.size := by rw [← hwxx]; simp
          have HMX : Hid (∃ D, wx.ownsMap Try.prog 42 readPl w4.heap.size k D ∧ TellsP (doneF ms (live.take k)) D) := by
            obtain ⟨D, h1, h2⟩ := HMap.out
            exact ⟨D, by rw [← hwxx]; exact h1.alloc _, h2⟩
          have HWXX := Lib.hid hwxx
          clear hwxx
          go_wp2_with fail
          rw [HWXX.out]
          clear HMap HWXX c0 c1 c2 a0 a1 a2
          go_loopw [12, 67] (fun s12 s67 wr => ∃ i : Nat, i ≤ m ∧ s67 = .int .i64 i ∧ s12 = .bool (namedF (ms.take i) x) ∧ Hid (Below wx.heap.size wx wr)) (fun _ s67 _ => m - (intOf s67).toNat)
          case atStart => exact ⟨0, Nat.zero_le _, rfl, by simp [namedF], Below.refl _ _⟩
          case round =>
            obtain ⟨wi, rfl⟩ : ∃ wi : World, wi = wr := ⟨_, rfl⟩
            obtain ⟨i, hi, rfl, rfl, HBI⟩ := hrel
            by_cases him : i < m
            · obtain ⟨adm, rfl, d0, d1, d2, d3, d4, d5⟩ := mv_at (Kd.C_below HRM.out (HB4.out.trans (HBX.out.trans (HBI.out.mono HBX.out.size) |>.mono HB4.out.size))) i him
              have hml : i < ms.length := by rw [HM.out]; exact him
              have hsm : ms.take (i + 1) = ms.take i ++ [ms.getD i default] := by
                rw [List.take_succ_eq_append_getElem hml, List.getD_eq_getElem?_getD, List.getElem?_eq_getElem hml]
                rfl
              have HNM : Hid (namedF (ms.take (i + 1)) x = (namedF (ms.take i) x || decide ((ms.getD i default).s = x))) := by rw [hsm]; exact namedF_snoc _ _ _
              clear hsm hml
              generalize ms.getD i default = mv at d0 d1 d2 d3 d4 d5 HNM
              have q0 := Lib.cell?_alloc_some (.cells #[.int .i64 mv.s.f, .int .i64 mv.s.a, .int .i64 mv.s.l, .int .i64 mv.t.f, .int .i64 mv.t.a, .int .i64 mv.t.l] 44) ((HBI.out.cell (p := ⟨wo.heap.size, 0, none⟩) hpl).trans p0)
              have q1 := Lib.cell?_alloc_some (.cells #[.int .i64 mv.s.f, .int .i64 mv.s.a, .int .i64 mv.s.l, .int .i64 mv.t.f, .int .i64 mv.t.a, .int .i64 mv.t.l] 44) ((HBI.out.cell (p := ⟨wo.heap.size, 1, none⟩) hpl).trans p1)
              have q2 := Lib.cell?_alloc_some (.cells #[.int .i64 mv.s.f, .int .i64 mv.s.a, .int .i64 mv.s.l, .int .i64 mv.t.f, .int .i64 mv.t.a, .int .i64 mv.t.l] 44) ((HBI.out.cell (p := ⟨wo.heap.size, 2, none⟩) hpl).trans p2)
              have hsi := HBI.out.size
              generalize namedF (ms.take i) x = nm at HNM ⊢
              have HNE : Hid (decide (mv.s = x) = eqP mv.s x) := (eqP_iff _ _).symm
              cases nm
              · go_wp2
                go_roundw
                case rel => exact ⟨i + 1, by omega, by go_num, by rw [HNM.out, HNE.out]; rfl, HBI.out.alloc hsi _⟩
                case measure => simp [intOf]; omega
              · go_wp2
                go_roundw
                case rel => exact ⟨i + 1, by omega, by go_num, by rw [HNM.out]; rfl, HBI.out.alloc hsi _⟩
                case measure => simp [intOf]; omega
            · obtain rfl : i = m := by omega
              have hl := List.take_of_length_le (show ms.length ≤ i by rw [HM.out]; exact Nat.le_refl _)
              rw [hl]
              clear hl
              have HBII : Hid (Below w4.heap.size w4 wi) := HBX.out.trans (HBI.out.mono HBX.out.size)
              have HMI : Hid (∃ D, wi.ownsMap Try.prog 42 readPl w4.heap.size k D ∧ TellsP (doneF ms (live.take k)) D) := by
                obtain ⟨D, h1, h2⟩ := HMX.out
                exact ⟨D, h1.kept (grown_of_below HBI.out none) (by simp), h2⟩
              have r0 := (HBI.out.cell (p := ⟨wo.heap.size, 0, none⟩) hpl).trans p0
              have r1 := (HBI.out.cell (p := ⟨wo.heap.size, 1, none⟩) hpl).trans p1
              have r2 := (HBI.out.cell (p := ⟨wo.heap.size, 2, none⟩) hpl).trans p2
              have HGA : Hid ((live.map (swF ms)).getD k default = y) := by
                have hkl : k < live.length := by rw [HN.out]; exact hlt
                rw [Hid, ← HY.out, ← HXE.out]
                simp only [List.getD_eq_getElem?_getD, List.getElem?_map, List.getElem?_eq_getElem hkl]
                rfl
              obtain ⟨ada1, eada1, a0, a1, a2⟩ := pl_at (Kd.C_below HCA4.out HBII.out) k hlt
              obtain rfl : ada = ada1 := by injection eada1
              rw [HGA.out] at a0 a1 a2
              clear p0 p1 p2 hpl HMX HBX HBI
              have HTO2 := HTO.out
              generalize namedF ms x = nm at HTO2 ⊢
              cases nm
              · obtain rfl : x = y := (HTO2 rfl).symm
                clear HTO2
                go_wp2_with fail
                go_quiet (fail)
                obtain ⟨wv, hwv⟩ : ∃ wv, wi.drewN nq = wv := ⟨_, rfl⟩
                rw [hwv]
                have HBV : Hid (Below w4.heap.size w4 wv) := by rw [← hwv]; exact pw_below_drewN HBII.out nq
                have HMV : Hid (∃ D, wv.ownsMap Try.prog 42 readPl w4.heap.size k D ∧ TellsP (doneF ms (live.take k)) D) := by
                  obtain ⟨D, h1, h2⟩ := HMI.out
                  exact ⟨D, by rw [← hwv]; exact h1, h2⟩
                have HPV : Hid (wv.cell? ⟨wo.heap.size, 0, none⟩ = some (.int .i64 x.f) ∧ wv.cell? ⟨wo.heap.size, 1, none⟩ = some (.int .i64 x.a) ∧ wv.cell? ⟨wo.heap.size, 2, none⟩ = some (.int .i64 x.l)) := by
                  rw [← hwv]
                  exact ⟨r0, r1, r2⟩
                clear hwv r0 r1 r2 a0 a1 a2
                obtain ⟨ada2, eada, b0, b1, b2⟩ := pl_at (Kd.C_below HCA4.out HBV.out) k hlt
                obtain rfl : ada = ada2 := by injection eada
                rw [HGA.out] at b0 b1 b2
                have HBA := Lib.hid b0
                have HBA1 := Lib.hid b1
                have HBA2 := Lib.hid b2
                obtain ⟨DV, hMV, hTV⟩ := HMV.out
                have hlook := look_pl hMV hTV HWX.out
                rw [HDX.out] at hlook
                have s0 := HPV.out.1
                have s1 := HPV.out.2.1
                have s2 := HPV.out.2.2
                have hszv := HBV.out.size
                have HMV2 := Lib.hid hMV
                have HTV := Lib.hid hTV
                clear hMV hTV b0 b1 b2
                by_cases hin : x ∈ live.take k
                · rw [if_pos hin] at hlook
                  simp only [Option.getD_some, Option.isSome_some] at hlook
                  clear hin
                  go_wp2_with fail
                  have HQ : Hid (Below w4.heap.size w4 (wv.alloc (.cells #[.int .i64 x.f, .int .i64 x.a, .int .i64 x.l] 42))) := HBV.out.alloc hszv _
                  obtain ⟨wq, hwq⟩ : ∃ wq, wv.alloc (.cells #[.int .i64 x.f, .int .i64 x.a, .int .i64 x.l] 42) = wq := ⟨_, rfl⟩
                  have HMQ : Hid (wq.ownsMap Try.prog 42 readPl w4.heap.size k DV) := by rw [← hwq]; exact HMV2.out.alloc _
                  have t0 : wq.cell? ⟨wv.heap.size, 0, none⟩ = some (.int .i64 x.f) := by rw [← hwq]; exact blk_cell (heap_alloc_new wv _) 0
                  have t1 : wq.cell? ⟨wv.heap.size, 1, none⟩ = some (.int .i64 x.a) := by rw [← hwq]; exact blk_cell (heap_alloc_new wv _) 1
                  have t2 : wq.cell? ⟨wv.heap.size, 2, none⟩ = some (.int .i64 x.l) := by rw [← hwq]; exact blk_cell (heap_alloc_new wv _) 2
                  have b0 : wq.cell? (ada.add (k * 3)) = some (.int .i64 x.f) := by rw [← hwq]; exact Lib.cell?_alloc_some _ HBA.out
                  have b1 : wq.cell? ⟨(ada.add (k * 3)).block, (ada.add (k * 3)).off + 1, none⟩ = some (.int .i64 x.a) := by rw [← hwq]; exact Lib.cell?_alloc_some _ HBA1.out
                  have b2 : wq.cell? ⟨(ada.add (k * 3)).block, (ada.add (k * 3)).off + 2, none⟩ = some (.int .i64 x.l) := by rw [← hwq]; exact Lib.cell?_alloc_some _ HBA2.out
                  have z0 : wq.cell? ⟨wo.heap.size, 0, none⟩ = some (.int .i64 x.f) := by rw [← hwq]; exact Lib.cell?_alloc_some _ s0
                  have z1 : wq.cell? ⟨wo.heap.size, 1, none⟩ = some (.int .i64 x.a) := by rw [← hwq]; exact Lib.cell?_alloc_some _ s1
                  have z2 : wq.cell? ⟨wo.heap.size, 2, none⟩ = some (.int .i64 x.l) := by rw [← hwq]; exact Lib.cell?_alloc_some _ s2
                  rw [hwq] at HQ ⊢
                  clear hwq s0 s1 s2 hlook
                  go_quiet (fail)
                  obtain ⟨wz, hwz⟩ : ∃ wz, wq.drewN nq = wz := ⟨_, rfl⟩
                  rw [hwz]
                  have HZ : Hid (Below w4.heap.size w4 wz) := by rw [← hwz]; exact pw_below_drewN HQ.out nq
                  have hMZ : wz.drew.ownsMap Try.prog 42 readPl w4.heap.size k DV := by rw [← hwz]; exact HMQ.out
                  obtain ⟨wm, hup, hMm, hGm⟩ := hMZ.update lawP Try.underlying40 (show k < maxLen by unfold maxLen; omega) (keyOf_pl x HWX.out) (readPl_mk x)
                  have HMm : Hid (∃ D, wm.ownsMap Try.prog 42 readPl w4.heap.size (k + 1) D ∧ TellsP (doneF ms (live.take (k + 1))) D) := ⟨_, hMm, by rw [HS.out, ← HDN.out]; exact HTV.out.put HWX.out x⟩
                  have HBm : Hid (Below w4.heap.size w4 wm) := HZ.out.drew.grown hGm HZ.out.size (fun j e => by cases e; exact Nat.le_refl _)
                  have HFar : Hid (∀ b o v, wz.cell? ⟨b, o, none⟩ = some v → b ≠ w4.heap.size → wm.cell? ⟨b, o, none⟩ = some v) := fun b o v h hne => (hGm.cell_far ⟨b, o, none⟩ (World.block_lt_of_cell? wz _ h) (by simp; exact hne)).trans h
                  have HFar0 : Hid (∀ p : Addr, ∀ v, wz.cell? p = some v → p.block ≠ w4.heap.size → wm.cell? p = some v) := fun p v h hne => (hGm.cell_far p (World.block_lt_of_cell? wz _ h) (by simp; exact hne)).trans h
                  clear hMZ hMm hGm
                  have y0 : wz.cell? (ada.add (k * 3)) = some (.int .i64 x.f) := by rw [← hwz]; exact b0
                  have y1 : wz.cell? ⟨(ada.add (k * 3)).block, (ada.add (k * 3)).off + 1, none⟩ = some (.int .i64 x.a) := by rw [← hwz]; exact b1
                  have y2 : wz.cell? ⟨(ada.add (k * 3)).block, (ada.add (k * 3)).off + 2, none⟩ = some (.int .i64 x.l) := by rw [← hwz]; exact b2
                  have x0 : wz.cell? ⟨wo.heap.size, 0, none⟩ = some (.int .i64 x.f) := by rw [← hwz]; exact z0
                  have x1 : wz.cell? ⟨wo.heap.size, 1, none⟩ = some (.int .i64 x.a) := by rw [← hwz]; exact z1
                  have x2 : wz.cell? ⟨wo.heap.size, 2, none⟩ = some (.int .i64 x.l) := by rw [← hwz]; exact z2
                  have m0 := HFar0.out _ _ y0 (Nat.ne_of_lt HAB.out)
                  have m1 := HFar.out _ _ _ y1 (Nat.ne_of_lt HAB.out)
                  have m2 := HFar.out _ _ _ y2 (Nat.ne_of_lt HAB.out)
                  have m3 := HFar.out _ _ _ x0 (Nat.ne_of_gt HGM.out)
                  have m4 := HFar.out _ _ _ x1 (Nat.ne_of_gt HGM.out)
                  have m5 := HFar.out _ _ _ x2 (Nat.ne_of_gt HGM.out)
                  clear hwz b0 b1 b2 z0 z1 z2 t0 t1 t2
                  go_wp2_with fail
                  go_region_held3 (fun w' => w'.cell? (ada.add (k * 3)) = some (.int .i64 x.f) ∧ w'.cell? ⟨(ada.add (k * 3)).block, (ada.add (k * 3)).off + 1, none⟩ = some (.int .i64 x.a) ∧ w'.cell? ⟨(ada.add (k * 3)).block, (ada.add (k * 3)).off + 2, none⟩ = some (.int .i64 x.l) ∧ w'.cell? ⟨wo.heap.size, 0, none⟩ = some (.int .i64 x.f) ∧ w'.cell? ⟨wo.heap.size, 1, none⟩ = some (.int .i64 x.a) ∧ w'.cell? ⟨wo.heap.size, 2, none⟩ = some (.int .i64 x.l)) (first | go_keep | exact ⟨m0, m1, m2, m3, m4, m5⟩) (fail)
                  clear m0 m1 m2 m3 m4 m5 y0 y1 y2 x0 x1 x2 hup
                  go_wp2
                  go_roundw
                  case rel => exact ⟨k + 1, by omega, by go_num, HMm.out, HBm.out⟩
                  case measure => simp [intOf]; omega
                · rw [if_neg hin] at hlook
                  simp only [Option.getD_none, Option.isSome_none] at hlook
                  clear hin
                  go_wp2_with fail
                  have HQ : Hid (Below w4.heap.size w4 (wv.alloc (.cells #[.int .i64 0, .int .i64 0, .int .i64 0] 42))) := HBV.out.alloc hszv _
                  obtain ⟨wq, hwq⟩ : ∃ wq, wv.alloc (.cells #[.int .i64 0, .int .i64 0, .int .i64 0] 42) = wq := ⟨_, rfl⟩
                  have HMQ : Hid (wq.ownsMap Try.prog 42 readPl w4.heap.size k DV) := by rw [← hwq]; exact HMV2.out.alloc _
                  have t0 : wq.cell? ⟨wv.heap.size, 0, none⟩ = some (.int .i64 0) := by rw [← hwq]; exact blk_cell (heap_alloc_new wv _) 0
                  have t1 : wq.cell? ⟨wv.heap.size, 1, none⟩ = some (.int .i64 0) := by rw [← hwq]; exact blk_cell (heap_alloc_new wv _) 1
                  have t2 : wq.cell? ⟨wv.heap.size, 2, none⟩ = some (.int .i64 0) := by rw [← hwq]; exact blk_cell (heap_alloc_new wv _) 2
                  have b0 : wq.cell? (ada.add (k * 3)) = some (.int .i64 x.f) := by rw [← hwq]; exact Lib.cell?_alloc_some _ HBA.out
                  have b1 : wq.cell? ⟨(ada.add (k * 3)).block, (ada.add (k * 3)).off + 1, none⟩ = some (.int .i64 x.a) := by rw [← hwq]; exact Lib.cell?_alloc_some _ HBA1.out
                  have b2 : wq.cell? ⟨(ada.add (k * 3)).block, (ada.add (k * 3)).off + 2, none⟩ = some (.int .i64 x.l) := by rw [← hwq]; exact Lib.cell?_alloc_some _ HBA2.out
                  have z0 : wq.cell? ⟨wo.heap.size, 0, none⟩ = some (.int .i64 x.f) := by rw [← hwq]; exact Lib.cell?_alloc_some _ s0
                  have z1 : wq.cell? ⟨wo.heap.size, 1, none⟩ = some (.int .i64 x.a) := by rw [← hwq]; exact Lib.cell?_alloc_some _ s1
                  have z2 : wq.cell? ⟨wo.heap.size, 2, none⟩ = some (.int .i64 x.l) := by rw [← hwq]; exact Lib.cell?_alloc_some _ s2
                  rw [hwq] at HQ ⊢
                  clear hwq s0 s1 s2 hlook
                  go_quiet (fail)
                  obtain ⟨wz, hwz⟩ : ∃ wz, wq.drewN nq = wz := ⟨_, rfl⟩
                  rw [hwz]
                  have HZ : Hid (Below w4.heap.size w4 wz) := by rw [← hwz]; exact pw_below_drewN HQ.out nq
                  have hMZ : wz.drew.ownsMap Try.prog 42 readPl w4.heap.size k DV := by rw [← hwz]; exact HMQ.out
                  obtain ⟨wm, hup, hMm, hGm⟩ := hMZ.update lawP Try.underlying40 (show k < maxLen by unfold maxLen; omega) (keyOf_pl x HWX.out) (readPl_mk x)
                  have HMm : Hid (∃ D, wm.ownsMap Try.prog 42 readPl w4.heap.size (k + 1) D ∧ TellsP (doneF ms (live.take (k + 1))) D) := ⟨_, hMm, by rw [HS.out, ← HDN.out]; exact HTV.out.put HWX.out x⟩
                  have HBm : Hid (Below w4.heap.size w4 wm) := HZ.out.drew.grown hGm HZ.out.size (fun j e => by cases e; exact Nat.le_refl _)
                  have HFar : Hid (∀ b o v, wz.cell? ⟨b, o, none⟩ = some v → b ≠ w4.heap.size → wm.cell? ⟨b, o, none⟩ = some v) := fun b o v h hne => (hGm.cell_far ⟨b, o, none⟩ (World.block_lt_of_cell? wz _ h) (by simp; exact hne)).trans h
                  have HFar0 : Hid (∀ p : Addr, ∀ v, wz.cell? p = some v → p.block ≠ w4.heap.size → wm.cell? p = some v) := fun p v h hne => (hGm.cell_far p (World.block_lt_of_cell? wz _ h) (by simp; exact hne)).trans h
                  clear hMZ hMm hGm
                  have y0 : wz.cell? (ada.add (k * 3)) = some (.int .i64 x.f) := by rw [← hwz]; exact b0
                  have y1 : wz.cell? ⟨(ada.add (k * 3)).block, (ada.add (k * 3)).off + 1, none⟩ = some (.int .i64 x.a) := by rw [← hwz]; exact b1
                  have y2 : wz.cell? ⟨(ada.add (k * 3)).block, (ada.add (k * 3)).off + 2, none⟩ = some (.int .i64 x.l) := by rw [← hwz]; exact b2
                  have x0 : wz.cell? ⟨wo.heap.size, 0, none⟩ = some (.int .i64 x.f) := by rw [← hwz]; exact z0
                  have x1 : wz.cell? ⟨wo.heap.size, 1, none⟩ = some (.int .i64 x.a) := by rw [← hwz]; exact z1
                  have x2 : wz.cell? ⟨wo.heap.size, 2, none⟩ = some (.int .i64 x.l) := by rw [← hwz]; exact z2
                  have m0 := HFar0.out _ _ y0 (Nat.ne_of_lt HAB.out)
                  have m1 := HFar.out _ _ _ y1 (Nat.ne_of_lt HAB.out)
                  have m2 := HFar.out _ _ _ y2 (Nat.ne_of_lt HAB.out)
                  have m3 := HFar.out _ _ _ x0 (Nat.ne_of_gt HGM.out)
                  have m4 := HFar.out _ _ _ x1 (Nat.ne_of_gt HGM.out)
                  have m5 := HFar.out _ _ _ x2 (Nat.ne_of_gt HGM.out)
                  clear hwz b0 b1 b2 z0 z1 z2 t0 t1 t2
                  go_wp2_with fail
                  go_region_held3 (fun w' => w'.cell? (ada.add (k * 3)) = some (.int .i64 x.f) ∧ w'.cell? ⟨(ada.add (k * 3)).block, (ada.add (k * 3)).off + 1, none⟩ = some (.int .i64 x.a) ∧ w'.cell? ⟨(ada.add (k * 3)).block, (ada.add (k * 3)).off + 2, none⟩ = some (.int .i64 x.l) ∧ w'.cell? ⟨wo.heap.size, 0, none⟩ = some (.int .i64 x.f) ∧ w'.cell? ⟨wo.heap.size, 1, none⟩ = some (.int .i64 x.a) ∧ w'.cell? ⟨wo.heap.size, 2, none⟩ = some (.int .i64 x.l)) (first | go_keep | exact ⟨m0, m1, m2, m3, m4, m5⟩) (fail)
                  clear m0 m1 m2 m3 m4 m5 y0 y1 y2 x0 x1 x2 hup
                  go_wp2
                  go_roundw
                  case rel => exact ⟨k + 1, by omega, by go_num, HMm.out, HBm.out⟩
                  case measure => simp [intOf]; omega
              · clear HTO2
                go_wp2_with fail
                go_quiet (fail)
                obtain ⟨wv, hwv⟩ : ∃ wv, wi.drewN nq = wv := ⟨_, rfl⟩
                rw [hwv]
                have HBV : Hid (Below w4.heap.size w4 wv) := by rw [← hwv]; exact pw_below_drewN HBII.out nq
                have HMV : Hid (∃ D, wv.ownsMap Try.prog 42 readPl w4.heap.size k D ∧ TellsP (doneF ms (live.take k)) D) := by
                  obtain ⟨D, h1, h2⟩ := HMI.out
                  exact ⟨D, by rw [← hwv]; exact h1, h2⟩
                have HPV : Hid (wv.cell? ⟨wo.heap.size, 0, none⟩ = some (.int .i64 x.f) ∧ wv.cell? ⟨wo.heap.size, 1, none⟩ = some (.int .i64 x.a) ∧ wv.cell? ⟨wo.heap.size, 2, none⟩ = some (.int .i64 x.l)) := by
                  rw [← hwv]
                  exact ⟨r0, r1, r2⟩
                clear hwv r0 r1 r2 a0 a1 a2
                obtain ⟨ada2, eada, b0, b1, b2⟩ := pl_at (Kd.C_below HCA4.out HBV.out) k hlt
                obtain rfl : ada = ada2 := by injection eada
                rw [HGA.out] at b0 b1 b2
                have HBA := Lib.hid b0
                have HBA1 := Lib.hid b1
                have HBA2 := Lib.hid b2
                obtain ⟨DV, hMV, hTV⟩ := HMV.out
                have hlook := look_pl hMV hTV HWX.out
                rw [HDX.out] at hlook
                have s0 := HPV.out.1
                have s1 := HPV.out.2.1
                have s2 := HPV.out.2.2
                have hszv := HBV.out.size
                have HMV2 := Lib.hid hMV
                have HTV := Lib.hid hTV
                clear hMV hTV b0 b1 b2
                by_cases hin : x ∈ live.take k
                · rw [if_pos hin] at hlook
                  simp only [Option.getD_some, Option.isSome_some] at hlook
                  clear hin
                  go_wp2_with fail
                  have HQ : Hid (Below w4.heap.size w4 (wv.alloc (.cells #[.int .i64 y.f, .int .i64 y.a, .int .i64 y.l] 42))) := HBV.out.alloc hszv _
                  obtain ⟨wq, hwq⟩ : ∃ wq, wv.alloc (.cells #[.int .i64 y.f, .int .i64 y.a, .int .i64 y.l] 42) = wq := ⟨_, rfl⟩
                  have HMQ : Hid (wq.ownsMap Try.prog 42 readPl w4.heap.size k DV) := by rw [← hwq]; exact HMV2.out.alloc _
                  have t0 : wq.cell? ⟨wv.heap.size, 0, none⟩ = some (.int .i64 y.f) := by rw [← hwq]; exact blk_cell (heap_alloc_new wv _) 0
                  have t1 : wq.cell? ⟨wv.heap.size, 1, none⟩ = some (.int .i64 y.a) := by rw [← hwq]; exact blk_cell (heap_alloc_new wv _) 1
                  have t2 : wq.cell? ⟨wv.heap.size, 2, none⟩ = some (.int .i64 y.l) := by rw [← hwq]; exact blk_cell (heap_alloc_new wv _) 2
                  have b0 : wq.cell? (ada.add (k * 3)) = some (.int .i64 y.f) := by rw [← hwq]; exact Lib.cell?_alloc_some _ HBA.out
                  have b1 : wq.cell? ⟨(ada.add (k * 3)).block, (ada.add (k * 3)).off + 1, none⟩ = some (.int .i64 y.a) := by rw [← hwq]; exact Lib.cell?_alloc_some _ HBA1.out
                  have b2 : wq.cell? ⟨(ada.add (k * 3)).block, (ada.add (k * 3)).off + 2, none⟩ = some (.int .i64 y.l) := by rw [← hwq]; exact Lib.cell?_alloc_some _ HBA2.out
                  have z0 : wq.cell? ⟨wo.heap.size, 0, none⟩ = some (.int .i64 x.f) := by rw [← hwq]; exact Lib.cell?_alloc_some _ s0
                  have z1 : wq.cell? ⟨wo.heap.size, 1, none⟩ = some (.int .i64 x.a) := by rw [← hwq]; exact Lib.cell?_alloc_some _ s1
                  have z2 : wq.cell? ⟨wo.heap.size, 2, none⟩ = some (.int .i64 x.l) := by rw [← hwq]; exact Lib.cell?_alloc_some _ s2
                  rw [hwq] at HQ ⊢
                  clear hwq s0 s1 s2 hlook
                  go_quiet (fail)
                  obtain ⟨wz, hwz⟩ : ∃ wz, wq.drewN nq = wz := ⟨_, rfl⟩
                  rw [hwz]
                  have HZ : Hid (Below w4.heap.size w4 wz) := by rw [← hwz]; exact pw_below_drewN HQ.out nq
                  have hMZ : wz.drew.ownsMap Try.prog 42 readPl w4.heap.size k DV := by rw [← hwz]; exact HMQ.out
                  obtain ⟨wm, hup, hMm, hGm⟩ := hMZ.update lawP Try.underlying40 (show k < maxLen by unfold maxLen; omega) (keyOf_pl x HWX.out) (readPl_mk y)
                  have HMm : Hid (∃ D, wm.ownsMap Try.prog 42 readPl w4.heap.size (k + 1) D ∧ TellsP (doneF ms (live.take (k + 1))) D) := ⟨_, hMm, by rw [HS.out, ← HDN.out]; exact HTV.out.put HWX.out y⟩
                  have HBm : Hid (Below w4.heap.size w4 wm) := HZ.out.drew.grown hGm HZ.out.size (fun j e => by cases e; exact Nat.le_refl _)
                  have HFar : Hid (∀ b o v, wz.cell? ⟨b, o, none⟩ = some v → b ≠ w4.heap.size → wm.cell? ⟨b, o, none⟩ = some v) := fun b o v h hne => (hGm.cell_far ⟨b, o, none⟩ (World.block_lt_of_cell? wz _ h) (by simp; exact hne)).trans h
                  have HFar0 : Hid (∀ p : Addr, ∀ v, wz.cell? p = some v → p.block ≠ w4.heap.size → wm.cell? p = some v) := fun p v h hne => (hGm.cell_far p (World.block_lt_of_cell? wz _ h) (by simp; exact hne)).trans h
                  clear hMZ hMm hGm
                  have y0 : wz.cell? (ada.add (k * 3)) = some (.int .i64 y.f) := by rw [← hwz]; exact b0
                  have y1 : wz.cell? ⟨(ada.add (k * 3)).block, (ada.add (k * 3)).off + 1, none⟩ = some (.int .i64 y.a) := by rw [← hwz]; exact b1
                  have y2 : wz.cell? ⟨(ada.add (k * 3)).block, (ada.add (k * 3)).off + 2, none⟩ = some (.int .i64 y.l) := by rw [← hwz]; exact b2
                  have x0 : wz.cell? ⟨wo.heap.size, 0, none⟩ = some (.int .i64 x.f) := by rw [← hwz]; exact z0
                  have x1 : wz.cell? ⟨wo.heap.size, 1, none⟩ = some (.int .i64 x.a) := by rw [← hwz]; exact z1
                  have x2 : wz.cell? ⟨wo.heap.size, 2, none⟩ = some (.int .i64 x.l) := by rw [← hwz]; exact z2
                  have m0 := HFar0.out _ _ y0 (Nat.ne_of_lt HAB.out)
                  have m1 := HFar.out _ _ _ y1 (Nat.ne_of_lt HAB.out)
                  have m2 := HFar.out _ _ _ y2 (Nat.ne_of_lt HAB.out)
                  have m3 := HFar.out _ _ _ x0 (Nat.ne_of_gt HGM.out)
                  have m4 := HFar.out _ _ _ x1 (Nat.ne_of_gt HGM.out)
                  have m5 := HFar.out _ _ _ x2 (Nat.ne_of_gt HGM.out)
                  clear hwz b0 b1 b2 z0 z1 z2 t0 t1 t2
                  go_wp2_with fail
                  go_region_held3 (fun w' => w'.cell? (ada.add (k * 3)) = some (.int .i64 y.f) ∧ w'.cell? ⟨(ada.add (k * 3)).block, (ada.add (k * 3)).off + 1, none⟩ = some (.int .i64 y.a) ∧ w'.cell? ⟨(ada.add (k * 3)).block, (ada.add (k * 3)).off + 2, none⟩ = some (.int .i64 y.l) ∧ w'.cell? ⟨wo.heap.size, 0, none⟩ = some (.int .i64 x.f) ∧ w'.cell? ⟨wo.heap.size, 1, none⟩ = some (.int .i64 x.a) ∧ w'.cell? ⟨wo.heap.size, 2, none⟩ = some (.int .i64 x.l)) (first | go_keep | exact ⟨m0, m1, m2, m3, m4, m5⟩) (fail)
                  clear m0 m1 m2 m3 m4 m5 y0 y1 y2 x0 x1 x2 hup
                  go_wp2
                  go_roundw
                  case rel => exact ⟨k + 1, by omega, by go_num, HMm.out, HBm.out⟩
                  case measure => simp [intOf]; omega
                · rw [if_neg hin] at hlook
                  simp only [Option.getD_none, Option.isSome_none] at hlook
                  clear hin
                  go_wp2_with fail
                  have HQ : Hid (Below w4.heap.size w4 (wv.alloc (.cells #[.int .i64 0, .int .i64 0, .int .i64 0] 42))) := HBV.out.alloc hszv _
                  obtain ⟨wq, hwq⟩ : ∃ wq, wv.alloc (.cells #[.int .i64 0, .int .i64 0, .int .i64 0] 42) = wq := ⟨_, rfl⟩
                  have HMQ : Hid (wq.ownsMap Try.prog 42 readPl w4.heap.size k DV) := by rw [← hwq]; exact HMV2.out.alloc _
                  have t0 : wq.cell? ⟨wv.heap.size, 0, none⟩ = some (.int .i64 0) := by rw [← hwq]; exact blk_cell (heap_alloc_new wv _) 0
                  have t1 : wq.cell? ⟨wv.heap.size, 1, none⟩ = some (.int .i64 0) := by rw [← hwq]; exact blk_cell (heap_alloc_new wv _) 1
                  have t2 : wq.cell? ⟨wv.heap.size, 2, none⟩ = some (.int .i64 0) := by rw [← hwq]; exact blk_cell (heap_alloc_new wv _) 2
                  have b0 : wq.cell? (ada.add (k * 3)) = some (.int .i64 y.f) := by rw [← hwq]; exact Lib.cell?_alloc_some _ HBA.out
                  have b1 : wq.cell? ⟨(ada.add (k * 3)).block, (ada.add (k * 3)).off + 1, none⟩ = some (.int .i64 y.a) := by rw [← hwq]; exact Lib.cell?_alloc_some _ HBA1.out
                  have b2 : wq.cell? ⟨(ada.add (k * 3)).block, (ada.add (k * 3)).off + 2, none⟩ = some (.int .i64 y.l) := by rw [← hwq]; exact Lib.cell?_alloc_some _ HBA2.out
                  have z0 : wq.cell? ⟨wo.heap.size, 0, none⟩ = some (.int .i64 x.f) := by rw [← hwq]; exact Lib.cell?_alloc_some _ s0
                  have z1 : wq.cell? ⟨wo.heap.size, 1, none⟩ = some (.int .i64 x.a) := by rw [← hwq]; exact Lib.cell?_alloc_some _ s1
                  have z2 : wq.cell? ⟨wo.heap.size, 2, none⟩ = some (.int .i64 x.l) := by rw [← hwq]; exact Lib.cell?_alloc_some _ s2
                  rw [hwq] at HQ ⊢
                  clear hwq s0 s1 s2 hlook
                  go_quiet (fail)
                  obtain ⟨wz, hwz⟩ : ∃ wz, wq.drewN nq = wz := ⟨_, rfl⟩
                  rw [hwz]
                  have HZ : Hid (Below w4.heap.size w4 wz) := by rw [← hwz]; exact pw_below_drewN HQ.out nq
                  have hMZ : wz.drew.ownsMap Try.prog 42 readPl w4.heap.size k DV := by rw [← hwz]; exact HMQ.out
                  obtain ⟨wm, hup, hMm, hGm⟩ := hMZ.update lawP Try.underlying40 (show k < maxLen by unfold maxLen; omega) (keyOf_pl x HWX.out) (readPl_mk y)
                  have HMm : Hid (∃ D, wm.ownsMap Try.prog 42 readPl w4.heap.size (k + 1) D ∧ TellsP (doneF ms (live.take (k + 1))) D) := ⟨_, hMm, by rw [HS.out, ← HDN.out]; exact HTV.out.put HWX.out y⟩
                  have HBm : Hid (Below w4.heap.size w4 wm) := HZ.out.drew.grown hGm HZ.out.size (fun j e => by cases e; exact Nat.le_refl _)
                  have HFar : Hid (∀ b o v, wz.cell? ⟨b, o, none⟩ = some v → b ≠ w4.heap.size → wm.cell? ⟨b, o, none⟩ = some v) := fun b o v h hne => (hGm.cell_far ⟨b, o, none⟩ (World.block_lt_of_cell? wz _ h) (by simp; exact hne)).trans h
                  have HFar0 : Hid (∀ p : Addr, ∀ v, wz.cell? p = some v → p.block ≠ w4.heap.size → wm.cell? p = some v) := fun p v h hne => (hGm.cell_far p (World.block_lt_of_cell? wz _ h) (by simp; exact hne)).trans h
                  clear hMZ hMm hGm
                  have y0 : wz.cell? (ada.add (k * 3)) = some (.int .i64 y.f) := by rw [← hwz]; exact b0
                  have y1 : wz.cell? ⟨(ada.add (k * 3)).block, (ada.add (k * 3)).off + 1, none⟩ = some (.int .i64 y.a) := by rw [← hwz]; exact b1
                  have y2 : wz.cell? ⟨(ada.add (k * 3)).block, (ada.add (k * 3)).off + 2, none⟩ = some (.int .i64 y.l) := by rw [← hwz]; exact b2
                  have x0 : wz.cell? ⟨wo.heap.size, 0, none⟩ = some (.int .i64 x.f) := by rw [← hwz]; exact z0
                  have x1 : wz.cell? ⟨wo.heap.size, 1, none⟩ = some (.int .i64 x.a) := by rw [← hwz]; exact z1
                  have x2 : wz.cell? ⟨wo.heap.size, 2, none⟩ = some (.int .i64 x.l) := by rw [← hwz]; exact z2
                  have m0 := HFar0.out _ _ y0 (Nat.ne_of_lt HAB.out)
                  have m1 := HFar.out _ _ _ y1 (Nat.ne_of_lt HAB.out)
                  have m2 := HFar.out _ _ _ y2 (Nat.ne_of_lt HAB.out)
                  have m3 := HFar.out _ _ _ x0 (Nat.ne_of_gt HGM.out)
                  have m4 := HFar.out _ _ _ x1 (Nat.ne_of_gt HGM.out)
                  have m5 := HFar.out _ _ _ x2 (Nat.ne_of_gt HGM.out)
                  clear hwz b0 b1 b2 z0 z1 z2 t0 t1 t2
                  go_wp2_with fail
                  go_region_held3 (fun w' => w'.cell? (ada.add (k * 3)) = some (.int .i64 y.f) ∧ w'.cell? ⟨(ada.add (k * 3)).block, (ada.add (k * 3)).off + 1, none⟩ = some (.int .i64 y.a) ∧ w'.cell? ⟨(ada.add (k * 3)).block, (ada.add (k * 3)).off + 2, none⟩ = some (.int .i64 y.l) ∧ w'.cell? ⟨wo.heap.size, 0, none⟩ = some (.int .i64 x.f) ∧ w'.cell? ⟨wo.heap.size, 1, none⟩ = some (.int .i64 x.a) ∧ w'.cell? ⟨wo.heap.size, 2, none⟩ = some (.int .i64 x.l)) (first | go_keep | exact ⟨m0, m1, m2, m3, m4, m5⟩) (fail)
                  clear m0 m1 m2 m3 m4 m5 y0 y1 y2 x0 x1 x2 hup
                  go_wp2
                  go_roundw
                  case rel => exact ⟨k + 1, by omega, by go_num, HMm.out, HBm.out⟩
                  case measure => simp [intOf]; omega
        · go_wp2
          go_ret
          exact ⟨rfl, HB4.out.trans (HBW.out.mono HB4.out.size)⟩
end Go.Proofs.Ytnpiphlmdjmfeaa
