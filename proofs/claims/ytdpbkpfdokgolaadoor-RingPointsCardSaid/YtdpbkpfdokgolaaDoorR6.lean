/- Points: all points. -/
import Derived.Test.YtdpbkpfdokgolaaDoorR5
import Derived.Test.YtdpbkpfdokgolaaDoorTwo
set_option linter.unusedVariables false
set_option linter.unusedSimpArgs false
namespace Go.Proofs.YtdpbkpfdokgolaaDoor
open Go.RowKit Go.Proofs.YtdpbkpfdokgolaaDoorW.PrintWords Go.Sort

theorem pt_at {w : World} {A : Option Addr} {n : Nat} {xs : List Pt} (h : kPt.C w A n xs) (k : Nat) (hk : k < n) :
    ∃ ad, A = some ad ∧ w.cell? (ad.add (k * 3)) = some (.int .u64 (xs.getD k default).at_) ∧ w.cell? ⟨(ad.add (k * 3)).block, (ad.add (k * 3)).off + 1, none⟩ = some (.int .i64 (xs.getD k default).c) ∧ w.cell? ⟨(ad.add (k * 3)).block, (ad.add (k * 3)).off + 2, none⟩ = some (.int .i64 (xs.getD k default).i) := by
  obtain ⟨ad, e, hc⟩ := flat_at h default (k : Int) (by omega) (by omega)
  have hc' : ∀ j u, (encPt (xs.getD k default))[j]? = some u → w.cell? (ad.add (k * 3 + j)) = some u := hc
  exact ⟨ad, e, hc' 0 _ rfl, by rw [← add_field _ _ 1 (by omega)]; exact hc' 1 _ rfl, by rw [← add_field _ _ 2 (by omega)]; exact hc' 2 _ rfl⟩

theorem infoU64 : (Tryd.prog.info? 29).map (fun i => (i.zero, i.size, i.bytes)) = some (some (.int .u64 0), 1, 8) := by kernel_rfl
theorem infoInt : (Tryd.prog.info? 3).map (fun i => (i.zero, i.size, i.bytes)) = some (some (.int .i64 0), 1, 8) := by kernel_rfl

theorem own_row {w : World} {B : Nat} {v : Value} {xs : List Pt} (h : w.ownsRow B 83 3 v xs.length (xs.flatMap encPt)) : ∃ A c, v = .slice A xs.length c ∧ kPt.C w A xs.length xs := by
  obtain ⟨A', c', e, _, hc⟩ := Kd.R_reads (flat_own_R (hk := encPt_len) (h1 := encPt_one) h)
  exact ⟨A', c', e, hc⟩

/-- What made gives. -/
def pubOf (ws : List Int) : List Pt := if MayW ws then ringOf ws else []
def atsOf (l : List Pt) : List Value := l.map fun x => .int .u64 x.at_
def chsOf (l : List Pt) : List Value := l.map fun x => .int .i64 x.c

theorem pub_len (ws : List Int) : (pubOf ws).length ≤ 1024 := by
  unfold pubOf
  split
  · rename_i h
    rw [ringOf, List.length_mergeSort]
    have := preP_len h.2.2.1 ws.length (Nat.le_refl _)
    have h2 := h.2.1
    unfold ptsW
    omega
  · simp

theorem made_any' (A : Option Addr) (c : Nat) (ws : List Int) (w : World) (hC : (Kd.int .i64).C w A ws.length ws) (hbig : ws.length ≤ 9223372036854775807) (htab : Lib.TabIs Tryd.prog w "internal/strconv.uint64pow10" .u64 Lib.pow10Tab) :
    Calls Tryd.prog 33 #[.slice A ws.length c] w fun e w' => ∃ A' c', e = .returned (.tuple #[.slice A' (pubOf ws).length c', .int .i64 (errW' ws)]) ∧ kPt.C w' A' (pubOf ws).length (pubOf ws) ∧ Below w.heap.size w w' := by
  refine (made_any A c ws w hC hbig htab).mono ?_
  rintro e w' (⟨hm, rfl, rfl⟩ | ⟨hm, v, rfl, ho, hb⟩)
  · refine ⟨none, 0, ?_, ?_, Below.refl _ _⟩
    · simp [pubOf, errW', hm]
    · rw [pubOf, if_neg hm]; exact Kd.C_nil _ _
  · obtain ⟨A', c', rfl, hc⟩ := own_row ho
    refine ⟨A', c', ?_, ?_, hb⟩
    · simp [pubOf, errW', hm]
    · rw [pubOf, if_pos hm]; exact hc

set_option maxRecDepth 20000 in
set_option maxHeartbeats 4000000 in
theorem points_any (A : Option Addr) (c : Nat) (ws : List Int) (w : World) (hC : (Kd.int .i64).C w A ws.length ws) (hbig : ws.length ≤ 9223372036854775807) (htab : Lib.TabIs Tryd.prog w "internal/strconv.uint64pow10" .u64 Lib.pow10Tab) :
    Calls Tryd.prog 8 #[.slice A ws.length c] w fun e w' => ∃ va vb, e = .returned (.tuple #[va, vb, .int .i64 (errW' ws)]) ∧
      w'.ownsRow w.heap.size 29 1 va (pubOf ws).length (atsOf (pubOf ws)) ∧ w'.ownsRow w.heap.size 3 1 vb (pubOf ws).length (chsOf (pubOf ws)) ∧ Below w.heap.size w w' := by
  have HMd := Lib.hid (made_any' A c ws w hC hbig htab)
  have hn := pub_len ws
  clear hC htab
  generalize errW' ws = er at HMd ⊢
  generalize pubOf ws = rs at HMd hn ⊢
  obtain ⟨n, hrn⟩ : ∃ n, rs.length = n := ⟨_, rfl⟩
  have HN := Lib.hid hrn
  rw [hrn] at hn HMd ⊢
  clear hrn
  go_enter Tryd.func8, Tryd.ntmps8
  go_wp2_with fail
  refine HMd.out.mono ?_
  rintro e w1 ⟨A1, c1, rfl, hr1, hb1⟩
  have HR := Lib.hid hr1
  have HB1 := Lib.hid hb1
  clear hr1 hb1 HMd
  go_wp2_with fail
  go_loopw [2, 3, 15] (fun s2 s3 s15 wr => ∃ k : Nat, k ≤ n ∧ s15 = .int .i64 k ∧ Hid (Two w1 wr w1.heap.size 29 s2 (atsOf (rs.take k)) 3 s3 (chsOf (rs.take k)))) (fun _ _ i _ => n - (intOf i).toNat)
  case atStart => exact ⟨0, Nat.zero_le _, rfl, ⟨own_nil _ _ _ _, own_nil _ _ _ _, fun k h => (by cases h), Below.refl _ _⟩⟩
  case round =>
    obtain ⟨k, hk, rfl, HT⟩ := hrel
    by_cases hlt : k < n
    · obtain ⟨ad, rfl, c0, c1, c2⟩ := pt_at (Kd.C_below HR.out HT.out.bel) k hlt
      have hsn : rs.take (k + 1) = rs.take k ++ [rs.getD k default] := by
        rw [List.take_succ_eq_append_getElem (show k < rs.length by rw [HN.out]; exact hlt), List.getD_eq_getElem?_getD, List.getElem?_eq_getElem (show k < rs.length by rw [HN.out]; exact hlt)]
        rfl
      generalize rs.getD k default = x at c0 c1 c2 hsn
      have HS := Lib.hid hsn
      clear hsn
      go_wp2_with fail
      have hTq := HT.out.alloc (Nat.le_refl _) (.cells #[.int .u64 x.at_, .int .i64 x.c, .int .i64 x.i] 83)
      have hq0 : (wr.alloc (.cells #[.int .u64 x.at_, .int .i64 x.c, .int .i64 x.i] 83)).cell? ⟨wr.heap.size, 0, none⟩ = some (.int .u64 x.at_) := by simp
      have hq1 : (wr.alloc (.cells #[.int .u64 x.at_, .int .i64 x.c, .int .i64 x.i] 83)).cell? ⟨wr.heap.size, 1, none⟩ = some (.int .i64 x.c) := by simp
      have hqs : wr.heap.size < (wr.alloc (.cells #[.int .u64 x.at_, .int .i64 x.c, .int .i64 x.i] 83)).heap.size := by simp
      have HNa := Lib.hid (fun k hk => own_lt' HT.out.oa k hk)
      have HNb := Lib.hid (fun k hk => own_lt' HT.out.ob k hk)
      generalize wr.alloc (.cells #[.int .u64 x.at_, .int .i64 x.c, .int .i64 x.i] 83) = wq at hTq hq0 hq1 hqs ⊢
      generalize wr.heap.size = N at hq0 hq1 hqs HNa HNb ⊢
      have hl1 : ((atsOf (rs.take k)).length + 1) * 8 ≤ 140737488355328 := by simp [atsOf]; omega
      have hl2 : ((chsOf (rs.take k)).length + 1) * 8 ≤ 140737488355328 := by simp [chsOf]; omega
      clear c0 c1 c2 HT
      have HT := Lib.hid hTq
      have HL1 := Lib.hid hl1
      have HL2 := Lib.hid hl2
      clear hTq hl1 hl2
      go_region_law (first
        | (refine step_two_a rfl (.tmp 19) (.tmp 22) 24 (.int .u64 0) 8 rfl Tryd.underlying24 infoU64 rfl (by decide) rfl _ 1 (.int .u64 x.at_) rfl ?_ rfl (Nat.le_refl _) HL1.out ((HT.out.alloc (Nat.le_refl _) _).drew) N HNa.out ?_
           · (go_simp; done)
           intro v5 w5 hT5 hk5 hs5
           have HT := Lib.hid hT5
           have HK := Lib.hid hk5
           have hs6 := hs5
           have hq1 : w5.cell? ⟨N, 1, none⟩ = some (.int .i64 x.c) := (hk5 N 1 (Nat.le_refl _) (by first | omega | (simp; omega) | (simp; done))).trans (by go_simp)
           clear hT5 hk5 hs5)
        | (refine step_two_a rfl (.tmp 19) (.tmp 22) 24 (.int .u64 0) 8 rfl Tryd.underlying24 infoU64 rfl (by decide) rfl _ 1 (.int .u64 x.at_) rfl ?_ rfl (Nat.le_refl _) HL1.out (((HT.out.alloc (Nat.le_refl _) _).alloc (Nat.le_refl _) _).drew) N HNa.out ?_
           · (go_simp; done)
           intro v5 w5 hT5 hk5 hs5
           have HT := Lib.hid hT5
           have HK := Lib.hid hk5
           have hs6 := hs5
           have hq1 : w5.cell? ⟨N, 1, none⟩ = some (.int .i64 x.c) := (hk5 N 1 (Nat.le_refl _) (by first | omega | (simp; omega) | (simp; done))).trans (by go_simp)
           clear hT5 hk5 hs5)
        | (refine step_two_a rfl (.tmp 24) (.tmp 27) 22 (.int .i64 0) 8 rfl Tryd.underlying22 infoInt rfl (by decide) rfl _ 1 (.int .i64 x.c) rfl ?_ rfl (Nat.le_refl _) HL2.out (HT.out).swap N HNb.out ?_
           · (first | (go_simp; done) | (rw [HK.out _ _ (by omega) (by first | omega | (simp; omega) | (simp; done))]; go_simp; done))
           intro v6 w6 hT5 hk5 hs5
           have HT := Lib.hid hT5.swap
           clear hT5 hk5 hs5)
        | (refine step_two_a rfl (.tmp 24) (.tmp 27) 22 (.int .i64 0) 8 rfl Tryd.underlying22 infoInt rfl (by decide) rfl _ 1 (.int .i64 x.c) rfl ?_ rfl (Nat.le_refl _) HL2.out (HT.out.alloc (Nat.le_refl _) _).swap N HNb.out ?_
           · (first | (go_simp; done) | (rw [HK.out _ _ (by omega) (by first | omega | (simp; omega) | (simp; done))]; go_simp; done))
           intro v6 w6 hT5 hk5 hs5
           have HT := Lib.hid hT5.swap
           clear hT5 hk5 hs5))
      all_goals (
        go_wp2
        go_roundw
        (case rel => exact ⟨k + 1, by omega, by go_num, by rw [HS.out]; simpa [atsOf, chsOf] using HT⟩)
        (case measure => simp [intOf]; omega))
    · obtain rfl : k = n := by omega
      go_wp2
      go_ret3
      have h1 := HT.out
      rw [← HN.out, List.take_length] at h1
      refine ⟨_, _, rfl, ?_, ?_, HB1.out.trans (h1.bel.mono HB1.out.size)⟩
      · have := own_weaken h1.oa HB1.out.size
        rw [← HN.out]
        simpa [atsOf] using this
      · have := own_weaken h1.ob HB1.out.size
        rw [← HN.out]
        simpa [chsOf] using this
end Go.Proofs.YtdpbkpfdokgolaaDoor
