/- Plan: the files that are swept. -/
import Derived.Test.YtnpiphlmdjmfeaaA7
set_option linter.unusedVariables false
set_option linter.unusedSimpArgs false
namespace Go.Proofs.Ytnpiphlmdjmfeaa
open Go.RowKit Go.Proofs.YtnpiphlmdjmfeaaW.PrintWords Go.Maps

/-- Element k of a slice of sizes that came in, as the walk meets its cells. -/
theorem sz_at {w : World} {A : Option Addr} {n : Nat} {xs : List Sz} (h : kSz.C w A n xs) (k : Nat) (hk : k < n) :
    ∃ ad, A = some ad ∧ w.cell? (ad.add (k * 2)) = some (.int .i64 (xs.getD k default).f) ∧ w.cell? ⟨(ad.add (k * 2)).block, (ad.add (k * 2)).off + 1, none⟩ = some (.int .i64 (xs.getD k default).b) := by
  obtain ⟨ad, e, hc⟩ := flat_at h default (k : Int) (by omega) (by omega)
  have hc' : ∀ j u, (encSz (xs.getD k default))[j]? = some u → w.cell? (ad.add (k * 2 + j)) = some u := hc
  exact ⟨ad, e, hc' 0 _ rfl, by rw [← add_field _ _ 1 (by omega)]; exact hc' 1 _ rfl⟩

def wfSz (s : Sz) : Prop := wfI s.f ∧ wfI s.b
/-- Files rise above 'last', and their bytes may be. -/
def rises (last : Int) : List Sz → Bool
  | [] => true
  | s :: r => decide (last < s.f) && (decide (0 ≤ s.b) && (decide (s.b ≤ 262144) && rises s.f r))
/-- The files that are swept among the first, at live bytes h. -/
def sweptN (h : Int → Int) (pct : Int) (sizes : List Sz) : Nat → List Int
  | 0 => []
  | i + 1 => sweptN h pct sizes i ++ if i + 1 < sizes.length ∧ h (sizes.getD i default).f * 100 < pct * (sizes.getD i default).b then [(sizes.getD i default).f] else []
def sweptF (h : Int → Int) (pct : Int) (sizes : List Sz) : List Int := sweptN h pct sizes sizes.length
theorem sweptN_le (h : Int → Int) (pct : Int) (sizes : List Sz) : ∀ i, (sweptN h pct sizes i).length ≤ i
  | 0 => by simp [sweptN]
  | i + 1 => by
    have := sweptN_le h pct sizes i
    unfold sweptN
    rw [List.length_append]
    split
    · simp; omega
    · simp; omega
theorem rises_bd : ∀ (l : List Sz) (last : Int), rises last l = true → ∀ s ∈ l, 0 ≤ s.b ∧ s.b ≤ 262144 ∧ last < s.f
  | [], _, _, s, hs => by simp at hs
  | x :: r, last, h, s, hs => by
    simp only [rises, Bool.and_eq_true, decide_eq_true_eq] at h
    obtain ⟨h1, h2, h3, h4⟩ := h
    rcases List.mem_cons.1 hs with rfl | hs
    · exact ⟨h2, h3, h1⟩
    · obtain ⟨a, b, c⟩ := rises_bd r x.f h4 s hs
      exact ⟨a, b, by omega⟩
def planE (sizes : List Sz) (live : List Pl) (pct : Int) : Int :=
  if 4096 < live.length then 2 else if rises 0 sizes = false then 1 else if pct < 1 ∨ 100 < pct then 1 else 0
def planR (sizes : List Sz) (live : List Pl) (pct : Int) : List Int :=
  if planE sizes live pct = 0 then sweptF (heldF (onceF live)) pct sizes else []

def PlanPost (sizes : List Sz) (live : List Pl) (pct : Int) (w : World) (e : Ending) (w' : World) : Prop :=
  ∃ v, e = .returned (.tuple #[v, .int .i64 (planE sizes live pct)]) ∧ w'.ownsRow w.heap.size 3 1 v (planR sizes live pct).length (nums .i64 (planR sizes live pct)) ∧ Below w.heap.size w w'

theorem info3 : (Try.prog.info? 3).map (fun i => (i.zero, i.size, i.bytes)) = some (some (.int .i64 0), 1, 8) := by kernel_rfl

theorem dd_mem (xs : List Pl) : ∀ i, i ≤ xs.length → ∀ p ∈ kept xs i, p ∈ xs
  | 0, _, p, hp => by simp [kept] at hp
  | i + 1, hi, p, hp => by
    unfold kept at hp
    split at hp
    · rcases List.mem_append.1 hp with h | h
      · exact dd_mem xs i (by omega) p h
      · rw [List.mem_singleton.1 h, List.getD_eq_getElem?_getD, List.getElem?_eq_getElem (show i < xs.length by omega)]
        exact List.getElem_mem _
    · exact dd_mem xs i (by omega) p hp
theorem onceF_mem (l : List Pl) (p : Pl) (h : p ∈ onceF l) : p ∈ l := by
  have := dd_mem _ _ (Nat.le_refl _) p h
  rwa [List.mem_mergeSort] at this
theorem onceF_len (l : List Pl) : (onceF l).length ≤ l.length := by
  exact Nat.le_trans (kept_le _ _) (by rw [List.length_mergeSort]; exact Nat.le_refl _)

set_option maxRecDepth 20000 in
set_option maxHeartbeats 1000000 in
theorem plan_long (A : Option Addr) (c n : Nat) (sv : Value) (pct : Int) (sizes : List Sz) (live : List Pl) (w : World) (hn : live.length = n) (h : 4096 < n) :
    Calls Try.prog 6 #[sv, .slice A n c, .int .i64 pct] w (PlanPost sizes live pct w) := by
  have HN := Lib.hid hn
  clear hn
  go_enter Try.func6, Try.ntmps6
  go_wp2_with (go_at_call 13; refine (once_long A c n _ h).mono ?_; rintro e w1 ⟨rfl, hb1⟩)
  go_ret2
  have e : planE sizes live pct = 2 := by rw [planE, if_pos (by rw [HN.out]; exact h)]
  exact ⟨_, by rw [e]; rfl, by rw [planR, e]; exact own_nil _ _ _ _, by assumption⟩

set_option maxRecDepth 20000 in
set_option maxHeartbeats 2000000 in
theorem plan_any (AS : Option Addr) (cS m : Nat) (sizes : List Sz) (A : Option Addr) (c n : Nat) (live : List Pl) (pct : Int) (w : World) (hm : sizes.length = m) (hs : kSz.C w AS m sizes) (hn : live.length = n) (hr : kPl.C w A n live)
    (hws : ∀ s ∈ sizes, wfSz s) (hwl : ∀ p ∈ live, wfPl p) (hsm : m ≤ 10000) (h : n ≤ 4096) :
    Calls Try.prog 6 #[.slice AS m cS, .slice A n c, .int .i64 pct] w (PlanPost sizes live pct w) := by
  have HM := Lib.hid hm
  have HS := Lib.hid hs
  have HN := Lib.hid hn
  have HR := Lib.hid hr
  have HWS := Lib.hid hws
  have HWL := Lib.hid hwl
  clear hm hs hn hr hws hwl
  go_enter Try.func6, Try.ntmps6
  go_wp2_with fail
  refine (once_any A c live n w HN.out HR.out h).mono ?_
  rintro e w1 ⟨v1, rfl, ho1, hb1⟩
  have HO1 := Lib.hid ho1
  have HB1 := Lib.hid hb1
  clear ho1 hb1
  go_wp2_with fail
  go_loopw [10, 27] (fun s10 s27 wr => ∃ (k : Nat) (last : Int), k ≤ m ∧ s27 = .int .i64 k ∧ s10 = .int .i64 last ∧ Hid (rises 0 sizes = rises last (sizes.drop k)) ∧ Hid (Below w1.heap.size w1 wr)) (fun _ s27 _ => m - (intOf s27).toNat)
  case atStart => exact ⟨0, 0, Nat.zero_le _, rfl, rfl, rfl, Below.refl _ _⟩
  case round =>
    obtain ⟨k, last, hk, rfl, rfl, HRI, HB2⟩ := hrel
    by_cases hlt : k < m
    · have hb2' := HB1.out.trans (HB2.out.mono HB1.out.size)
      obtain ⟨ad, rfl, c0, c1⟩ := sz_at (Kd.C_below HS.out hb2') k hlt
      have hwx : wfSz (sizes.getD k default) := by
        apply HWS.out
        rw [List.getD_eq_getElem?_getD, List.getElem?_eq_getElem (show k < sizes.length by rw [HM.out]; exact hlt)]
        exact List.getElem_mem _
      have hsn : sizes.drop k = sizes.getD k default :: sizes.drop (k + 1) := by
        rw [List.drop_eq_getElem_cons (show k < sizes.length by rw [HM.out]; exact hlt), List.getD_eq_getElem?_getD, List.getElem?_eq_getElem (show k < sizes.length by rw [HM.out]; exact hlt)]
        rfl
      generalize sizes.getD k default = x at c0 c1 hwx hsn
      have hri : rises 0 sizes = (decide (last < x.f) && (decide (0 ≤ x.b) && (decide (x.b ≤ 262144) && rises x.f (sizes.drop (k + 1))))) := by rw [HRI.out, hsn, rises]
      have HI := Lib.hid hri
      have HWX := Lib.hid hwx
      have HBW := Lib.hid hb2'
      clear hri hwx hsn hb2' HRI
      have hsz2 := HB2.out.size
      have hbad : rises 0 sizes = false → PlanPost sizes live pct w (.returned (.tuple #[.slice none 0 0, .int .i64 1])) (wr.alloc (.cells #[.int .i64 x.f, .int .i64 x.b] 34)) := fun hf => by
        have e : planE sizes live pct = 1 := by rw [planE, if_neg (by rw [HN.out]; omega), if_pos hf]
        exact ⟨_, by rw [e], by rw [planR, e]; exact own_nil _ _ _ _, HBW.out.alloc HBW.out.size _⟩
      have HBAD := Lib.hid hbad
      clear hbad
      by_cases h1 : last < x.f
      · by_cases h2 : 0 ≤ x.b
        · by_cases h3 : x.b ≤ 262144
          · go_wp2
            go_roundw
            case rel => exact ⟨k + 1, x.f, by omega, by go_num, rfl, by rw [Hid, HI.out]; simp [h1, h2, h3], HB2.out.alloc hsz2 _⟩
            case measure => simp [intOf]; omega
          · have HF := Lib.hid (HBAD.out (by rw [HI.out]; simp [h3]))
            go_wp2
            go_ret2
            exact HF.out
        · have HF := Lib.hid (HBAD.out (by rw [HI.out]; simp [h2]))
          go_wp2
          go_ret2
          exact HF.out
      · have HF := Lib.hid (HBAD.out (by rw [HI.out]; simp [h1]))
        go_wp2
        go_ret2
        exact HF.out
    · have hend : k = m := by omega
      have hri : rises 0 sizes = true := by rw [HRI.out, hend, ← HM.out, List.drop_length]; rfl
      have HI := Lib.hid hri
      have hb2' := HB1.out.trans (HB2.out.mono HB1.out.size)
      have HBW := Lib.hid hb2'
      have HO2 := Lib.hid (pw_own_below HO1.out HB2.out)
      clear hri hb2' HRI hend HB2
      have hbad : (pct < 1 ∨ 100 < pct) → PlanPost sizes live pct w (.returned (.tuple #[.slice none 0 0, .int .i64 1])) wr := fun hf => by
        have e : planE sizes live pct = 1 := by rw [planE, if_neg (by rw [HN.out]; omega), if_neg (by rw [HI.out]; simp), if_pos hf]
        exact ⟨_, by rw [e], by rw [planR, e]; exact own_nil _ _ _ _, HBW.out⟩
      have HBAD := Lib.hid hbad
      clear hbad
      by_cases h1 : pct < 1
      · have HF := Lib.hid (HBAD.out (.inl h1))
        go_wp2
        go_ret2
        exact HF.out
      · by_cases h2 : 100 < pct
        · have HF := Lib.hid (HBAD.out (.inr h2))
          go_wp2
          go_ret2
          exact HF.out
        · have HE : Hid (planE sizes live pct = 0) := by rw [Hid, planE, if_neg (by rw [HN.out]; omega), if_neg (by rw [HI.out]; simp), if_neg (by omega)]
          have hp1 : 1 ≤ pct := by omega
          have hp2 : pct ≤ 100 := by omega
          clear HBAD h1 h2
          have hol := onceF_len live
          obtain ⟨A1, c1, rfl⟩ := own_slice HO2.out
          have HC : Hid (kPl.C wr A1 (onceF live).length (onceF live)) := by
            obtain ⟨A', c', e, _, hc⟩ := Kd.R_reads (flat_own_R (hk := encPl_len) (h1 := encPl_one) HO2.out)
            cases e
            exact hc
          go_wp2_with fail
          refine (bytes_any A1 c1 (onceF live) (onceF live).length wr rfl HC.out (fun p hp => HWL.out p (onceF_mem live p hp)) (by rw [HN.out] at hol; omega)).mono ?_
          rintro e w2 ⟨b, D, rfl, hbb, hmap, hT, hb3⟩
          have HMAP := Lib.hid hmap
          have HT := Lib.hid hT
          have HB3 := Lib.hid hb3
          clear hmap hT hb3 hol
          go_wp2_with fail
          obtain ⟨wo, rfl⟩ : ∃ wo : World, wo = wr := ⟨_, rfl⟩
          go_loopw [14, 58] (fun s14 s58 wq => ∃ k2 : Nat, k2 ≤ m ∧ s58 = .int .i64 k2 ∧ Hid (wq.ownsRow w2.heap.size 3 1 s14 (sweptN (heldF (onceF live)) pct sizes k2).length (nums .i64 (sweptN (heldF (onceF live)) pct sizes k2))) ∧ Hid (Below w2.heap.size w2 wq)) (fun _ s58 _ => m - (intOf s58).toNat)
          case atStart => exact ⟨0, Nat.zero_le _, rfl, own_nil _ _ _ _, Below.refl _ _⟩
          case round =>
            obtain ⟨k2, hk2, rfl, HOUT, HB4⟩ := hrel
            by_cases hlt2 : k2 < m
            · have hbw := (HBW.out.trans (HB3.out.mono HBW.out.size)).trans (HB4.out.mono (Nat.le_trans HBW.out.size HB3.out.size))
              obtain ⟨ad, rfl, c0, c1⟩ := sz_at (Kd.C_below HS.out hbw) k2 hlt2
              have hmem : sizes.getD k2 default ∈ sizes := by
                rw [List.getD_eq_getElem?_getD, List.getElem?_eq_getElem (show k2 < sizes.length by rw [HM.out]; exact hlt2)]
                exact List.getElem_mem _
              have hwx := HWS.out _ hmem
              obtain ⟨hb0, hb1, -⟩ := rises_bd sizes 0 HI.out _ hmem
              have hsn : sweptN (heldF (onceF live)) pct sizes (k2 + 1) = sweptN (heldF (onceF live)) pct sizes k2 ++ if k2 + 1 < m ∧ heldF (onceF live) (sizes.getD k2 default).f * 100 < pct * (sizes.getD k2 default).b then [(sizes.getD k2 default).f] else [] := by rw [sweptN, HM.out]
              generalize sizes.getD k2 default = x at c0 c1 hwx hb0 hb1 hsn
              have hlen1 := sweptN_le (heldF (onceF live)) pct sizes k2
              have hbd := heldF_bd (onceF live) x.f
              have hol := onceF_len live
              have HLB := Lib.hid hlen1
              have hat := HT.out.at_ x.f hwx.1
              generalize hq : heldF (onceF live) x.f = q at hat hbd hsn
              have HQ := Lib.hid hq
              have HSN := Lib.hid hsn
              have HWX := Lib.hid hwx
              have HBQ := Lib.hid hbw
              have hb4 := HB4.out.size
              clear hsn hwx hbw hmem hq hlen1
              rw [HN.out] at hol
              have hq0 := hbd.1
              have hq1 : q ≤ 300000000 := by omega
              clear hbd hol
              have hpb0 : 0 ≤ pct * x.b := Int.mul_nonneg (by omega) hb0
              have hpb1 : pct * x.b ≤ 100 * 262144 := Int.mul_le_mul hp2 hb1 hb0 (by omega)
              by_cases hlast : k2 + 1 < m
              · have hkey : keyOf Try.prog 3 (.int .i64 x.f) = some (.int .i64 x.f) := keyOf_int_mk Try.underlying3 HWX.out.1
                have hM2 : wr.ownsMap Try.prog 3 (plainElem Try.prog 3) b (onceF live).length D := HMAP.out.kept (grown_of_below HB4.out none) (by simp)
                obtain ⟨c, hrun, hat2, -⟩ := (hM2.alloc (.cells #[.int .i64 x.f, .int .i64 x.b] 34)).lookup_int law3 Try.underlying53 Try.underlying3 (zero3 _) hkey
                have hcq : c = q := by rw [hat] at hat2; simpa using hat2.symm
                subst hcq
                clear hat hat2 hkey hM2
                by_cases hc : c * 100 < pct * x.b
                · have HSN2 : Hid (sweptN (heldF (onceF live)) pct sizes (k2 + 1) = sweptN (heldF (onceF live)) pct sizes k2 ++ [x.f]) := by rw [Hid, HSN.out, if_pos ⟨hlast, hc⟩]
                  clear HSN
                  have hone : Hid (∀ u ∈ [Value.int .i64 x.f], u.oneCell' = true) := fun u hu => by rw [List.mem_singleton.1 hu]; rfl
                  go_wp2_with (at_builtin; refine print_append_cells (w0 := w2) w2.heap.size rfl (.tmp 80) (.tmp 83) 27 3 (.int .i64 0) 1 8 rfl Try.underlying27 info3 rfl (by decide) (by decide) _ (sweptN (heldF (onceF live)) pct sizes k2).length (nums .i64 (sweptN (heldF (onceF live)) pct sizes k2)) [Value.int .i64 x.f] rfl ?aX rfl hone ?aO ?aB ?aS ?aL ?_; rotate_left 5; intro v3 w3 hown3 hb3 hg3 hat3; have HO3 := Lib.hid hown3; have HB5 := Lib.hid hb3; clear hown3 hb3 hg3 hat3)
                  case aX => simp [Act.eval]
                  case aO => exact HOUT.out.alloc _
                  case aB => exact HB4.out.alloc hb4 _
                  case aS => simp; omega
                  case aL => have := HLB.out; omega
                  go_roundw
                  case rel =>
                    refine ⟨k2 + 1, by omega, by go_num, ?_, HB5.out⟩
                    rw [HSN2.out, List.length_append, nums_append]
                    exact HO3.out
                  case measure => simp [intOf]; omega
                · have HSN2 : Hid (sweptN (heldF (onceF live)) pct sizes (k2 + 1) = sweptN (heldF (onceF live)) pct sizes k2) := by rw [Hid, HSN.out, if_neg (fun h => hc h.2), List.append_nil]
                  clear HSN
                  go_wp2
                  go_roundw
                  case rel => exact ⟨k2 + 1, by omega, by go_num, by rw [Hid, HSN2.out]; exact HOUT.out.alloc _, HB4.out.alloc hb4 _⟩
                  case measure => simp [intOf]; omega
              · have HSN2 : Hid (sweptN (heldF (onceF live)) pct sizes (k2 + 1) = sweptN (heldF (onceF live)) pct sizes k2) := by rw [Hid, HSN.out, if_neg (fun h => hlast h.1), List.append_nil]
                clear HSN
                go_wp2
                go_roundw
                case rel => exact ⟨k2 + 1, by omega, by go_num, by rw [Hid, HSN2.out]; exact HOUT.out.alloc _, HB4.out.alloc hb4 _⟩
                case measure => simp [intOf]; omega
            · have hend2 : k2 = m := by omega
              have HSZ : Hid (Below w.heap.size w wr) := (HBW.out.trans (HB3.out.mono HBW.out.size)).trans (HB4.out.mono (Nat.le_trans HBW.out.size HB3.out.size))
              have hle := Nat.le_trans HBW.out.size HB3.out.size
              have HLE := Lib.hid hle
              have HM2 : Hid (k2 = sizes.length) := by rw [Hid, hend2, HM.out]
              clear hend2 hle
              go_wp2
              go_ret2
              refine ⟨_, by rw [HE.out]; rfl, ?_, HSZ.out⟩
              rw [planR, if_pos HE.out, sweptF, ← HM2.out]
              exact own_weaken HOUT.out HLE.out
end Go.Proofs.Ytnpiphlmdjmfeaa
