/- The walk of RingPlaces. -/
import Derived.Test.YtdpbkpfdokgolaaDoorS2
set_option linter.unusedVariables false
set_option linter.unusedSimpArgs false
namespace Go.Proofs.YtdpbkpfdokgolaaDoor
open Go.RowKit Go.Proofs.YtdpbkpfdokgolaaDoorW.PrintWords Go.Sort

theorem ats_at {w : World} {A : Option Addr} {n : Nat} {l : List Pt} (h : (Kd.int .u64).C w A n (l.map (·.at_))) (k : Nat) (hk : k < n) : ∃ ad, A = some ad ∧ w.cell? (ad.add k) = some (.int .u64 (l.getD k default).at_) := by
  obtain ⟨ad, e, hc⟩ := Kd.at_int h k (by omega) (by omega)
  refine ⟨ad, e, ?_⟩
  have h2 : YtdpbkpfdokgolaaDoorW.PrintWords.rd (l.map (·.at_)) (k : Int) = (l.getD k default).at_ := by
    simp only [YtdpbkpfdokgolaaDoorW.PrintWords.rd, Int.toNat_natCast, List.getD, List.getElem?_map]
    cases l[k]? <;> rfl
  rw [Int.toNat_natCast, h2] at hc
  exact hc
theorem chs_at {w : World} {A : Option Addr} {n : Nat} {l : List Pt} (h : (Kd.int .i64).C w A n (l.map (·.c))) (k : Nat) (hk : k < n) : ∃ ad, A = some ad ∧ w.cell? (ad.add k) = some (.int .i64 (l.getD k default).c) := by
  obtain ⟨ad, e, hc⟩ := Kd.at_int h k (by omega) (by omega)
  refine ⟨ad, e, ?_⟩
  have h2 : YtdpbkpfdokgolaaDoorW.PrintWords.rd (l.map (·.c)) (k : Int) = (l.getD k default).c := by
    simp only [YtdpbkpfdokgolaaDoorW.PrintWords.rd, Int.toNat_natCast, List.getD, List.getElem?_map]
    cases l[k]? <;> rfl
  rw [Int.toNat_natCast, h2] at hc
  exact hc
theorem own_ats {w : World} {B : Nat} {v : Value} {l : List Pt} (h : w.ownsRow B 29 1 v l.length (atsOf l)) : ∃ A c, v = .slice A l.length c ∧ (Kd.int .u64).C w A l.length (l.map (·.at_)) := by
  obtain ⟨A, c, e, _, hc⟩ := own_ints (k := .u64) (xs := l.map (·.at_)) (by rw [List.map_map, List.length_map]; exact h)
  exact ⟨A, c, by simpa using e, by simpa using hc⟩
theorem own_chs {w : World} {B : Nat} {v : Value} {l : List Pt} (h : w.ownsRow B 3 1 v l.length (chsOf l)) : ∃ A c, v = .slice A l.length c ∧ (Kd.int .i64).C w A l.length (l.map (·.c)) := by
  obtain ⟨A, c, e, _, hc⟩ := own_ints (k := .i64) (xs := l.map (·.c)) (by rw [List.map_map, List.length_map]; exact h)
  exact ⟨A, c, by simpa using e, by simpa using hc⟩

theorem points_any' (A : Option Addr) (c : Nat) (ws : List Int) (w : World) (hC : (Kd.int .i64).C w A ws.length ws) (hbig : ws.length ≤ 9223372036854775807) (htab : Lib.TabIs Tryd.prog w "internal/strconv.uint64pow10" .u64 Lib.pow10Tab) :
    Calls Tryd.prog 8 #[.slice A ws.length c] w fun e w' => ∃ Aa ca Ab cb, e = .returned (.tuple #[.slice Aa (pubOf ws).length ca, .slice Ab (pubOf ws).length cb, .int .i64 (errW' ws)]) ∧
      (Kd.int .u64).C w' Aa (pubOf ws).length ((pubOf ws).map (·.at_)) ∧ (Kd.int .i64).C w' Ab (pubOf ws).length ((pubOf ws).map (·.c)) ∧ Below w.heap.size w w' := by
  refine (points_any A c ws w hC hbig htab).mono ?_
  rintro e w' ⟨va, vb, rfl, h1, h2, h3⟩
  obtain ⟨Aa, ca, rfl, hA⟩ := own_ats h1
  obtain ⟨Ab, cb, rfl, hB⟩ := own_chs h2
  exact ⟨Aa, ca, Ab, cb, rfl, hA, hB, h3⟩

theorem own_made (w : World) (B m : Nat) (hB : B ≤ w.heap.size) (hm : m ≤ 1000) : (w.alloc (.cells (madeCells #[.int .i64 0] m) 3)).ownsRow B 3 1 (.slice (some ⟨w.heap.size, 0, none⟩) m m) m ((List.replicate m (0 : Int)).map (Value.int .i64)) := by
  refine ⟨by simp, .inr ⟨w.heap.size, m, _, rfl, hB, heap_alloc_new w _, Nat.le_refl _, by unfold maxLen; omega, by simp [size_madeCells], ?_⟩⟩
  apply List.ext_getElem
  · simp [size_madeCells]
  · intro i h1 h2
    simp [madeCells, Nat.mod_one]

set_option maxRecDepth 20000 in
set_option maxHeartbeats 8000000 in
theorem ringPlaces_any (A : Option Addr) (c : Nat) (ws : List Int) (s : ByteArray) (w : World) (hC : (Kd.int .i64).C w A ws.length ws) (hbig : ws.length ≤ 9223372036854775807) (hsz : s.size ≤ 9223372036854775807) (htab : Lib.TabIs Tryd.prog w "internal/strconv.uint64pow10" .u64 Lib.pow10Tab) :
    Calls Tryd.prog 4 #[.slice A ws.length c, .string s] w fun e w' => e = .returned (.bool true) ∧ Below w.heap.size w w' := by
  have HT := Lib.hid (Lib.tabBelow_of_tabIs htab)
  have HC := Lib.hid hC
  have HW := Lib.hid (works06_any w htab)
  have HPts := Lib.hid (fun w1 hb => points_any' A c ws w1 (Kd.C_below hC hb) hbig ((Lib.tabBelow_of_tabIs htab).on hb).here)
  have HOf := Lib.hid (fun w1 hb => ofW_any A c ws s w1 (Kd.C_below hC hb) hbig hsz ((Lib.tabBelow_of_tabIs htab).on hb).here)
  have HH := Lib.hid (fun w1 => hash_any s w1 hsz)
  clear hC htab
  have hpl := pub_len ws
  by_cases hm : MayW ws
  · have hpos := ring_pos hm
    rw [show pubOf ws = ringOf ws by rw [pubOf, if_pos hm], show errW' ws = 0 by rw [errW', if_pos hm]] at HPts
    rw [show pubOf ws = ringOf ws by rw [pubOf, if_pos hm]] at hpl
    have HM := Lib.hid hm
    have hm8 : ws.length ≤ 8 := hm.2.1
    have HCH := Lib.hid (fun k hk => ring_chain (ws := ws) k hk)
    have HSrt := Lib.hid (fun a b h hb => ring_sorted ws a b h hb)
    have HEnd := Lib.hid (fun q hq => cnt_end hm q hq)
    have HOf2 : Hid (∀ w1, Below w.heap.size w w1 → Calls Tryd.prog 17 #[.slice A ws.length c, .string s] w1 fun e w' => ∃ i, e = .returned (.tuple #[.int .i64 (chainAt (ringOf ws) i), .int .i64 0]) ∧ Cut (ringOf ws) (hashOf s) i ∧ Below w1.heap.size w1 w') := fun w1 hb => (HOf.out w1 hb).mono (by
      rintro e w' (⟨hno, _⟩ | ⟨_, h⟩)
      · exact absurd hm hno
      · exact h)
    clear hm HOf
    generalize ringOf ws = rs at *
    generalize hashOf s = hv at *
    obtain ⟨n, hn⟩ : ∃ n, rs.length = n := ⟨_, rfl⟩
    obtain ⟨m, hmm⟩ : ∃ m, ws.length = m := ⟨_, rfl⟩
    have HN := Lib.hid hn
    have HMM := Lib.hid hmm
    rw [hn] at hpl hpos HPts HCH HSrt HEnd
    rw [hmm] at hm8 HC HPts HCH HEnd HOf2 hbig ⊢
    clear hn hmm
    go_enter Tryd.func4, Tryd.ntmps4
    go_wp2_with (go_at_call 16; refine HW.out.mono ?_; rintro e w1 ⟨rfl, hb1⟩; have HB1 := Lib.hid hb1; clear hb1)
    refine (HPts.out w1 HB1.out).mono ?_
    rintro e w2 ⟨Aa, ca, Ab, cb, rfl, hA, hB, hb2⟩
    have HB2 : Hid (Below w.heap.size w w2) := HB1.out.trans (hb2.mono HB1.out.size)
    clear hb2 HPts HW HB1
    obtain ⟨ada, rfl, _⟩ := ats_at hA 0 hpos
    obtain ⟨adb, rfl, hb0⟩ := chs_at hB 0 hpos
    have HAt := Lib.hid (fun wx (hb : Below w2.heap.size w2 wx) k (hk : k < n) => show wx.cell? (ada.add k) = some (.int .u64 (rs.getD k default).at_) by
      obtain ⟨ad', e, hc⟩ := ats_at (Kd.C_below hA hb) k hk
      injection e with e
      subst e
      exact hc)
    have HCt := Lib.hid (fun wx (hb : Below w2.heap.size w2 wx) k (hk : k < n) => show wx.cell? (adb.add k) = some (.int .i64 (rs.getD k default).c) by
      obtain ⟨ad', e, hc⟩ := chs_at (Kd.C_below hB hb) k hk
      injection e with e
      subst e
      exact hc)
    have hmk := run_make_row' (P := Tryd.prog) 22 3 (.int .i64 0) 8 Tryd.underlying22 infoInt rfl .i64 .i64 m (by omega) (by omega)
    have HMade := Lib.hid (own_made w2 w2.heap.size m (Nat.le_refl _) (by omega))
    have HBm : Hid (Below w2.heap.size w2 (w2.alloc (.cells (madeCells #[.int .i64 0] m) 3))) := (Below.refl _ _).alloc (Nat.le_refl _) _
    have hc0 : (w2.alloc (.cells (madeCells #[.int .i64 0] m) 3)).cell? adb = some (.int .i64 (rs.getD 0 default).c) := by
      have := HCt.out _ HBm.out 0 hpos
      rwa [show adb.add 0 = adb by cases adb; rfl] at this
    rw [show List.replicate m (0 : Int) = cnts rs 0 m from (cnts_zero rs m).symm] at HMade
    obtain ⟨q0, hq0⟩ : ∃ q0, (rs.getD 0 default).c = q0 := ⟨_, rfl⟩
    have HQ0 := Lib.hid hq0
    rw [hq0] at hc0
    clear hA hB hb0 hq0
    go_wp2_with fail
    refine (HH.out _).mono ?_
    rintro e w3 ⟨rfl, q3, hw3⟩
    have HB3 : Hid (Below w2.heap.size w2 w3) := by rw [hw3]; exact HBm.out.trans (drawsBelow _ _ _)
    have HMade3 : Hid (w3.ownsRow w2.heap.size 3 1 (.slice (some ⟨w2.heap.size, 0, none⟩) m m) m ((cnts rs 0 m).map (Value.int .i64))) := by rw [hw3]; exact own_drewN HMade.out q3
    clear hw3 HMade HBm hmk hc0 HH
    obtain ⟨g, hg⟩ : ∃ g, w2.heap.size = g := ⟨_, rfl⟩
    have hg2 : w2.heap.size ≤ g := Nat.le_of_eq hg
    have HMg : Hid (w3.ownsRow w2.heap.size 3 1 (.slice (some ⟨g, 0, none⟩) m m) m ((cnts rs 0 m).map (Value.int .i64))) := by rw [← hg]; exact HMade3.out
    clear HMade3
    have HMade3 := HMg
    clear HMg
    rw [hg]
    clear hg
    have hg := hg2
    clear hg2
    have HG : Hid (w2.heap.size ≤ g) := hg
    clear hg
    go_wp2_with fail
    go_loopw [9, 10, 43] (fun s9 s10 s43 wr => ∃ k : Nat, k ≤ n ∧ s43 = .int .i64 k ∧ Hid (FoundR rs hv k s9 s10) ∧ Hid (wr.ownsRow w2.heap.size 3 1 (.slice (some ⟨g, 0, none⟩) m m) m ((cnts rs k m).map (Value.int .i64))) ∧ Hid (Below w2.heap.size w2 wr)) (fun _ _ i _ => n - (intOf i).toNat)
    case atStart => exact ⟨0, Nat.zero_le _, rfl, Or.inl ⟨rfl, by rw [HQ0.out], fun t ht => absurd ht (Nat.not_lt_zero _)⟩, HMade3.out, HB3.out⟩
    case round =>
      obtain ⟨wo, rfl⟩ : ∃ wo : World, wo = wr := ⟨_, rfl⟩
      clear HMade3 HB3
      obtain ⟨k, hk, rfl, HF, HO, HB⟩ := hrel
      by_cases hlt : k < n
      · have ak := HAt.out wo HB.out k hlt
        have ck := HCt.out wo HB.out k hlt
        obtain ⟨q, hq, hqm⟩ := HCH.out k hlt
        have hcell := own_at_of (enc := Value.int .i64) (d := (0 : Int)) (xs := cnts rs k m) HO.out (q : Int) (by omega) (by omega)
        have hg1 : YtdpbkpfdokgolaaDoorW.PrintWords.rdOf (0 : Int) (cnts rs k m) (q : Int) = (cnt rs k q : Int) := cnts_get rs k m q hqm
        rw [hg1, Int.toNat_natCast] at hcell
        obtain ⟨mc, mf⟩ := hcell
        have hcl := cnt_le rs k q
        have hst := own_store_of (enc := Value.int .i64) (xs := cnts rs k m) HO.out (q : Int) ((cnt rs k q : Int) + 1)
        rw [Int.toNat_natCast, ← cnts_succ rs k m q (by rw [HN.out]; exact hlt) hq] at hst
        have hbs := HB.out.grown hst.2 HB.out.size (fun j hj => by cases hj; exact HG.out)
        have HQ := Lib.hid hq
        have HNext0 := Lib.hid hst.1
        have HBNext0 := Lib.hid hbs
        rw [hq] at ck
        clear hq hst hbs hg1 HO
        generalize cnt rs k q = cq at mc hcl HNext0 HBNext0
        obtain ⟨xa, hxe⟩ : ∃ xa, (rs.getD k default).at_ = xa := ⟨_, rfl⟩
        have HX := Lib.hid hxe
        rw [hxe] at ak
        have hd2 : decide ((q : Int) < 0) = false := decide_eq_false (by omega)
        have hd3 : decide (m ≤ q) = false := decide_eq_false (by omega)
        by_cases hk0 : k = 0
        · have hd0 : decide (0 < k) = false := decide_eq_false (by omega)
          clear hxe hk0
          have HNext := HNext0
          have HBNext := HBNext0
          clear HNext0 HBNext0
          go_wp2_with fail
          go_quiet (fail)
          have HBq : Hid (Below w2.heap.size w2 ((wo.drewN nq).setCell ⟨g, q, none⟩ (.int .i64 ((cq : Int) + 1)))) := HBNext.out.trans (drawsBelow _ _ nq)
          have HNq : Hid (((wo.drewN nq).setCell ⟨g, q, none⟩ (.int .i64 ((cq : Int) + 1))).ownsRow w2.heap.size 3 1 (.slice (some ⟨g, 0, none⟩) m m) m (encs (Value.int .i64) (cnts rs (k + 1) m))) := own_drewN HNext.out nq
          have ak2 := HAt.out _ HBq.out k hlt
          have ck2 := HCt.out _ HBq.out k hlt
          rw [HX.out] at ak2
          rw [HQ.out] at ck2
          clear HBNext HNext
          have HNext := HNq
          have HBNext := HBq
          clear HNq HBq
          go_upto_region 16 with (fail)
          generalize (wo.drewN nq).setCell ⟨g, q, none⟩ (.int .i64 ((cq : Int) + 1)) = wn at HNext HBNext ak2 ck2 ⊢
          clear ak ck mc mf
          rcases HF.out with ⟨rfl, hwq, hF⟩ | ⟨rfl, t, ht, hwq, hF⟩
          · rw [HQ0.out] at hwq
            subst hwq
            clear HF
            by_cases hxa : hv ≤ xa
            · have hge : decide (hv ≤ xa) = true := decide_eq_true hxa
              have hFN : Hid (FoundR rs hv (k + 1) (.int .i64 q) (.bool true)) := Or.inr ⟨rfl, k, by omega, by rw [HQ.out], by rw [HX.out]; exact hxa, hF⟩
              clear hF
              go_wp2
              go_roundw
              case rel => exact ⟨k + 1, by omega, by go_num, hFN.out, HNext.out, HBNext.out⟩
              case measure => simp [intOf]; omega
            · have hge : decide (hv ≤ xa) = false := decide_eq_false hxa
              have hFN : Hid (FoundR rs hv (k + 1) (.int .i64 q0) (.bool false)) := Or.inl ⟨rfl, by rw [HQ0.out], fun t ht => by
                rcases Nat.lt_or_ge t k with h1 | h1
                · exact hF t h1
                · obtain rfl : t = k := by omega
                  rw [HX.out]; omega⟩
              clear hF
              go_wp2
              go_roundw
              case rel => exact ⟨k + 1, by omega, by go_num, hFN.out, HNext.out, HBNext.out⟩
              case measure => simp [intOf]; omega
          · clear HF
            have hFN : Hid (FoundR rs hv (k + 1) (.int .i64 (rs.getD t default).c) (.bool true)) := Or.inr ⟨rfl, t, by omega, rfl, hF⟩
            clear hF
            generalize (rs.getD t default).c = ct at hFN hwq
            subst hwq
            go_wp2
            go_roundw
            case rel => exact ⟨k + 1, by omega, by go_num, hFN.out, HNext.out, HBNext.out⟩
            case measure => simp [intOf]; omega
        · have hp := HAt.out wo HB.out (k - 1) (by omega)
          have hle := HSrt.out (k - 1) k (by omega) hlt
          rw [hxe] at hle
          generalize (rs.getD (k - 1) default).at_ = ya at hp hle
          have hd0 : decide (0 < k) = true := decide_eq_true (by omega)
          have hd1 : decide (xa < ya) = false := decide_eq_false (by omega)
          have hw1 : IntKind.i64.wrap ((k : Int) - 1) = (k : Int) - 1 := IntWalk.i64_in _ (by omega)
          have hw2 : (0 : Int) ≤ (k : Int) - 1 := by omega
          have hw3 : (k : Int) - 1 < (n : Int) := by omega
          have hw4 : ((k : Int) - 1).toNat = k - 1 := by omega
          clear hxe hle
          have HNext := HNext0
          have HBNext := HBNext0
          clear HNext0 HBNext0
          go_wp2_with fail
          go_quiet (fail)
          have HBq : Hid (Below w2.heap.size w2 ((wo.drewN nq).setCell ⟨g, q, none⟩ (.int .i64 ((cq : Int) + 1)))) := HBNext.out.trans (drawsBelow _ _ nq)
          have HNq : Hid (((wo.drewN nq).setCell ⟨g, q, none⟩ (.int .i64 ((cq : Int) + 1))).ownsRow w2.heap.size 3 1 (.slice (some ⟨g, 0, none⟩) m m) m (encs (Value.int .i64) (cnts rs (k + 1) m))) := own_drewN HNext.out nq
          have ak2 := HAt.out _ HBq.out k hlt
          have ck2 := HCt.out _ HBq.out k hlt
          rw [HX.out] at ak2
          rw [HQ.out] at ck2
          clear HBNext HNext
          have HNext := HNq
          have HBNext := HBq
          clear HNq HBq
          go_upto_region 16 with (fail)
          generalize (wo.drewN nq).setCell ⟨g, q, none⟩ (.int .i64 ((cq : Int) + 1)) = wn at HNext HBNext ak2 ck2 ⊢
          clear ak ck mc mf
          rcases HF.out with ⟨rfl, hwq, hF⟩ | ⟨rfl, t, ht, hwq, hF⟩
          · rw [HQ0.out] at hwq
            subst hwq
            clear HF
            by_cases hxa : hv ≤ xa
            · have hge : decide (hv ≤ xa) = true := decide_eq_true hxa
              have hFN : Hid (FoundR rs hv (k + 1) (.int .i64 q) (.bool true)) := Or.inr ⟨rfl, k, by omega, by rw [HQ.out], by rw [HX.out]; exact hxa, hF⟩
              clear hF
              go_wp2
              go_roundw
              case rel => exact ⟨k + 1, by omega, by go_num, hFN.out, HNext.out, HBNext.out⟩
              case measure => simp [intOf]; omega
            · have hge : decide (hv ≤ xa) = false := decide_eq_false hxa
              have hFN : Hid (FoundR rs hv (k + 1) (.int .i64 q0) (.bool false)) := Or.inl ⟨rfl, by rw [HQ0.out], fun t ht => by
                rcases Nat.lt_or_ge t k with h1 | h1
                · exact hF t h1
                · obtain rfl : t = k := by omega
                  rw [HX.out]; omega⟩
              clear hF
              go_wp2
              go_roundw
              case rel => exact ⟨k + 1, by omega, by go_num, hFN.out, HNext.out, HBNext.out⟩
              case measure => simp [intOf]; omega
          · clear HF
            have hFN : Hid (FoundR rs hv (k + 1) (.int .i64 (rs.getD t default).c) (.bool true)) := Or.inr ⟨rfl, t, by omega, rfl, hF⟩
            clear hF
            generalize (rs.getD t default).c = ct at hFN hwq
            subst hwq
            go_wp2
            go_roundw
            case rel => exact ⟨k + 1, by omega, by go_num, hFN.out, HNext.out, HBNext.out⟩
            case measure => simp [intOf]; omega
      · obtain rfl : k = n := by omega
        go_wp2_with fail
        go_loopw [102] (fun s102 wr => ∃ d : Nat, d ≤ m ∧ s102 = .int .i64 d ∧ Hid (wr.ownsRow w2.heap.size 3 1 (.slice (some ⟨g, 0, none⟩) m m) m ((cnts rs k m).map (Value.int .i64))) ∧ Hid (Below w2.heap.size w2 wr)) (fun i _ => m - (intOf i).toNat)
        case atStart => exact ⟨0, Nat.zero_le _, rfl, HO.out, HB.out⟩
        case round =>
          obtain ⟨wi, rfl⟩ : ∃ wi : World, wi = wr := ⟨_, rfl⟩
          clear HO HB
          obtain ⟨d, hd, rfl, HO, HB⟩ := hrel
          have HBW : Hid (Below w.heap.size w wi) := HB2.out.trans (HB.out.mono HB2.out.size)
          by_cases hdm : d < m
          · obtain ⟨ad, rfl, hcell⟩ := read_i (Kd.C_below HC.out HBW.out) d hdm
            have hcell2 := own_at_of (enc := Value.int .i64) (d := (0 : Int)) (xs := cnts rs k m) HO.out (d : Int) (by omega) (by omega)
            have hg1 : YtdpbkpfdokgolaaDoorW.PrintWords.rdOf (0 : Int) (cnts rs k m) (d : Int) = (cnt rs k d : Int) := cnts_get rs k m d hdm
            rw [hg1, Int.toNat_natCast, HEnd.out d hdm] at hcell2
            have mc := hcell2.1
            clear hcell2 hg1
            generalize ws.getD d 0 = y at hcell mc
            have hyy : (y != y) = false := by simp
            go_wp2_with fail
            go_quiet (fail)
            go_wp2
            go_roundw
            case rel => exact ⟨d + 1, by omega, by go_num, own_drewN HO.out nq, HB.out.trans (drawsBelow _ _ nq)⟩
            case measure => simp [intOf]; omega
          · go_wp2_with fail
            refine (HOf2.out wi HBW.out).mono ?_
            rintro e w6 ⟨i, rfl, hcut, hb6⟩
            have hwant := found_end (by rw [HN.out]; exact HF.out) hcut
            subst hwant
            have HB6 := Lib.hid hb6
            clear hcut hb6 HF
            go_wp2
            go_ret
            exact ⟨by first | rfl | simp, HBW.out.trans (HB6.out.mono HBW.out.size)⟩
  · rw [show pubOf ws = [] by rw [pubOf, if_neg hm], show errW' ws = 1 by rw [errW', if_neg hm]] at HPts
    simp only [List.length_nil, List.map_nil] at HPts
    go_enter Tryd.func4, Tryd.ntmps4
    go_wp2_with (go_at_call 16; refine HW.out.mono ?_; rintro e w1 ⟨rfl, hb1⟩; have HB1 := Lib.hid hb1; clear hb1)
    refine (HPts.out w1 HB1.out).mono ?_
    rintro e w2 ⟨Aa, ca, Ab, cb, rfl, _, _, hb2⟩
    have HB2 := Lib.hid hb2
    clear hb2
    go_wp2
    go_ret
    exact ⟨rfl, HB1.out.trans (HB2.out.mono HB1.out.size)⟩
end Go.Proofs.YtdpbkpfdokgolaaDoor
