/- The walk of RingPoints. -/
import Derived.Test.YtdpbkpfdokgolaaDoorP3
import Derived.Test.YtdpbkpfdokgolaaDoorS4
import Derived.Test.YtdpbkpfdokgolaaDoorR4b
set_option linter.unusedVariables false
set_option linter.unusedSimpArgs false
namespace Go.Proofs.YtdpbkpfdokgolaaDoor
open Go.RowKit Go.Proofs.YtdpbkpfdokgolaaDoorW.PrintWords Go.Sort

set_option maxRecDepth 20000 in
set_option maxHeartbeats 8000000 in
theorem ringPoints_any (A : Option Addr) (c : Nat) (ws : List Int) (s : ByteArray) (w : World) (hC : (Kd.int .i64).C w A ws.length ws) (hc : ws.length ≤ c) (hl : (ws.length + 1) * 8 ≤ 140737488355328) (hsz : s.size ≤ 9223372036854775807) (htab : Lib.TabIs Tryd.prog w "internal/strconv.uint64pow10" .u64 Lib.pow10Tab) :
    Calls Tryd.prog 3 #[.slice A ws.length c, .string s] w fun e w' => e = .returned (.bool true) ∧ Below w.heap.size w w' := by
  have hbig : ws.length ≤ 9223372036854775807 := by omega
  have HT := Lib.hid (Lib.tabBelow_of_tabIs htab)
  have HLend := Lib.hid (lend_any A c ws w hC hl)
  have HC := Lib.hid (fun w1 (hb : Below w.heap.size w w1) => Kd.C_below hC hb)
  have HPts := Lib.hid (fun w1 (hb : Below w.heap.size w w1) A' c' (hC' : (Kd.int .i64).C w1 A' ws.length ws) => points_any' A' c' ws w1 hC' hbig ((Lib.tabBelow_of_tabIs htab).on hb).here)
  have HRPts := Lib.hid (fun w1 (hb : Below w.heap.size w w1) => rpoints_any A c ws w1 (Kd.C_below hC hb) hc hbig)
  have HChk := Lib.hid (fun w1 A' c' (hC' : (Kd.int .i64).C w1 A' ws.length ws) => check_any A' c' ws w1 hC' hbig)
  have HRChk := Lib.hid (fun w1 (hb : Below w.heap.size w w1) => rcheck_any A c ws w1 (Kd.C_below hC hb) hc hbig)
  have HKept := Lib.hid (fun w1 (hb : Below w.heap.size w w1) B g co hO => kept_any B g co A c ws w1 hO (Kd.C_below hC hb) hl)
  have HW := Lib.hid (fun w1 (hb : Below w.heap.size w w1) => works06_any w1 ((Lib.tabBelow_of_tabIs htab).on hb).here)
  have HH := Lib.hid (fun w1 => hash_any s w1 hsz)
  have HRH := Lib.hid (fun w1 => rhash_any s w1 hsz)
  have HLn := Lib.hid hl
  clear hC htab hl
  have hpl := pub_len ws
  generalize pubOf ws = rs at *
  generalize errW' ws = er at *
  generalize hashOf s = hv at *
  obtain ⟨n, hn⟩ : ∃ n, rs.length = n := ⟨_, rfl⟩
  obtain ⟨m, hmm⟩ : ∃ m, ws.length = m := ⟨_, rfl⟩
  have HN := Lib.hid hn
  have HMM := Lib.hid hmm
  rw [hn] at hpl HPts HRPts
  rw [hmm] at HLend HC HPts HRPts HChk HRChk HKept hc hbig ⊢
  clear hn hmm
  go_enter Tryd.func3, Tryd.ntmps3
  go_wp2_with fail
  refine HLend.out.mono ?_
  rintro e w1 ⟨g, co, rfl, hO, hb1⟩
  have HO := Lib.hid hO
  have HB1 := Lib.hid hb1
  have HCl : Hid (∀ w2, Below w1.heap.size w1 w2 → (Kd.int .i64).C w2 (some ⟨g, 0, none⟩) m ws) := fun w2 hb => by
    have h := own_take HO.out (m := m) (by omega)
    rw [Nat.mul_one, List.map_append, List.take_append_of_le_length (by rw [List.length_map, HMM.out]; exact Nat.le_refl _), List.take_of_length_le (by rw [List.length_map, HMM.out]; exact Nat.le_refl _)] at h
    rw [show m = ws.length from HMM.out.symm] at h ⊢
    obtain ⟨A', c', e, _, hc⟩ := own_ints h
    cases e
    exact Kd.C_below hc hb
  clear hO hb1 HLend
  go_wp2_with fail
  refine (HPts.out w1 HB1.out (some ⟨g, 0, none⟩) co (HCl.out w1 (Below.refl _ _))).mono ?_
  rintro e w2 ⟨Aa, ca, Ab, cb, rfl, hAa, hAb, hb2⟩
  have HAa := Lib.hid hAa
  have HAb := Lib.hid hAb
  have HB2 := Lib.hid hb2
  have HBW2 : Hid (Below w.heap.size w w2) := HB1.out.trans (HB2.out.mono HB1.out.size)
  clear hAa hAb hb2 HPts
  go_wp2_with fail
  refine (HRPts.out w2 HBW2.out).mono ?_
  rintro e w3 ⟨Ia, ia, Ib, ib, rfl, hIa, hIb, hb3⟩
  have HIa := Lib.hid hIa
  have HIb := Lib.hid hIb
  have HB3 := Lib.hid hb3
  have HBW3 : Hid (Below w.heap.size w w3) := HBW2.out.trans (HB3.out.mono HBW2.out.size)
  have HB13 : Hid (Below w1.heap.size w1 w3) := HB2.out.trans (HB3.out.mono HB2.out.size)
  clear hIa hIb hb3 HRPts
  have hsame := sameI_any Ab cb (rs.map (·.c)) Ib ib (rs.map (·.c)) w3 (by rw [List.length_map, HN.out]; exact Kd.C_below HAb.out HB3.out) (by rw [List.length_map, HN.out]; exact HIb.out) (by rw [List.length_map, HN.out]; omega)
  rw [decide_eq_true rfl, List.length_map, HN.out] at hsame
  have HSame := Lib.hid hsame
  clear hsame
  go_wp2_with (go_at_call 10; refine HSame.out.mono ?_; rintro e w4 ⟨rfl, q4, rfl⟩)
  clear HSame
  go_loopw [12] (fun i wr => ∃ k : Nat, k ≤ n ∧ i = .int .i64 k ∧ ∃ q, wr = w3.drewN q) (fun i _ => n - (intOf i).toNat)
  case atStart => exact ⟨0, Nat.zero_le _, rfl, q4, rfl⟩
  case round =>
    obtain ⟨k, hk, rfl, q, rfl⟩ := hrel
    by_cases hlt : k < n
    · obtain ⟨ad, rfl, h1⟩ := ats_at (Kd.C_below HAa.out HB3.out) k hlt
      obtain ⟨ad2, rfl, h2⟩ := ats_at HIa.out k hlt
      generalize (rs.getD k default).at_ = x at h1 h2
      have hb : (x != x) = false := by simp
      go_wp2_with fail
      go_quiet (fail)
      go_wp2
      go_roundw
      case rel => exact ⟨k + 1, by omega, by go_num, by first | exact ⟨_, rfl⟩ | exact ⟨_, drewN_drewN _ _ _⟩⟩
      case measure => simp [intOf]; omega
    · have HB5 : Hid (Below w3.heap.size w3 (w3.drewN q)) := drawsBelow _ _ q
      generalize w3.drewN q = w5 at HB5 ⊢
      clear HAa HAb HIa HIb
      go_wp2_with fail
      refine (HH.out w5).mono ?_
      rintro e w6 ⟨rfl, q6, hw6⟩
      have HB6 : Hid (Below w3.heap.size w3 w6) := by rw [hw6]; exact HB5.out.trans (drawsBelow _ _ _)
      clear hw6
      go_wp2_with fail
      refine (HRH.out w6).mono ?_
      rintro e w7 ⟨rfl, q7, hw7⟩
      have HB7 : Hid (Below w3.heap.size w3 w7) := by rw [hw7]; exact HB6.out.trans (drawsBelow _ _ _)
      clear hw7
      have hvv : (hv == hv) = true := by simp
      go_wp2_with fail
      refine (HChk.out w7 (some ⟨g, 0, none⟩) co (HCl.out w7 (HB13.out.trans (HB7.out.mono HB13.out.size)))).mono ?_
      rintro e w8 ⟨rfl, hw8⟩
      have HB8 : Hid (Below w3.heap.size w3 w8) := by rw [hw8]; exact HB7.out
      clear hw8
      go_wp2_with fail
      refine (HRChk.out w8 (HBW3.out.trans (HB8.out.mono HBW3.out.size))).mono ?_
      rintro e w9 ⟨rfl, q9, hw9⟩
      have HB9 : Hid (Below w3.heap.size w3 w9) := by rw [hw9]; exact HB8.out.trans (drawsBelow _ _ _)
      clear hw9
      have hee : (er == er) = true := by simp
      go_wp2_with fail
      refine (HKept.out w9 (HBW3.out.trans (HB9.out.mono HBW3.out.size)) w.heap.size g co (pw_own_below HO.out (HB13.out.trans (HB9.out.mono HB13.out.size)))).mono ?_
      rintro e w10 ⟨rfl, q10, hw10⟩
      have HB10 : Hid (Below w3.heap.size w3 w10) := by rw [hw10]; exact HB9.out.trans (drawsBelow _ _ _)
      clear hw10
      have HBW10 : Hid (Below w.heap.size w w10) := HBW3.out.trans (HB10.out.mono HBW3.out.size)
      go_wp2_with fail
      refine (HW.out w10 HBW10.out).mono ?_
      rintro e w11 ⟨rfl, hb11⟩
      have HB11 := Lib.hid hb11
      clear hb11
      go_wp2
      go_ret
      exact ⟨rfl, HBW10.out.trans (HB11.out.mono HBW10.out.size)⟩
end Go.Proofs.YtdpbkpfdokgolaaDoor
