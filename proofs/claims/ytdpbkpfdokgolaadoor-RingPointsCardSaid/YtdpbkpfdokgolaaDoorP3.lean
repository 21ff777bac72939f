/- The reference's May, Points, Check, by their contracts. -/
import Derived.Test.YtdpbkpfdokgolaaDoorP2
import Derived.Test.YtdpbkpfdokgolaaDoorS3
set_option linter.unusedVariables false
set_option linter.unusedSimpArgs false
namespace Go.Proofs.YtdpbkpfdokgolaaDoor
open Go.RowKit Go.Proofs.YtdpbkpfdokgolaaDoorW.PrintWords Go.Sort
open Go.Proofs.YtdpbkpfdokgolaaDoor.PRingPoints

theorem ev_may_l (ws : List Int) (h1 : 1 ≤ ws.length) (h8 : ws.length ≤ 8) : ∀ d j (b : Bool), j + d = ws.length → (∀ x ∈ ws.take j, 0 ≤ x ∧ x ≤ 128) → (b = true ↔ ∃ x ∈ ws.take j, x ≠ 0) → Ev (fun n => skylarkref06_May.l0 n ws b (j : Int)) (decide (MayW ws))
  | 0, j, b, h, ha, hb => by
    obtain rfl : j = ws.length := by omega
    rw [List.take_length] at ha hb
    have hd : decide (MayW ws) = b := by
      cases b with
      | false => exact decide_eq_false (fun hm => by have := hb.2 hm.2.2.2; cases this)
      | true => exact decide_eq_true ⟨h1, h8, ha, hb.1 rfl⟩
    rw [hd]
    refine Ev.step (f := fun _ => some b) (fun n => ?_) (Ev.now _)
    rw [skylarkref06_May.l0, if_neg (by omega)]
  | d + 1, j, b, h, ha, hb => by
    have hj : j < ws.length := by omega
    obtain ⟨e, he⟩ : ∃ e, ws.getD j 0 = e := ⟨_, rfl⟩
    have hrd : YtdpbkpfdokgolaaDoorW.PrintWords.rd ws (j : Int) = e := he
    have hmem : e ∈ ws := by rw [← he]; simp [List.getD, hj]
    have htk : ws.take (j + 1) = ws.take j ++ [e] := by
      rw [List.take_succ_eq_append_getElem hj, ← he]
      simp [List.getD, hj]
    by_cases hn : e < 0
    · have hd : decide (MayW ws) = false := decide_eq_false (fun hm => by have := hm.2.2.1 e hmem; omega)
      rw [hd]
      refine Ev.step (f := fun _ => some false) (fun n => ?_) (Ev.now _)
      rw [skylarkref06_May.l0, if_pos (by omega), if_pos (by omega), hrd, if_pos hn]
    by_cases hg : e > 128
    · have hd : decide (MayW ws) = false := decide_eq_false (fun hm => by have := hm.2.2.1 e hmem; omega)
      rw [hd]
      refine Ev.step (f := fun _ => some false) (fun n => ?_) (Ev.now _)
      rw [skylarkref06_May.l0, if_pos (by omega), if_pos (by omega), hrd, if_neg hn, if_pos hg]
    have ha' : ∀ x ∈ ws.take (j + 1), 0 ≤ x ∧ x ≤ 128 := fun x hx => by
      rw [htk] at hx
      rcases List.mem_append.1 hx with hx | hx
      · exact ha x hx
      · rw [List.mem_singleton.1 hx]; omega
    cases b with
    | true =>
      refine Ev.step (f := fun n => skylarkref06_May.l0 n ws true ((j + 1 : Nat) : Int)) (fun n => ?_) (ev_may_l ws h1 h8 d (j + 1) true (by omega) ha' ?_)
      · rw [skylarkref06_May.l0, if_pos (by omega), if_pos (by omega), hrd, if_neg hn, if_neg hg, if_pos rfl, w64_succ j (by omega)]
      · refine ⟨fun _ => ?_, fun _ => rfl⟩
        obtain ⟨x, hx, hne⟩ := hb.1 rfl
        exact ⟨x, by rw [htk]; simp [hx], hne⟩
    | false =>
      refine Ev.step (f := fun n => skylarkref06_May.l0 n ws (decide (e > 0)) ((j + 1 : Nat) : Int)) (fun n => ?_) (ev_may_l ws h1 h8 d (j + 1) (decide (e > 0)) (by omega) ha' ?_)
      · rw [skylarkref06_May.l0, if_pos (by omega), if_pos (by omega), hrd, if_neg hn, if_neg hg, if_neg (by simp), w64_succ j (by omega)]
      · rw [decide_eq_true_eq]
        refine ⟨fun he0 => ⟨e, by rw [htk]; simp, by omega⟩, fun ⟨x, hx, hne⟩ => ?_⟩
        rw [htk] at hx
        rcases List.mem_append.1 hx with hx | hx
        · have := hb.2 ⟨x, hx, hne⟩; cases this
        · rw [List.mem_singleton.1 hx] at hne; omega

theorem ev_may (ws : List Int) (hbig : ws.length ≤ 9223372036854775807) : Ev (fun n => skylarkref06_May.f n ws) (decide (MayW ws)) := by
  by_cases h1 : (ws.length : Int) < 1
  · have hd : decide (MayW ws) = false := decide_eq_false (fun hm => by have := hm.1; omega)
    rw [hd]
    refine Ev.congr (f := fun n => skylarkref06_May.j0 n ws true) (fun n => by unfold skylarkref06_May.f; rw [if_pos h1]) ?_
    refine Ev.step (f := fun _ => some false) (fun n => ?_) (Ev.now _)
    rw [skylarkref06_May.j0, if_pos rfl]
  by_cases h8 : (ws.length : Int) > 8
  · have hd : decide (MayW ws) = false := decide_eq_false (fun hm => by have := hm.2.1; omega)
    rw [hd]
    refine Ev.congr (f := fun n => skylarkref06_May.j0 n ws true) (fun n => by unfold skylarkref06_May.f; rw [if_neg h1, decide_eq_true h8]) ?_
    refine Ev.step (f := fun _ => some false) (fun n => ?_) (Ev.now _)
    rw [skylarkref06_May.j0, if_pos rfl]
  · refine Ev.congr (f := fun n => skylarkref06_May.j0 n ws false) (fun n => by unfold skylarkref06_May.f; rw [if_neg h1, decide_eq_false h8]) ?_
    refine Ev.step (f := fun n => skylarkref06_May.l0 n ws false ((0 : Nat) : Int)) (fun n => ?_) (ev_may_l ws (by omega) (by omega) ws.length 0 false (by omega) (by simp) (by simp))
    rw [skylarkref06_May.j0, if_neg (by simp)]
    rfl

theorem ev_pts_l (rs : List Pt) (hn : rs.length ≤ 1024) : ∀ d j, j + d = rs.length → Ev (fun n => skylarkref06_Points.l0 n ((rs.take j).map (·.at_)) ((rs.take j).map (·.c)) (rs.map toS) (j : Int)) (rs.map (·.at_), rs.map (·.c), 0)
  | 0, j, h => by
    obtain rfl : j = rs.length := by omega
    rw [List.take_length]
    refine Ev.step (f := fun _ => some (rs.map (·.at_), rs.map (·.c), 0)) (fun n => ?_) (Ev.now _)
    rw [skylarkref06_Points.l0, if_neg (by rw [List.length_map]; omega)]
  | d + 1, j, h => by
    have hj : j < rs.length := by omega
    have hl : (rs.take j).length ≤ 1024 := by rw [List.length_take]; omega
    have hr1 : (rd_T88 (rs.map toS) (j : Int)).f0 = (rs.getD j default).at_ := rd_toS rs j
    have hr2 : (rd_T88 (rs.map toS) (j : Int)).f1 = (rs.getD j default).c := by
      simp only [rd_T88, Int.toNat_natCast, List.getD, List.getElem?_map]
      cases rs[j]? <;> rfl
    have e1 : (rs.take (j + 1)).map (·.at_) = (rs.take j).map (·.at_) ++ [(rs.getD j default).at_] := by
      rw [List.take_succ_eq_append_getElem hj, List.map_append]
      simp [List.getD, hj]
    have e2 : (rs.take (j + 1)).map (·.c) = (rs.take j).map (·.c) ++ [(rs.getD j default).c] := by
      rw [List.take_succ_eq_append_getElem hj, List.map_append]
      simp [List.getD, hj]
    refine Ev.step (f := fun n => skylarkref06_Points.l0 n ((rs.take (j + 1)).map (·.at_)) ((rs.take (j + 1)).map (·.c)) (rs.map toS) ((j + 1 : Nat) : Int)) (fun n => ?_) (ev_pts_l rs hn d (j + 1) (by omega))
    rw [skylarkref06_Points.l0, if_pos (by rw [List.length_map]; omega), if_pos (by omega), if_pos (by rw [List.length_map]; omega), if_pos (by rw [List.length_map]; omega), hr1, hr2, w64_succ j (by omega), e1, e2]

theorem ev_points (ws : List Int) (hbig : ws.length ≤ 9223372036854775807) : Ev (fun n => skylarkref06_Points.f n ws) ((pubOf ws).map (·.at_), (pubOf ws).map (·.c), errW' ws) := by
  have hpl := pub_len ws
  by_cases hm : MayW ws
  · have h1 := ev_may ws hbig
    rw [decide_eq_true hm] at h1
    have hp : pubOf ws = ringOf ws := by rw [pubOf, if_pos hm]
    rw [hp] at hpl
    rw [hp, errW', if_pos hm]
    unfold skylarkref06_Points.f
    refine Ev.bind h1 ?_
    simp only [if_pos]
    refine Ev.bind (ev_all ws hm) ?_
    rw [insL_ring]
    exact ev_pts_l (ringOf ws) hpl (ringOf ws).length 0 (by omega)
  · have h1 := ev_may ws hbig
    rw [decide_eq_false hm] at h1
    rw [pubOf, if_neg hm, errW', if_neg hm]
    unfold skylarkref06_Points.f
    refine Ev.bind h1 ?_
    simpa using Ev.now _
theorem ev_check (ws : List Int) (hbig : ws.length ≤ 9223372036854775807) : Ev (fun n => skylarkref06_Check.f n ws) (errW' ws) := by
  have h1 := ev_may ws hbig
  unfold skylarkref06_Check.f
  refine Ev.bind h1 ?_
  by_cases hm : MayW ws
  · rw [decide_eq_true hm, errW', if_pos hm]
    simpa using Ev.now _
  · rw [decide_eq_false hm, errW', if_neg hm]
    simpa using Ev.now _

theorem rpoints_any (A : Option Addr) (c : Nat) (ws : List Int) (w : World) (hC : (Kd.int .i64).C w A ws.length ws) (hc : ws.length ≤ c) (hbig : ws.length ≤ 9223372036854775807) :
    Calls Tryd.prog 9 #[.slice A ws.length c] w fun e w' => ∃ Aa ca Ab cb, e = .returned (.tuple #[.slice Aa (pubOf ws).length ca, .slice Ab (pubOf ws).length cb, .int .i64 (errW' ws)]) ∧
      (Kd.int .u64).C w' Aa (pubOf ws).length ((pubOf ws).map (·.at_)) ∧ (Kd.int .i64).C w' Ab (pubOf ws).length ((pubOf ws).map (·.c)) ∧ Below w.heap.size w w' := by
  obtain ⟨K, hK⟩ := (ev_points ws hbig).rounds
  refine (skylarkref06_Points.calls K A c ws _ _ _ w hC hc hK).mono ?_
  rintro e w' ⟨v0, v1, rfl, h0, h1, hb⟩
  obtain ⟨Aa, ca, rfl, _, hA⟩ := Kd.R_reads h0
  obtain ⟨Ab, cb, rfl, _, hB⟩ := Kd.R_reads h1
  exact ⟨Aa, ca, Ab, cb, by simp, by simpa using hA, by simpa using hB, hb⟩
theorem rcheck_any (A : Option Addr) (c : Nat) (ws : List Int) (w : World) (hC : (Kd.int .i64).C w A ws.length ws) (hc : ws.length ≤ c) (hbig : ws.length ≤ 9223372036854775807) :
    Calls Tryd.prog 14 #[.slice A ws.length c] w fun e w' => e = .returned (.int .i64 (errW' ws)) ∧ Drawn0 w w' := by
  obtain ⟨K, hK⟩ := (ev_check ws hbig).rounds
  exact skylarkref06_Check.calls K A c ws _ w hC hc hK
end Go.Proofs.YtdpbkpfdokgolaaDoor
