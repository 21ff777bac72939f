/- SweepLess: the walk. -/
import Derived.Test.YtnpiphlmdjmfeaaB2
import Derived.Test.YtnpiphlmdjmfeaaWMore
set_option linter.unusedVariables false
set_option linter.unusedSimpArgs false
namespace Go.Proofs.Ytnpiphlmdjmfeaa
open Go.RowKit Go.Proofs.YtnpiphlmdjmfeaaW.PrintWords Go.Proofs.YtnpiphlmdjmfeaaW.PrintMore
attribute [local go_sem] min_two

/-! ### What the plans say of each other -/
theorem mem_swept (h : Int → Int) (pct : Int) (sizes : List Sz) (x : Int) : ∀ i, i ≤ sizes.length → (x ∈ sweptN h pct sizes i ↔ ∃ j, j < i ∧ j + 1 < sizes.length ∧ h (sizes.getD j default).f * 100 < pct * (sizes.getD j default).b ∧ x = (sizes.getD j default).f)
  | 0, _ => by simp [sweptN]
  | i + 1, hi => by
    have ih := mem_swept h pct sizes x i (by omega)
    unfold sweptN
    rw [List.mem_append, ih]
    constructor
    · rintro (⟨j, h1, h2⟩ | hx)
      · exact ⟨j, by omega, h2⟩
      · split at hx
        · rename_i hc
          exact ⟨i, by omega, hc.1, hc.2, List.mem_singleton.1 hx⟩
        · simp at hx
    · rintro ⟨j, h1, h2, h3, h4⟩
      by_cases e : j = i
      · subst e
        right
        rw [if_pos ⟨h2, h3⟩, h4]
        simp
      · exact .inl ⟨j, by omega, h2, h3, h4⟩
theorem mem_planR {sizes : List Sz} {live : List Pl} {pct : Int} (he : planE sizes live pct = 0) (x : Int) : x ∈ planR sizes live pct ↔ ∃ j, j + 1 < sizes.length ∧ heldF (onceF live) (sizes.getD j default).f * 100 < pct * (sizes.getD j default).b ∧ x = (sizes.getD j default).f := by
  rw [planR, if_pos he, sweptF, mem_swept _ _ _ _ _ (Nat.le_refl _)]
  constructor
  · rintro ⟨j, _, h⟩; exact ⟨j, h⟩
  · rintro ⟨j, h1, h⟩; exact ⟨j, by omega, h1, h⟩
theorem planE_zero {sizes : List Sz} {live : List Pl} {pct : Int} (he : planE sizes live pct = 0) : live.length ≤ 4096 ∧ rises 0 sizes = true ∧ 1 ≤ pct ∧ pct ≤ 100 := by
  unfold planE at he
  split at he
  · omega
  · split at he
    · omega
    · split at he
      · omega
      · rename_i h1 h2 h3
        refine ⟨by omega, ?_, by omega, by omega⟩
        cases hr : rises 0 sizes
        · exact absurd hr h2
        · rfl
theorem planE_mk {sizes : List Sz} {live : List Pl} {pct : Int} (h1 : live.length ≤ 4096) (h2 : rises 0 sizes = true) (h3 : 1 ≤ pct) (h4 : pct ≤ 100) : planE sizes live pct = 0 := by
  rw [planE, if_neg (by omega), if_neg (by rw [h2]; simp), if_neg (by omega)]
theorem heldF_nil (f : Int) : heldF (onceF []) f = 0 := by
  have : onceF [] = [] := by
    have := onceF_len []
    exact List.eq_nil_of_length_eq_zero (by simpa using this)
  rw [this]; rfl
theorem getD_mem {sizes : List Sz} {j : Nat} (h : j < sizes.length) : sizes.getD j default ∈ sizes := by
  rw [List.getD_eq_getElem?_getD, List.getElem?_eq_getElem h]
  exact List.getElem_mem _
theorem rises_inj : ∀ (l : List Sz) (last : Int), rises last l = true → ∀ i j, i < l.length → j < l.length → (l.getD i default).f = (l.getD j default).f → i = j
  | [], _, _, i, j, hi, _, _ => by simp at hi
  | x :: r, last, h, i, j, hi, hj, e => by
    simp only [rises, Bool.and_eq_true, decide_eq_true_eq] at h
    obtain ⟨h1, h2, h3, h4⟩ := h
    cases i with
    | zero =>
      cases j with
      | zero => rfl
      | succ j =>
        have := (rises_bd r x.f h4 _ (getD_mem (by simpa using hj))).2.2
        simp at e
        simp at this
        omega
    | succ i =>
      cases j with
      | zero =>
        have := (rises_bd r x.f h4 _ (getD_mem (by simpa using hi))).2.2
        simp at e
        simp at this
        omega
      | succ j =>
        have := rises_inj r x.f h4 i j (by simpa using hi) (by simpa using hj) (by simpa using e)
        omega

theorem less_up {sizes : List Sz} {live : List Pl} {pct pct2 : Int} (he : planE sizes live pct = 0) (he2 : planE sizes live pct2 = 0) (hle : pct ≤ pct2) (x : Int) (hx : x ∈ planR sizes live pct) : x ∈ planR sizes live pct2 := by
  obtain ⟨j, h1, h2, h3⟩ := (mem_planR he x).1 hx
  refine (mem_planR he2 x).2 ⟨j, h1, ?_, h3⟩
  have hb := (rises_bd sizes 0 (planE_zero he).2.1 _ (getD_mem (show j < sizes.length by omega))).1
  have := Int.mul_le_mul_of_nonneg_right hle hb
  omega
theorem less_none {sizes : List Sz} {live : List Pl} {pct : Int} (he : planE sizes live pct = 0) (he2 : planE sizes [] pct = 0) (x : Int) (hx : x ∈ planR sizes live pct) : x ∈ planR sizes [] pct := by
  obtain ⟨j, h1, h2, h3⟩ := (mem_planR he x).1 hx
  refine (mem_planR he2 x).2 ⟨j, h1, ?_, h3⟩
  have := (heldF_bd (onceF live) (sizes.getD j default).f).1
  rw [heldF_nil]
  omega
theorem none_all {sizes : List Sz} {pct : Int} (he : planE sizes [] pct = 0) {i : Nat} (hi : i < sizes.length) : (sizes.getD i default).f ∈ planR sizes [] pct ↔ i + 1 < sizes.length ∧ 0 < (sizes.getD i default).b := by
  have hp := planE_zero he
  rw [mem_planR he]
  constructor
  · rintro ⟨j, h1, h2, h3⟩
    have : i = j := rises_inj sizes 0 hp.2.1 i j hi (by omega) h3
    subst this
    rw [heldF_nil] at h2
    refine ⟨h1, ?_⟩
    rcases Int.lt_or_le 0 (sizes.getD i default).b with h | h
    · exact h
    · have := Int.mul_nonpos_of_nonneg_of_nonpos (show (0 : Int) ≤ pct by omega) h
      omega
  · rintro ⟨h1, h2⟩
    refine ⟨i, h1, ?_, rfl⟩
    rw [heldF_nil]
    have := Int.mul_pos (show (0 : Int) < pct by omega) h2
    omega

def amongF (x : Int) : Int := (x.tmod 50 + 50) % 50
theorem amongF_bd (x : Int) : 0 ≤ amongF x ∧ amongF x < 50 := ⟨Int.emod_nonneg _ (by omega), Int.emod_lt_of_pos _ (by omega)⟩
set_option maxHeartbeats 400000 in
theorem among_eq (x : Int) (w : World) (hx : wfI x) : Calls Try.prog 7 #[.int .i64 x, .int .i64 50] w fun e w' => e = .returned (.int .i64 (amongF x)) ∧ w' = w := by
  have hb := (wfI_iff x).1 hx
  have h1 : x.tmod 50 < 50 := Int.tmod_lt_of_pos x (by omega)
  have h2 : -50 < x.tmod 50 := by have := Int.lt_tmod_of_pos x (show (0 : Int) < 50 by omega); omega
  have h3 : (0 : Int) ≤ x.tmod 50 + 50 := by omega
  clear hb hx
  go_enter Try.func7, Try.ntmps7
  go_wp2
  go_ret
  exact ⟨rfl, rfl⟩

set_option maxRecDepth 20000 in
set_option maxHeartbeats 4000000 in
theorem sweepLess_any (AS : Option Addr) (cS m : Nat) (sizes : List Sz) (A : Option Addr) (c n : Nat) (live : List Pl) (pct more : Int) (w : World) (hm : sizes.length = m) (hs : kSz.C w AS m sizes) (hn : live.length = n) (hr : kPl.C w A n live)
    (hws : ∀ s ∈ sizes, wfSz s) (hwl : ∀ p ∈ live, wfPl p) (hwm : wfI more) :
    Calls Try.prog 3 #[.agg #[.slice AS m cS, .slice A n c, .int .i64 pct], .int .i64 more] w fun e w' => e = .returned (.bool true) ∧ Below w.heap.size w w' := by
  have HM := Lib.hid hm
  have HS := Lib.hid hs
  have HN := Lib.hid hn
  have HR := Lib.hid hr
  have HWS := Lib.hid hws
  have HWL := Lib.hid hwl
  clear hm hs hn hr hws hwl
  go_enter Try.func3, Try.ntmps3
  go_wp2_with fail
  refine (works_any _).mono ?_
  rintro e w1 ⟨rfl, hb1⟩
  have hbox0 : w1.cell? ⟨w.heap.size, 0, none⟩ = some (.slice AS m cS) := (hb1.cell (by simp)).trans (by go_simp)
  have hbox1 : w1.cell? ⟨w.heap.size, 1, none⟩ = some (.slice A n c) := (hb1.cell (by simp)).trans (by go_simp)
  have hbox2 : w1.cell? ⟨w.heap.size, 2, none⟩ = some (.int .i64 pct) := (hb1.cell (by simp)).trans (by go_simp)
  have HB1 : Hid (Below w.heap.size w w1) := ((Below.refl _ w).alloc (Nat.le_refl _) _).trans (hb1.mono (by simp))
  have HSZ1 : Hid (w.heap.size < w1.heap.size) := by have := hb1.size; simp at this; rw [Hid]; omega
  clear hb1
  by_cases hl1 : 300 < n
  · go_wp2
    go_ret
    exact ⟨rfl, HB1.out⟩
  · by_cases hl2 : 300 < m
    · go_wp2
      go_ret
      exact ⟨rfl, HB1.out⟩
    · go_wp2_with fail
      refine (plan_any AS cS m sizes A c n live pct w1 HM.out (Kd.C_below HS.out HB1.out) HN.out (Kd.C_below HR.out HB1.out) HWS.out HWL.out (by omega) (by omega)).mono ?_
      rintro e w2 ⟨va, rfl, hoa, hb2⟩
      have HOA := Lib.hid hoa
      have hk1 : ∀ j v, w1.cell? ⟨w.heap.size, j, none⟩ = some v → w2.cell? ⟨w.heap.size, j, none⟩ = some v := fun j v h => (hb2.cell HSZ1.out).trans h
      have gbox0 := hk1 _ _ hbox0
      have gbox1 := hk1 _ _ hbox1
      have gbox2 := hk1 _ _ hbox2
      have HB2 : Hid (Below w.heap.size w w2) := HB1.out.trans (hb2.mono HB1.out.size)
      have HSZ2 : Hid (w.heap.size < w2.heap.size) := Nat.lt_of_lt_of_le HSZ1.out hb2.size
      clear hoa hk1 hbox0 hbox1 hbox2 hb2
      obtain ⟨Aa, ca, rfl⟩ := own_slice HOA.out
      by_cases he : planE sizes live pct = 0
      · rw [he]
        have HE := Lib.hid he
        clear he
        have hp := planE_zero HE.out
        have hp3 := hp.2.2.1
        have hp4 := hp.2.2.2
        have HP := Lib.hid hp
        clear hp
        have hab := amongF_bd more
        have hac := fun W => among_eq more W hwm
        generalize hr : amongF more = r at hab hac
        have hab0 := hab.1
        have hab1 := hab.2
        clear hr hab
        obtain ⟨p2, hp2a, HPM⟩ : ∃ p2 : Int, p2 = (if pct + r < 100 then pct + r else 100) ∧ Hid (pct ≤ p2 ∧ p2 ≤ 100 ∧ 1 ≤ p2) := ⟨_, rfl, by rw [Hid]; split <;> omega⟩
        have HP2 := Lib.hid hp2a
        clear hp2a
        have hwr : IntKind.i64.wrap (pct + r) = pct + r := IntWalk.i64_in _ (by omega)
        have hmin : Builtin.min2 (.int .i64 100) (.int .i64 (pct + r)) = pure (.int .i64 p2) := by rw [min2_int, HP2.out]
        have HB3 : Hid (Below w.heap.size w w2.drew) := HB2.out.drew
        have HOA2 : Hid (w2.drew.ownsRow w1.heap.size 3 1 (.slice Aa (planR sizes live pct).length ca) (planR sizes live pct).length (nums .i64 (planR sizes live pct))) := HOA.out
        have HSZ3 : Hid (w.heap.size < w2.drew.heap.size) := HSZ2.out
        have kbox0 : w2.drew.cell? ⟨w.heap.size, 0, none⟩ = some (.slice AS m cS) := gbox0
        have kbox1 : w2.drew.cell? ⟨w.heap.size, 1, none⟩ = some (.slice A n c) := gbox1
        have kbox2 : w2.drew.cell? ⟨w.heap.size, 2, none⟩ = some (.int .i64 pct) := gbox2
        have HE2 : Hid (planE sizes live p2 = 0) := planE_mk HP.out.1 HP.out.2.1 HPM.out.2.2 HPM.out.2.1
        have HE3 : Hid (planE sizes [] pct = 0) := planE_mk (by simp) HP.out.2.1 HP.out.2.2.1 HP.out.2.2.2
        have hplan : ∀ W, W = w2.drew → Calls Try.prog 6 #[.slice AS m cS, .slice A n c, .int .i64 p2] W (fun e w' => ∃ vb, e = .returned (.tuple #[vb, .int .i64 0]) ∧ w'.ownsRow w2.drew.heap.size 3 1 vb (planR sizes live p2).length (nums .i64 (planR sizes live p2)) ∧ Below w2.drew.heap.size w2.drew w') := by
          rintro W rfl
          have := plan_any AS cS m sizes A c n live p2 w2.drew HM.out (Kd.C_below HS.out HB3.out) HN.out (Kd.C_below HR.out HB3.out) HWS.out HWL.out (by omega) (by omega)
          refine this.mono ?_
          rintro e w3 ⟨vb, rfl, h1, h2⟩
          rw [HE2.out]
          exact ⟨vb, rfl, h1, h2⟩
        have HPL := Lib.hid hplan
        clear hplan
        go_wp2_with fail
        go_region_held3 (fun w' => w'.cell? ⟨w.heap.size, 0, none⟩ = some (.slice AS m cS) ∧ w'.cell? ⟨w.heap.size, 1, none⟩ = some (.slice A n c) ∧ w'.cell? ⟨w.heap.size, 2, none⟩ = some (.int .i64 pct)) (first | go_keep | exact ⟨mbox0, mbox1, mbox2⟩)
          (first | (go_at_call 7; refine (hac _).mono ?_; rintro e w' ⟨rfl, rfl⟩) | (go_at_call 6; refine (HPL.out _ rfl).mono ?_; rintro e w3 ⟨vb, rfl, hob, hb3⟩; have mbox0 := (hb3.cell HSZ3.out).trans kbox0; have mbox1 := (hb3.cell HSZ3.out).trans kbox1; have mbox2 := (hb3.cell HSZ3.out).trans kbox2))
        have HOB := Lib.hid hob
        have HB4 : Hid (Below w.heap.size w w3) := HB3.out.trans (hb3.mono HB3.out.size)
        have HSZ4 : Hid (w.heap.size < w3.heap.size) := Nat.lt_of_lt_of_le HSZ3.out hb3.size
        have HOA4 := Lib.hid (pw_own_below HOA2.out hb3)
        clear hob gbox0 gbox1 gbox2 kbox0 kbox1 kbox2 mbox1 hb3 HOA2 HPL hac hmin hwr HOA HB2 HSZ2 HB3 HSZ3
        obtain ⟨Ab, cb, rfl⟩ := own_slice HOB.out
        go_wp2_with fail
        refine (plan_any AS cS m sizes none 0 0 [] pct w3 HM.out (Kd.C_below HS.out HB4.out) rfl (Kd.C_nil kPl w3) HWS.out (by simp) (by omega) (by omega)).mono ?_
        rintro e w4 ⟨vc, rfl, hoc, hb4⟩
        have HOC := Lib.hid hoc
        have hk1 : ∀ j v, w3.cell? ⟨w.heap.size, j, none⟩ = some v → w4.cell? ⟨w.heap.size, j, none⟩ = some v := fun j v h => (hb4.cell HSZ4.out).trans h
        have kbox0 := hk1 _ _ mbox0
        have HB5 : Hid (Below w.heap.size w w4) := HB4.out.trans (hb4.mono HB4.out.size)
        have HSZ5 : Hid (w.heap.size < w4.heap.size) := Nat.lt_of_lt_of_le HSZ4.out hb4.size
        have HOA5 := Lib.hid (pw_own_below HOA4.out hb4)
        have HOB5 := Lib.hid (pw_own_below HOB.out hb4)
        clear hoc hk1 mbox0 mbox2 hb4 HOA4 HOB
        obtain ⟨Ac, cc, rfl⟩ := own_slice HOC.out
        rw [HE3.out]
        have HUB : Hid (∀ x ∈ planR sizes live pct, x ∈ planR sizes live p2) := fun x hx => less_up HE.out HE2.out HPM.out.1 x hx
        have HUC : Hid (∀ x ∈ planR sizes live pct, x ∈ planR sizes [] pct) := fun x hx => less_none HE.out HE3.out x hx
        have HNA : Hid (∀ i, i < m → ((sizes.getD i default).f ∈ planR sizes [] pct ↔ i + 1 < m ∧ 0 < (sizes.getD i default).b)) := fun i hi => by
          have := none_all HE3.out (i := i) (by rw [HM.out]; exact hi)
          rwa [HM.out] at this
        have HCA : Hid ((Kd.int .i64).C w4 Aa (planR sizes live pct).length (planR sizes live pct)) := ints_C HOA5.out
        have HCB : Hid ((Kd.int .i64).C w4 Ab (planR sizes live p2).length (planR sizes live p2)) := ints_C HOB5.out
        have HCC : Hid ((Kd.int .i64).C w4 Ac (planR sizes [] pct).length (planR sizes [] pct)) := ints_C HOC.out
        have hla : (planR sizes live pct).length ≤ 300 := by
          rw [planR, if_pos HE.out]
          exact Nat.le_trans (sweptN_le _ _ _ _) (by rw [HM.out]; omega)
        have hlb : (planR sizes live p2).length ≤ 300 := by
          rw [planR, if_pos HE2.out]
          exact Nat.le_trans (sweptN_le _ _ _ _) (by rw [HM.out]; omega)
        have hlc : (planR sizes [] pct).length ≤ 300 := by
          rw [planR, if_pos HE3.out]
          exact Nat.le_trans (sweptN_le _ _ _ _) (by rw [HM.out]; omega)
        clear HOA5 HOB5 HOC HE HE2 HE3 HPM HP HP2
        obtain ⟨la, hla0⟩ : ∃ la, la = planR sizes live pct := ⟨_, rfl⟩
        obtain ⟨lb, hlb0⟩ : ∃ lb, lb = planR sizes live p2 := ⟨_, rfl⟩
        obtain ⟨lc, hlc0⟩ : ∃ lc, lc = planR sizes [] pct := ⟨_, rfl⟩
        rw [← hla0, ← hlb0] at HUB
        rw [← hla0, ← hlc0] at HUC
        rw [← hlc0] at HNA HCC hlc ⊢
        rw [← hla0] at HCA hla ⊢
        rw [← hlb0] at HCB hlb ⊢
        clear hla0 hlb0 hlc0
        go_wp2_with fail
        go_loop [73] (fun s73 => ∃ k : Nat, k ≤ la.length ∧ s73 = .int .i64 k) (fun s73 => la.length - (intOf s73).toNat)
        case atStart => exact ⟨0, Nat.zero_le _, rfl⟩
        case round =>
          obtain ⟨k, hk, rfl⟩ := hrel
          by_cases hlt : k < la.length
          · obtain ⟨ad, rfl, c0⟩ := int_at HCA.out k hlt
            have hmem : la.getD k 0 ∈ la := by
              rw [List.getD_eq_getElem?_getD, List.getElem?_eq_getElem hlt]
              exact List.getElem_mem _
            have hb := HUB.out _ hmem
            have hcc := HUC.out _ hmem
            generalize la.getD k 0 = x at c0 hb hcc
            have HB := Lib.hid hb
            have HC := Lib.hid hcc
            clear hb hcc hmem
            go_wp2_with fail
            refine (in_any Ab cb lb.length lb x w4 rfl HCB.out (by omega)).mono ?_
            rintro e w' ⟨rfl, rfl⟩
            rw [decide_eq_true HB.out]
            go_wp2_with fail
            refine (in_any Ac cc lc.length lc x w' rfl HCC.out (by omega)).mono ?_
            rintro e w' ⟨rfl, rfl⟩
            rw [decide_eq_true HC.out]
            go_wp2
            go_round
            case rel => exact ⟨k + 1, by omega, by go_num⟩
            case measure => simp [intOf]; omega
          · go_wp2_with fail
            clear hlt hk
            have HK0 := Lib.hid kbox0
            clear kbox0
            go_loopw [93] (fun s93 wr => ∃ i : Nat, i ≤ m ∧ s93 = .int .i64 i ∧ Hid (Below w4.heap.size w4 wr)) (fun s93 _ => m - (intOf s93).toNat)
            case atStart => exact ⟨0, Nat.zero_le _, rfl, Below.refl _ _⟩
            case round =>
              obtain ⟨i, hi, rfl, HBW⟩ := hrel
              by_cases hlt : i < m
              · have hbw := HB5.out.trans (HBW.out.mono HB5.out.size)
                obtain ⟨ad, rfl, c0, c1⟩ := sz_at (Kd.C_below HS.out hbw) i hlt
                have hna := HNA.out i hlt
                generalize sizes.getD i default = x at c0 c1 hna
                have hwsz := HBW.out.size
                have mbox0 : (wr.alloc (.cells #[.int .i64 x.f, .int .i64 x.b] 34)).cell? ⟨w.heap.size, 0, none⟩ = some (.slice (some ad) m cS) := Lib.cell?_alloc_some _ ((HBW.out.cell HSZ5.out).trans HK0.out)
                have hcw : ∀ q, Calls Try.prog 8 #[.slice Ac lc.length cc, .int .i64 x.f] ((wr.alloc (.cells #[.int .i64 x.f, .int .i64 x.b] 34)).drewN q) fun e w' => e = .returned (.bool (decide (x.f ∈ lc))) ∧ w' = (wr.alloc (.cells #[.int .i64 x.f, .int .i64 x.b] 34)).drewN q := fun q =>
                  in_any Ac cc lc.length lc x.f _ rfl (Kd.C_drewN (Kd.C_alloc (Kd.C_below HCC.out HBW.out) _) q) (by omega)
                have hw1 : IntKind.i64.wrap ((i : Int) + 1) = (i : Int) + 1 := IntWalk.i64_in _ (by omega)
                have HBQ : Hid (Below w4.heap.size w4 (wr.alloc (.cells #[.int .i64 x.f, .int .i64 x.b] 34))) := HBW.out.alloc hwsz _
                by_cases hin : x.f ∈ lc
                · obtain ⟨hi1, hx1⟩ := hna.1 hin
                  rw [decide_eq_true hin] at hcw
                  have HCW := Lib.hid hcw
                  have hd1 : decide ((i : Int) + 1 < (m : Int)) = true := decide_eq_true (by omega)
                  have hd2 : decide ((0 : Int) < x.b) = true := decide_eq_true hx1
                  clear hin hna hcw
                  go_wp2_with fail
                  go_quiet ((go_at_call 8; exact Calls.quiet_of_same (HCW.out _)))
                  go_wp2
                  go_roundw
                  case rel => exact ⟨i + 1, by omega, by go_num, pw_below_drewN HBQ.out _⟩
                  case measure => simp [intOf]; omega
                · rw [decide_eq_false hin] at hcw
                  have HCW := Lib.hid hcw
                  clear hcw
                  by_cases hi1 : i + 1 < m
                  · have hx1 : ¬ 0 < x.b := fun h => hin (hna.2 ⟨hi1, h⟩)
                    have hd1 : decide ((i : Int) + 1 < (m : Int)) = true := decide_eq_true (by omega)
                    have hd2 : decide ((0 : Int) < x.b) = false := decide_eq_false hx1
                    clear hin hna hx1
                    go_wp2_with fail
                    go_quiet ((go_at_call 8; exact Calls.quiet_of_same (HCW.out _)))
                    go_wp2
                    go_roundw
                    case rel => exact ⟨i + 1, by omega, by go_num, pw_below_drewN HBQ.out _⟩
                    case measure => simp [intOf]; omega
                  · have hd1 : decide ((i : Int) + 1 < (m : Int)) = false := decide_eq_false (by omega)
                    clear hin hna
                    go_wp2_with fail
                    go_quiet ((go_at_call 8; exact Calls.quiet_of_same (HCW.out _)))
                    go_wp2
                    go_roundw
                    case rel => exact ⟨i + 1, by omega, by go_num, pw_below_drewN HBQ.out _⟩
                    case measure => simp [intOf]; omega
              · have HE5 : Hid (Below w.heap.size w wr) := HB5.out.trans (HBW.out.mono HB5.out.size)
                go_wp2
                go_ret
                exact ⟨rfl, HE5.out⟩
      · have hbe : (planE sizes live pct == 0) = false := by simp [he]
        have hnil : planR sizes live pct = [] := by rw [planR, if_neg he]
        rw [hnil]
        clear he hnil
        generalize planE sizes live pct = pe at hbe
        go_wp2
        go_ret
        exact ⟨rfl, HB2.out⟩
end Go.Proofs.Ytnpiphlmdjmfeaa
