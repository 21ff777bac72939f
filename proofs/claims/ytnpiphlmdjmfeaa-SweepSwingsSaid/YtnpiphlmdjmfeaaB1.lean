/- samePlaces, sameSizes, among. -/
import Derived.Test.YtnpiphlmdjmfeaaA9
set_option linter.unusedVariables false
set_option linter.unusedSimpArgs false
namespace Go.Proofs.Ytnpiphlmdjmfeaa
open Go.RowKit Go.Proofs.YtnpiphlmdjmfeaaW.PrintWords

instance : DecidableEq Sz := fun x y => decidable_of_iff (x.f = y.f ∧ x.b = y.b) (by cases x; cases y; simp)

theorem eqA34 (d : Nat) (w : World) (x0 y0 : Int) (x1 y1 : Int) :
    (Op.equalIn (d + 2) 34 (.agg #[.int .i64 x0, .int .i64 x1]) (.agg #[.int .i64 y0, .int .i64 y1])).run Try.prog w = .ok (x0 == y0 && (x1 == y1)) w := by
  refine eqA_of Try.underlying34 (by kernel_rfl) ?_
  refine eqf_cons (by rfl) (by go_simp; rfl) (by go_simp; rfl) (by go_simp) ?_
  exact eqf_last (by rfl) (by go_simp; rfl) (by go_simp; rfl) (by go_simp)
theorem eqA42 (d : Nat) (w : World) (x0 y0 : Int) (x1 y1 : Int) (x2 y2 : Int) :
    (Op.equalIn (d + 2) 42 (.agg #[.int .i64 x0, .int .i64 x1, .int .i64 x2]) (.agg #[.int .i64 y0, .int .i64 y1, .int .i64 y2])).run Try.prog w = .ok (x0 == y0 && (x1 == y1 && (x2 == y2))) w := by
  refine eqA_of Try.underlying42 (by kernel_rfl) ?_
  refine eqf_cons (by rfl) (by go_simp; rfl) (by go_simp; rfl) (by go_simp) ?_
  refine eqf_cons (by rfl) (by go_simp; rfl) (by go_simp; rfl) (by go_simp) ?_
  exact eqf_last (by rfl) (by go_simp; rfl) (by go_simp; rfl) (by go_simp)
attribute [local go_sem high] eqA34 eqA42

theorem lists_eq {α : Type} (z : α) (l0 l1 : List α) (h : l0.length = l1.length) (he : ∀ j, j < l0.length → l0.getD j z = l1.getD j z) : l0 = l1 := by
  apply List.ext_getElem h
  intro i h1 h2
  have := he i h1
  simpa [List.getD_eq_getElem?_getD, h1, h2] using this

def eqS (x y : Sz) : Bool := x.f == y.f && (x.b == y.b)
theorem eqS_iff (x y : Sz) : eqS x y = decide (x = y) := by
  obtain ⟨a, b⟩ := x
  obtain ⟨d, e⟩ := y
  simp only [eqS, Sz.mk.injEq]
  by_cases h1 : a = d <;> by_cases h2 : b = e <;> simp [h1, h2]
set_option maxRecDepth 20000 in
set_option maxHeartbeats 1000000 in
theorem sameS_any (A0 : Option Addr) (c0 n0 : Nat) (l0 : List Sz) (A1 : Option Addr) (c1 n1 : Nat) (l1 : List Sz) (w : World) (hn0 : l0.length = n0) (hn1 : l1.length = n1) (h0 : kSz.C w A0 n0 l0) (h1 : kSz.C w A1 n1 l1) (hlt0 : n0 ≤ 9223372036854775806) :
    Calls Try.prog 12 #[.slice A0 n0 c0, .slice A1 n1 c1] w fun e w' => e = .returned (.bool (decide (l0 = l1))) ∧ ∃ q, w' = w.drewN q := by
  have HN0 := Lib.hid hn0
  have HN1 := Lib.hid hn1
  have H0 := Lib.hid h0
  have H1 := Lib.hid h1
  clear hn0 hn1 h0 h1
  by_cases hl : n0 = n1
  · subst hl
    go_enter Try.func12, Try.ntmps12
    go_wp2
    go_loopw [5] (fun s5 wr => ∃ k q : Nat, k ≤ n0 ∧ s5 = .int .i64 k ∧ wr = w.drewN q ∧ Hid (∀ j, j < k → l0.getD j default = l1.getD j default)) (fun s5 _ => n0 - (intOf s5).toNat)
    case atStart => exact ⟨0, 0, Nat.zero_le _, rfl, rfl, fun j hj => by omega⟩
    case round =>
      obtain ⟨k, q, hk, rfl, rfl, HA⟩ := hrel
      by_cases hlt : k < n0
      · obtain ⟨ad0, rfl, c0, c1⟩ := sz_at H0.out k hlt
        obtain ⟨ad1, rfl, d0, d1⟩ := sz_at H1.out k hlt
        generalize hx : l0.getD k default = x at c0 c1
        generalize hy : l1.getD k default = y at d0 d1
        have HX := Lib.hid hx
        have HY := Lib.hid hy
        clear hx hy
        by_cases hdup : x = y
        · have hb : (!(x.f == y.f) || !(x.b == y.b)) = false := by rw [hdup]; simp
          have HD := Lib.hid hdup
          clear hdup
          go_wp2_with fail
          go_quiet (fail)
          go_wp2
          go_roundw
          case rel =>
            refine ⟨k + 1, q + nq, by omega, by go_num, rfl, fun j hj => ?_⟩
            by_cases e : j = k
            · subst e
              rw [HX.out, HY.out]
              exact HD.out
            · exact HA.out j (by omega)
          case measure => simp [intOf]; omega
        · have hb : (!(x.f == y.f) || !(x.b == y.b)) = true := by
            have := eqS_iff x y
            have h3 : decide (x = y) = false := by simp [hdup]
            rw [h3] at this
            simp [eqS] at this ⊢
            omega
          have HD := Lib.hid hdup
          clear hdup
          go_wp2_with fail
          go_quiet (fail)
          go_wp2
          go_ret
          refine ⟨?_, q + nq, World.drewN_drewN ..⟩
          have : l0 ≠ l1 := fun e => HD.out (by rw [← HX.out, ← HY.out, e])
          simp [this]
      · have hend : k = n0 := by omega
        have HE : Hid (l0 = l1) := lists_eq default l0 l1 (by rw [HN0.out, HN1.out]) (by rw [HN0.out, ← hend]; exact HA.out)
        clear HA
        go_wp2
        go_ret
        exact ⟨by simp [HE.out], q, rfl⟩
  · have hb : ((n0 : Int) == (n1 : Int)) = false := by simp; omega
    have HL : Hid (l0 ≠ l1) := fun e => hl (by rw [← HN0.out, ← HN1.out, e])
    clear hl
    go_enter Try.func12, Try.ntmps12
    go_wp2
    go_ret
    exact ⟨by simp [HL.out], 0, rfl⟩

def eqP (x y : Pl) : Bool := x.f == y.f && (x.a == y.a && (x.l == y.l))
theorem eqP_iff (x y : Pl) : eqP x y = decide (x = y) := by
  obtain ⟨a, b, c⟩ := x
  obtain ⟨d, e, f⟩ := y
  simp only [eqP, Pl.mk.injEq]
  by_cases h1 : a = d <;> by_cases h2 : b = e <;> by_cases h3 : c = f <;> simp [h1, h2, h3]
set_option maxRecDepth 20000 in
set_option maxHeartbeats 1000000 in
theorem sameP_any (A0 : Option Addr) (c0 n0 : Nat) (l0 : List Pl) (A1 : Option Addr) (c1 n1 : Nat) (l1 : List Pl) (w : World) (hn0 : l0.length = n0) (hn1 : l1.length = n1) (h0 : kPl.C w A0 n0 l0) (h1 : kPl.C w A1 n1 l1) (hlt0 : n0 ≤ 9223372036854775806) :
    Calls Try.prog 10 #[.slice A0 n0 c0, .slice A1 n1 c1] w fun e w' => e = .returned (.bool (decide (l0 = l1))) ∧ ∃ q, w' = w.drewN q := by
  have HN0 := Lib.hid hn0
  have HN1 := Lib.hid hn1
  have H0 := Lib.hid h0
  have H1 := Lib.hid h1
  clear hn0 hn1 h0 h1
  by_cases hl : n0 = n1
  · subst hl
    go_enter Try.func10, Try.ntmps10
    go_wp2
    go_loopw [5] (fun s5 wr => ∃ k q : Nat, k ≤ n0 ∧ s5 = .int .i64 k ∧ wr = w.drewN q ∧ Hid (∀ j, j < k → l0.getD j default = l1.getD j default)) (fun s5 _ => n0 - (intOf s5).toNat)
    case atStart => exact ⟨0, 0, Nat.zero_le _, rfl, rfl, fun j hj => by omega⟩
    case round =>
      obtain ⟨k, q, hk, rfl, rfl, HA⟩ := hrel
      by_cases hlt : k < n0
      · obtain ⟨ad0, rfl, c0, c1, c2⟩ := pl_at H0.out k hlt
        obtain ⟨ad1, rfl, d0, d1, d2⟩ := pl_at H1.out k hlt
        generalize hx : l0.getD k default = x at c0 c1 c2
        generalize hy : l1.getD k default = y at d0 d1 d2
        have HX := Lib.hid hx
        have HY := Lib.hid hy
        clear hx hy
        by_cases hdup : x = y
        · have hb : (!(x.f == y.f) || (!(x.a == y.a) || !(x.l == y.l))) = false := by rw [hdup]; simp
          have HD := Lib.hid hdup
          clear hdup
          go_wp2_with fail
          go_quiet (fail)
          go_wp2
          go_roundw
          case rel =>
            refine ⟨k + 1, q + nq, by omega, by go_num, rfl, fun j hj => ?_⟩
            by_cases e : j = k
            · subst e
              rw [HX.out, HY.out]
              exact HD.out
            · exact HA.out j (by omega)
          case measure => simp [intOf]; omega
        · have hb : (!(x.f == y.f) || (!(x.a == y.a) || !(x.l == y.l))) = true := by
            have := eqP_iff x y
            have h3 : decide (x = y) = false := by simp [hdup]
            rw [h3] at this
            simp [eqP] at this ⊢
            omega
          have HD := Lib.hid hdup
          clear hdup
          go_wp2_with fail
          go_quiet (fail)
          go_wp2
          go_ret
          refine ⟨?_, q + nq, World.drewN_drewN ..⟩
          have : l0 ≠ l1 := fun e => HD.out (by rw [← HX.out, ← HY.out, e])
          simp [this]
      · have hend : k = n0 := by omega
        have HE : Hid (l0 = l1) := lists_eq default l0 l1 (by rw [HN0.out, HN1.out]) (by rw [HN0.out, ← hend]; exact HA.out)
        clear HA
        go_wp2
        go_ret
        exact ⟨by simp [HE.out], q, rfl⟩
  · have hb : ((n0 : Int) == (n1 : Int)) = false := by simp; omega
    have HL : Hid (l0 ≠ l1) := fun e => hl (by rw [← HN0.out, ← HN1.out, e])
    clear hl
    go_enter Try.func10, Try.ntmps10
    go_wp2
    go_ret
    exact ⟨by simp [HL.out], 0, rfl⟩

set_option maxHeartbeats 400000 in
theorem among_any (x : Int) (w : World) (hx : wfI x) : Calls Try.prog 7 #[.int .i64 x, .int .i64 50] w fun e w' => (∃ r, e = .returned (.int .i64 r) ∧ 0 ≤ r ∧ r < 50) ∧ w' = w := by
  have hb := (wfI_iff x).1 hx
  have h1 : x.tmod 50 < 50 := Int.tmod_lt_of_pos x (by omega)
  have h2 : -50 < x.tmod 50 := by have := Int.lt_tmod_of_pos x (show (0 : Int) < 50 by omega); omega
  have h3 : (0 : Int) ≤ x.tmod 50 + 50 := by omega
  clear hb hx
  go_enter Try.func7, Try.ntmps7
  go_wp2
  go_ret
  exact ⟨⟨_, rfl, Int.emod_nonneg _ (by omega), Int.emod_lt_of_pos _ (by omega)⟩, rfl⟩

theorem int_at {w : World} {A : Option Addr} {n : Nat} {xs : List Int} (h : (Kd.int .i64).C w A n xs) (k : Nat) (hk : k < n) : ∃ ad, A = some ad ∧ w.cell? (ad.add k) = some (.int .i64 (xs.getD k 0)) := by
  obtain ⟨ad, e, hc⟩ := Kd.at_int h (k : Int) (by omega) (by omega)
  exact ⟨ad, e, hc⟩
theorem ints_C {w : World} {base n : Nat} {A : Option Addr} {c : Nat} {xs : List Int} (h : w.ownsRow base 3 1 (.slice A n c) n (nums .i64 xs)) : (Kd.int .i64).C w A n xs := by
  obtain ⟨A', c', e, hr⟩ := own_reads h
  cases e
  exact Kd.C_of_reads (d := (0 : Int)) (h1 := fun _ => rfl) hr

set_option maxRecDepth 20000 in
set_option maxHeartbeats 1000000 in
/-- 'in': is a number among those of a list? -/
theorem in_any (A : Option Addr) (c n : Nat) (l : List Int) (x : Int) (w : World) (hn : l.length = n) (hr : (Kd.int .i64).C w A n l) (hlt : n ≤ 9223372036854775806) :
    Calls Try.prog 8 #[.slice A n c, .int .i64 x] w fun e w' => e = .returned (.bool (decide (x ∈ l))) ∧ w' = w := by
  have HN := Lib.hid hn
  have HR := Lib.hid hr
  clear hn hr
  go_enter Try.func8, Try.ntmps8
  go_wp2
  go_loop [9] (fun s9 => ∃ k : Nat, k ≤ n ∧ s9 = .int .i64 k ∧ Hid (∀ j, j < k → l.getD j 0 ≠ x)) (fun s9 => n - (intOf s9).toNat)
  case atStart => exact ⟨0, Nat.zero_le _, rfl, fun j hj => by omega⟩
  case round =>
    obtain ⟨k, hk, rfl, HA⟩ := hrel
    by_cases hlt : k < n
    · obtain ⟨ad, rfl, c0⟩ := int_at HR.out k hlt
      generalize hy : l.getD k 0 = y at c0
      have HY := Lib.hid hy
      clear hy
      by_cases he : y = x
      · subst he
        have HM : Hid (y ∈ l) := by
          have := HY.out
          rw [List.getD_eq_getElem?_getD, List.getElem?_eq_getElem (show k < l.length by rw [HN.out]; exact hlt)] at this
          have h2 : l[k]'(by rw [HN.out]; exact hlt) = y := this
          rw [Hid, ← h2]
          exact List.getElem_mem _
        go_wp2
        go_ret
        exact ⟨by simp [HM.out], rfl⟩
      · have hb : (y == x) = false := by simp [he]
        have HD := Lib.hid he
        clear he
        go_wp2
        go_round
        case rel =>
          refine ⟨k + 1, by omega, by go_num, fun j hj => ?_⟩
          by_cases e : j = k
          · subst e
            rw [HY.out]
            exact HD.out
          · exact HA.out j (by omega)
        case measure => simp [intOf]; omega
    · have hend : k = n := by omega
      have HM : Hid (x ∉ l) := fun hx => by
        obtain ⟨j, hj, e⟩ := List.getElem_of_mem hx
        refine HA.out j (by rw [HN.out] at hj; omega) ?_
        rw [List.getD_eq_getElem?_getD, List.getElem?_eq_getElem hj]
        exact e
      clear HA
      go_wp2
      go_ret
      exact ⟨by simp [HM.out], rfl⟩
end Go.Proofs.Ytnpiphlmdjmfeaa
