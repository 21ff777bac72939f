/- The statements' book: SameInts, LendInts, KeptInts. -/
import Derived.Test.YtdpbkpfdokgolaaDoorS3
set_option linter.unusedVariables false
set_option linter.unusedSimpArgs false
namespace Go.Proofs.YtdpbkpfdokgolaaDoor
open Go.RowKit Go.Proofs.YtdpbkpfdokgolaaDoorW.PrintWords

theorem take_eq_step {xs ys : List Int} {k : Nat} (hx : k < xs.length) (hy : k < ys.length) (h : xs.take k = ys.take k) (e : xs.getD k 0 = ys.getD k 0) : xs.take (k + 1) = ys.take (k + 1) := by
  rw [List.take_succ_eq_append_getElem hx, List.take_succ_eq_append_getElem hy, h]
  simp [List.getD, hx, hy] at e
  rw [e]

set_option maxHeartbeats 1000000 in
/-- SameInts tells whether two rows hold the same. -/
theorem sameI_any (A : Option Addr) (c : Nat) (xs : List Int) (A2 : Option Addr) (c2 : Nat) (ys : List Int) (w : World) (hx : (Kd.int .i64).C w A xs.length xs) (hy : (Kd.int .i64).C w A2 ys.length ys) (hn : xs.length ≤ 9223372036854775807) :
    Calls Tryd.prog 10 #[.slice A xs.length c, .slice A2 ys.length c2] w fun e w' => e = .returned (.bool (decide (xs = ys))) ∧ Drawn0 w w' := by
  by_cases hl : xs.length = ys.length
  · have HX := Lib.hid (fun k hk => read_i hx k hk)
    have HY := Lib.hid (fun k hk => read_i hy k hk)
    clear hx hy
    obtain ⟨n, hnn⟩ : ∃ n, xs.length = n := ⟨_, rfl⟩
    have HNX := Lib.hid hnn
    have HNY := Lib.hid (hl ▸ hnn : ys.length = n)
    rw [← hl, hnn]
    rw [hnn] at hn
    rw [hnn] at HX
    rw [← hl, hnn] at HY
    clear hl hnn
    go_enter Tryd.func10, Tryd.ntmps10
    go_wp2
    go_loopw [5] (fun i wr => ∃ k : Nat, k ≤ n ∧ i = .int .i64 k ∧ Hid (xs.take k = ys.take k) ∧ ∃ m, wr = w.drewN m) (fun i _ => n - (intOf i).toNat)
    case atStart => exact ⟨0, Nat.zero_le _, rfl, rfl, 0, rfl⟩
    case round =>
      obtain ⟨k, hk, rfl, HE, m, rfl⟩ := hrel
      by_cases hlt : k < n
      · obtain ⟨ad, rfl, hc⟩ := HX.out k hlt
        obtain ⟨ad2, rfl, hc2⟩ := HY.out k hlt
        obtain ⟨x, hxe⟩ : ∃ x, xs.getD k 0 = x := ⟨_, rfl⟩
        obtain ⟨y, hye⟩ : ∃ y, ys.getD k 0 = y := ⟨_, rfl⟩
        rw [hxe] at hc
        rw [hye] at hc2
        by_cases he : x = y
        · have hs := Lib.hid (take_eq_step (by rw [HNX.out]; exact hlt) (by rw [HNY.out]; exact hlt) HE.out (by rw [hxe, hye, he]))
          clear hxe hye
          subst he
          have hb : (x != x) = false := by simp
          go_wp2_with fail
          go_quiet (fail)
          go_wp2
          go_roundw
          case rel => exact ⟨k + 1, by omega, by go_num, hs, by first | exact ⟨_, rfl⟩ | exact ⟨_, drewN_drewN _ _ _⟩⟩
          case measure => simp [intOf]; omega
        · have hne : decide (xs = ys) = false := decide_eq_false (fun h => he (by rw [← hxe, ← hye, h]))
          have HNE := Lib.hid hne
          have hb : (x != y) = true := by simp [he]
          clear hxe hye hne he
          go_wp2_with fail
          go_quiet (fail)
          go_wp2
          go_ret
          exact ⟨by rw [HNE.out]; rfl, by repeat (first | exact Drawn0.refl _ | apply Drawn0.step)⟩
      · have heq : decide (xs = ys) = true := decide_eq_true (by
          have h := HE.out
          rwa [List.take_of_length_le (by rw [HNX.out]; omega), List.take_of_length_le (by rw [HNY.out]; omega)] at h)
        have HEQ := Lib.hid heq
        clear heq
        go_wp2
        go_ret
        exact ⟨by rw [HEQ.out]; rfl, by repeat (first | exact Drawn0.refl _ | apply Drawn0.step)⟩
  · have hne : decide (xs = ys) = false := decide_eq_false (fun h => hl (by rw [h]))
    have hy' : ys.length ≤ 9223372036854775807 := hy.2.1
    rw [hne]
    clear hx hy hne
    generalize xs.length = n at *
    generalize ys.length = m at *
    go_enter Tryd.func10, Tryd.ntmps10
    go_wp2
    go_ret
    exact ⟨rfl, by repeat (first | exact Drawn0.refl _ | apply Drawn0.step)⟩

theorem empty_lit (w : World) : (Kd.int .i64).R 3 (w.alloc (.cells #[] 3)) w.heap.size (fun _ => True) (.slice (some ⟨w.heap.size, 0, none⟩) 0 0) [] :=
  Kd.R_of_own (enc := Value.int .i64) (h1 := fun _ => rfl) (xs := []) (by
    refine ⟨by simp [encs], .inr ⟨w.heap.size, 0, #[], rfl, Nat.le_refl _, heap_alloc_new w _, Nat.le_refl _, by unfold maxLen; omega, by simp, by simp [encs]⟩⟩) (fun _ _ => trivial)

theorem own_room {w : World} {B e size g co n : Nat} {xs : List Value} (h : w.ownsRow B e size (.slice (some ⟨g, 0, none⟩) n co) n xs) : n ≤ co := by
  rcases h.2 with ⟨h0, _⟩ | ⟨g', cap, cur, hv, _, _, h1, _⟩
  · cases h0
  · injection hv with _ _ e3
    omega

set_option maxRecDepth 100000 in
set_option maxHeartbeats 1000000 in
/-- LendInts: the same numbers, with a mark behind them. -/
theorem lend_any (A : Option Addr) (c : Nat) (l : List Int) (w : World) (hC : (Kd.int .i64).C w A l.length l) (hl : (l.length + 1) * 8 ≤ 140737488355328) :
    Calls Tryd.prog 7 #[.slice A l.length c] w fun e w' => ∃ g co, e = .returned (.slice (some ⟨g, 0, none⟩) l.length co) ∧
      w'.ownsRow w.heap.size 3 1 (.slice (some ⟨g, 0, none⟩) (l.length + 1) co) (l.length + 1) ((l ++ [-77]).map (Value.int .i64)) ∧ Below w.heap.size w w' := by
  have HC := Lib.hid hC
  clear hC
  have hn : l.length ≤ 17592186044415 := by omega
  obtain ⟨i0, hi0, _, _, _⟩ := info_parts infoInt
  have hcut := fun (g co : Nat) (hco : l.length + 1 ≤ co) => cut_to (P := Tryd.prog) 22 3 .i64 Tryd.underlying22 hi0 (some ⟨g, 0, none⟩) (l.length + 1) co (l.length : Int) (by omega) (by omega) hco
  have HCut := Lib.hid hcut
  clear hcut hi0
  obtain ⟨n, hnn⟩ : ∃ n, l.length = n := ⟨_, rfl⟩
  have HN := Lib.hid hnn
  rw [hnn] at HC HCut hn hl ⊢
  clear hnn
  go_enter Tryd.func7, Tryd.ntmps7
  go_wp2_with (first
    | (at_builtin; refine Kd.R_append_rows (Kd.int .i64) (w0 := w) w.heap.size rfl (.tmp 4) (.tmp 5) 22 3 (.int .i64 0) 8 rfl Tryd.underlying22 infoInt rfl (by decide) (by omega) (.slice (some ⟨w.heap.size, 0, none⟩) 0 0) [] l A n c (fun _ => True) (fun _ => False) rfl rfl (empty_lit w) (Kd.C_alloc HC.out _) (fun _ _ h => h) (fun _ h => h.elim) (fun _ _ => trivial) ((Below.refl _ w).alloc (Nat.le_refl _) _) ?aS ?aL ?_; rotate_left 2; intro v1 w1 hR1 hb1 hg1 hat1; have HR1 := Lib.hid hR1; have HB1 := Lib.hid hb1; clear hR1 hb1 hg1 hat1)
    | (at_builtin; refine Kd.R_append (Kd.int .i64) (w0 := w) w.heap.size rfl (.tmp 7) (.tmp 8) 22 3 (.int .i64 0) 8 rfl Tryd.underlying22 infoInt rfl (by decide) (by omega) v1 l (-77) [.int .i64 (-77)] (fun _ => True) (fun _ => False) rfl rfl ?bP (fun _ hk => hk.elim) (fun _ _ => trivial) HR1.out HB1.out HB1.out.size ?bL ?_; rotate_left 2; intro v2 w2 hR2 hb2 hg2 hat2; have HR2 := Lib.hid hR2; have HB2 := Lib.hid hb2; clear hR2 hb2 hg2 hat2; have hown := Kd.own_of_R (enc := Value.int .i64) (h1 := fun _ => rfl) HR2.out; have hlen2 : (l ++ [-77]).length = n + 1 := (by rw [List.length_append, HN.out]; rfl); rw [hlen2] at hown; obtain ⟨g, co, rfl, _, _⟩ := hown.form (by omega); have hco : n + 1 ≤ co := own_room hown; have hcut2 := HCut.out g co hco; rw [Int.toNat_natCast] at hcut2; have HOwn := Lib.hid hown; clear hown))
  case aS => simp
  case aL => simp; omega
  case bP => rfl
  case bL => rw [HN.out]; omega
  go_ret
  exact ⟨g, co, rfl, HOwn.out, HB2.out⟩

theorem wrapS (n : Nat) (h : n ≤ 17592186044415) : IntKind.i64.wrap ((n : Int) + 1) = (n : Int) + 1 := IntWalk.i64_in _ (by omega)

set_option maxRecDepth 100000 in
set_option maxHeartbeats 1000000 in
/-- KeptInts of what LendInts gave: the numbers and the mark are there still. -/
theorem kept_any (B g co : Nat) (A : Option Addr) (c : Nat) (l : List Int) (w : World) (hO : w.ownsRow B 3 1 (.slice (some ⟨g, 0, none⟩) (l.length + 1) co) (l.length + 1) ((l ++ [-77]).map (Value.int .i64))) (hC : (Kd.int .i64).C w A l.length l) (hl : (l.length + 1) * 8 ≤ 140737488355328) :
    Calls Tryd.prog 15 #[.slice (some ⟨g, 0, none⟩) l.length co, .slice A l.length c] w fun e w' => e = .returned (.bool true) ∧ Drawn0 w w' := by
  have hn : l.length ≤ 17592186044415 := by omega
  have hco : l.length + 1 ≤ co := by
    rcases hO.2 with ⟨h0, _⟩ | ⟨g', cap, cur, hv, _, _, h1, _⟩
    · cases h0
    · injection hv with _ _ e3
      omega
  have hmark : w.cell? ⟨g, l.length, none⟩ = some (.int .i64 (-77)) := by
    have h := hO.cells (g := g) rfl l.length (.int .i64 (-77)) (by simp)
    rwa [add_plain] at h
  have hCl : (Kd.int .i64).C w (some ⟨g, 0, none⟩) l.length l := by
    have h := own_take hO (m := l.length) (by omega)
    rw [Nat.mul_one, List.map_append, List.take_append_of_le_length (by simp), List.take_of_length_le (by simp)] at h
    obtain ⟨A', c', e, _, hc⟩ := own_ints h
    cases e
    exact hc
  have hS := sameI_any (some ⟨g, 0, none⟩) co l A c l w hCl hC (by omega)
  rw [decide_eq_true rfl] at hS
  have HS := Lib.hid hS
  clear hO hC hCl hS
  generalize l.length = n at *
  have hw := wrapS n hn
  go_enter Tryd.func15, Tryd.ntmps15
  go_wp2_with (go_at_call 10; refine HS.out.mono ?_; rintro e w1 ⟨rfl, q, rfl⟩)
  go_ret
  exact ⟨rfl, by repeat (first | exact Drawn0.refl _ | apply Drawn0.step)⟩
end Go.Proofs.YtdpbkpfdokgolaaDoor
