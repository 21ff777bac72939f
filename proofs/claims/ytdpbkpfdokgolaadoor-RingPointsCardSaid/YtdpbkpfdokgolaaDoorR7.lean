/- Where a hash lies among the ring's points: slices.BinarySearchFunc. -/
import Derived.Test.YtdpbkpfdokgolaaDoorR6
import Derived.Deep.LoopGhost
set_option linter.unusedVariables false
set_option linter.unusedSimpArgs false
namespace Go.Proofs.YtdpbkpfdokgolaaDoor
open Go.RowKit Go.Proofs.YtdpbkpfdokgolaaDoorW.PrintWords Go.Sort

set_option maxHeartbeats 400000 in
theorem ofCmp_any (x : Pt) (h : Int) (w : World) :
    Calls Tryd.prog 66 #[.agg #[.int .u64 x.at_, .int .i64 x.c, .int .i64 x.i], .int .u64 h] w fun e w' => e = .returned (.int .i64 (cmpI x.at_ h)) ∧ Below w.heap.size w w' := by
  have h1 := fun W => cmpu_any x.at_ h W
  generalize cmpI x.at_ h = r1 at h1 ⊢
  go_enter Tryd.func66, Tryd.ntmps66
  go_wp2_with (go_at_call 67; refine (h1 _).mono ?_; rintro e w' ⟨rfl, rfl⟩)
  go_ret
  exact ⟨rfl, (Below.refl _ _).alloc (Nat.le_refl _) _⟩

/-- What the search gives: how many points are below the hash. -/
def Cut (rs : List Pt) (h : Int) (i : Nat) : Prop := i ≤ rs.length ∧ (∀ t, t < i → (rs.getD t default).at_ < h) ∧ (∀ t, i ≤ t → t < rs.length → h ≤ (rs.getD t default).at_)

theorem cmpI_neg (a b : Int) : cmpI a b < 0 ↔ a < b := by
  unfold cmpI
  by_cases h1 : a < b
  · simp [h1]
  · by_cases h2 : b < a <;> simp [h1, h2]

set_option maxHeartbeats 4000000 in
set_option maxRecDepth 100000 in
theorem bsearch_any (A : Option Addr) (c : Nat) (rs : List Pt) (h : Int) (w : World) (hR : kPt.C w A rs.length rs) (hn : rs.length ≤ 1024) (hs : ∀ a b, a ≤ b → b < rs.length → (rs.getD a default).at_ ≤ (rs.getD b default).at_) :
    Calls Tryd.prog 65 #[.slice A rs.length c, .int .u64 h, .func (.func 66) #[] #[]] w fun e w' => ∃ (i : Nat) (b : Bool), e = .returned (.tuple #[.int .i64 i, .bool b]) ∧ Cut rs h i ∧ Below w.heap.size w w' := by
  have HR := Lib.hid hR
  have HS := Lib.hid hs
  clear hR hs
  obtain ⟨n, hrn⟩ : ∃ n, rs.length = n := ⟨_, rfl⟩
  have HN := Lib.hid hrn
  rw [hrn] at hn ⊢
  rw [hrn] at HR
  clear hrn
  go_enter Tryd.func65, Tryd.ntmps65
  go_wp2
  go_loopg [9, 10] n (fun kx s9 s10 wr => ∃ lo hi : Nat, s9 = .int .i64 lo ∧ s10 = .int .i64 hi ∧ lo ≤ hi ∧ hi ≤ n ∧ hi - lo ≤ kx ∧ Hid (Below w.heap.size w wr) ∧
    Hid ((∀ t, t < lo → (rs.getD t default).at_ < h) ∧ (∀ t, hi ≤ t → t < n → h ≤ (rs.getD t default).at_)))
  case atStart => exact ⟨0, n, rfl, rfl, Nat.zero_le _, Nat.le_refl _, by omega, Below.refl _ _, (⟨fun t ht => absurd ht (Nat.not_lt_zero _), fun t h1 h2 => by omega⟩)⟩
  case round =>
    obtain ⟨lo, hi, rfl, rfl, hlh, hin, hg, HB, I⟩ := hrel
    by_cases hlt : lo < hi
    · obtain ⟨ad, rfl, c0, c1, c2⟩ := pt_at (Kd.C_below HR.out HB.out) ((lo + hi) / 2) (by omega)
      have hmid : Hid (∀ a b, a ≤ b → b < rs.length → (rs.getD a default).at_ ≤ (rs.getD b default).at_) := HS.out
      generalize hy : rs.getD ((lo + hi) / 2) default = y at c0 c1 c2
      have Y := Lib.hid hy
      clear hy
      have hc := fun W => ofCmp_any y h W
      by_cases hyx : y.at_ < h
      · have hcv : cmpI y.at_ h = -1 := cmpI_lt hyx
        rw [hcv] at hc
        go_wp2_with (go_at_call 66; refine (hc _).mono ?_; rintro e w5 ⟨rfl, hb5⟩; have HB5 := Lib.hid hb5; clear hb5)
        go_roundg (hi - ((lo + hi) / 2 + 1))
        case measure => omega
        case rel =>
          refine ⟨(lo + hi) / 2 + 1, hi, by rw [show ((lo : Int) + (hi : Int)) / 2 + 1 = (((lo + hi) / 2 + 1 : Nat) : Int) by omega], rfl, by omega, hin, Nat.le_refl _, HB.out.trans (HB5.out.mono HB.out.size), ?_⟩
          refine ⟨fun t ht => ?_, I.out.2⟩
          have := HS.out t ((lo + hi) / 2) (by omega) (by rw [HN.out]; omega)
          rw [Y.out] at this
          omega
      · obtain ⟨r, hr, hr0⟩ : ∃ r, cmpI y.at_ h = r ∧ ¬ r < 0 := ⟨_, rfl, fun h' => hyx ((cmpI_neg _ _).1 h')⟩
        rw [hr] at hc
        clear hr
        go_wp2_with (go_at_call 66; refine (hc _).mono ?_; rintro e w5 ⟨rfl, hb5⟩; have HB5 := Lib.hid hb5; clear hb5)
        go_roundg ((lo + hi) / 2 - lo)
        case measure => omega
        case rel =>
          refine ⟨lo, (lo + hi) / 2, rfl, by rw [show ((lo : Int) + (hi : Int)) / 2 = (((lo + hi) / 2 : Nat) : Int) by omega], by omega, by omega, Nat.le_refl _, HB.out.trans (HB5.out.mono HB.out.size), ?_⟩
          refine ⟨I.out.1, fun t ht htn => ?_⟩
          have := HS.out ((lo + hi) / 2) t ht (by rw [HN.out]; omega)
          rw [Y.out] at this
          omega
    · obtain rfl : hi = lo := by omega
      by_cases hn2 : hi < n
      · obtain ⟨ad, rfl, c0, c1, c2⟩ := pt_at (Kd.C_below HR.out HB.out) hi hn2
        generalize rs.getD hi default = y at c0 c1 c2
        have hc := fun W => ofCmp_any y h W
        generalize cmpI y.at_ h = r at hc
        go_wp2_with (go_at_call 66; refine (hc _).mono ?_; rintro e w5 ⟨rfl, hb5⟩; have HB5 := Lib.hid hb5; clear hb5)
        go_ret2
        exact ⟨hi, _, rfl, ⟨by rw [HN.out]; exact hin, I.out.1, by rw [HN.out]; exact I.out.2⟩, HB.out.trans (HB5.out.mono HB.out.size)⟩
      · go_wp2
        go_ret2
        exact ⟨hi, _, rfl, ⟨by rw [HN.out]; exact hin, I.out.1, by rw [HN.out]; exact I.out.2⟩, HB.out⟩
end Go.Proofs.YtdpbkpfdokgolaaDoor
