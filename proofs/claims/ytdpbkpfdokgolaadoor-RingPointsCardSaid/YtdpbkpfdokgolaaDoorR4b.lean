/- The reference's Hash. -/
import Derived.Test.YtdpbkpfdokgolaaDoorR4
set_option linter.unusedVariables false
set_option linter.unusedSimpArgs false
namespace Go.Proofs.YtdpbkpfdokgolaaDoor
open Go.RowKit Go.Proofs.YtdpbkpfdokgolaaDoorW.PrintWords

set_option maxHeartbeats 1000000 in
theorem rhash_any (s : ByteArray) (w : World) (hs : s.size ≤ 9223372036854775807) :
    Calls Tryd.prog 12 #[.string s] w fun e w' => e = .returned (.int .u64 (hashOf s)) ∧ Drawn0 w w' := by
  have HP := Lib.hid (show ∀ i, hpre s (i + 1) = hstep s (hpre s i) i from fun i => rfl)
  have HF := Lib.hid (show hashOf s = hfin (hpre s s.size) from rfl)
  obtain ⟨n, hn⟩ : ∃ n, s.size = n := ⟨_, rfl⟩
  go_enter Tryd.func12, Tryd.ntmps12
  go_wp2
  go_loopw [3, 4] (fun x i wr => ∃ k : Nat, k ≤ n ∧ i = .int .i64 k ∧ x = .int .u64 (hpre s k) ∧ Drawn0 w wr) (fun _ i _ => n - (intOf i).toNat)
  case atStart => exact ⟨0, Nat.zero_le _, rfl, rfl, Drawn0.refl _⟩
  case round =>
    obtain ⟨k, hk, rfl, rfl, ⟨m1, rfl⟩⟩ := hrel
    have hp := HP.out k
    obtain ⟨x, hx⟩ : ∃ x, hpre s k = x := ⟨_, rfl⟩
    rw [hx] at hp ⊢
    have HX := Lib.hid hx
    clear hx
    have HP2 := Lib.hid hp
    clear hp
    by_cases hlt : k < n
    · have p5 : (0 : Int) ≤ (k : Int) := by omega
      have q5 : (k : Int) < (s.size : Int) := by omega
      replace p5 := eq_true p5
      replace q5 := eq_true q5
      go_wp2
      go_roundw
      case rel =>
        have hbt : ((s[k]'(by omega)).toNat : Int) = bt s (k : Int) := bt_at s (k : Int) (by simp; omega)
        refine ⟨k + 1, by omega, by go_num, ?_, by repeat (first | exact Drawn0.refl _ | apply Drawn0.step)⟩
        rw [HP2.out, hbt]
        unfold hstep
        rfl
      case measure => simp [intOf]; omega
    · go_wp2
      go_ret
      refine ⟨?_, ⟨m1, rfl⟩⟩
      obtain rfl : k = n := by omega
      rw [HF.out, hn, HX.out]
      rfl
end Go.Proofs.YtdpbkpfdokgolaaDoor
