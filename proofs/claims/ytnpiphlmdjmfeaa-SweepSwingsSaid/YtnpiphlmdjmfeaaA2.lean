/- cmp.Or over whole numbers: the first that is not 0. -/
import Derived.Test.YtnpiphlmdjmfeaaA1
set_option linter.unusedVariables false
set_option linter.unusedSimpArgs false
namespace Go.Proofs.Ytnpiphlmdjmfeaa
open Go.RowKit

def firstNZ : List Int → Int
  | [] => 0
  | x :: r => if x = 0 then firstNZ r else x

theorem firstNZ_drop {xs : List Int} {k : Nat} (h : k < xs.length) : firstNZ (xs.drop k) = if xs.getD k 0 = 0 then firstNZ (xs.drop (k + 1)) else xs.getD k 0 := by
  rw [List.drop_eq_getElem_cons h, firstNZ]
  simp [List.getD, h]

set_option maxHeartbeats 400000 in
theorem or_any (b off cap : Nat) (xs : List Int) (w : World) (hlen : xs.length ≤ 1000)
    (hc : ∀ i, i < xs.length → w.cell? ⟨b, off + i, none⟩ = some (.int .i64 (xs.getD i 0))) :
    Calls Try.prog 27 #[.slice (some ⟨b, off, none⟩) xs.length cap] w fun e w' => e = .returned (.int .i64 (firstNZ xs)) ∧ w' = w := by
  have HC : Hid (∀ i, i < xs.length → w.cell? ⟨b, off + i, none⟩ = some (.int .i64 (xs.getD i 0))) := hc
  clear hc
  obtain ⟨n, hn⟩ : ∃ n, xs.length = n := ⟨_, rfl⟩
  have HN := Lib.hid hn
  rw [hn] at hlen ⊢
  clear hn
  go_enter Try.func27, Try.ntmps27
  go_wp2
  go_loop [8] (fun i => ∃ k : Nat, k ≤ n ∧ i = .int .i64 k ∧ firstNZ xs = firstNZ (xs.drop k)) (fun i => n - (intOf i).toNat)
  case atStart => exact ⟨0, Nat.zero_le _, rfl, rfl⟩
  case round =>
    obtain ⟨k, hk, rfl, hd⟩ := hrel
    have HD := Lib.hid hd
    clear hd
    by_cases hlt : k < n
    · have hcell := HC.out k (by rw [HN.out]; exact hlt)
      have hs := firstNZ_drop (xs := xs) (k := k) (by rw [HN.out]; exact hlt)
      rw [← HD.out] at hs
      generalize xs.getD k 0 = v at hcell hs
      have HS := Lib.hid hs
      clear hs
      by_cases hv : v = 0
      · subst hv
        go_wp2
        go_round
        case rel => exact ⟨k + 1, by omega, by go_num, by have := HS.out; simpa using this⟩
        case measure => simp [intOf]; omega
      · have hv' : (!(v == 0)) = true := by simp [hv]
        go_wp2
        go_ret
        exact ⟨by rw [HS.out]; simp [hv], rfl⟩
    · go_wp2
      go_ret
      refine ⟨?_, rfl⟩
      rw [HD.out, List.drop_eq_nil_of_le (by rw [HN.out]; omega)]; rfl
end Go.Proofs.Ytnpiphlmdjmfeaa
