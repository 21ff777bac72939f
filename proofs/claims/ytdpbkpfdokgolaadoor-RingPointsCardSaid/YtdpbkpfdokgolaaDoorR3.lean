/- slices.Min, slices.Max over whole numbers that came in; Check: which weights may be. -/
import Derived.Test.YtdpbkpfdokgolaaDoorR2
import Derived.Lib.Slices
set_option linter.unusedVariables false
set_option linter.unusedSimpArgs false
namespace Go.Proofs.YtdpbkpfdokgolaaDoor
open Go.RowKit Go.Proofs.YtdpbkpfdokgolaaDoorW.PrintWords

theorem read_i {w : World} {A : Option Addr} {n : Nat} {xs : List Int} (h : (Kd.int .i64).C w A n xs) (k : Nat) (hk : k < n) : ∃ ad, A = some ad ∧ w.cell? (ad.add k) = some (.int .i64 (xs.getD k 0)) := by
  have := Kd.at_int h k (by omega) (by omega)
  simpa [rd] using this

set_option maxHeartbeats 400000 in
theorem max_any (A : Option Addr) (c : Nat) (ws : List Int) (w : World) (hC : (Kd.int .i64).C w A ws.length ws) (h0 : 0 < ws.length) (hbig : ws.length ≤ 9223372036854775807) :
    Calls Tryd.prog 37 #[.slice A ws.length c] w fun e w' => e = .returned (.int .i64 (Lib.maxOf ws)) ∧ w' = w := by
  obtain ⟨ad, rfl, hc0⟩ := read_i hC 0 h0
  have HC := Lib.hid (show ∀ k, k < ws.length → w.cell? (ad.add k) = some (.int .i64 (ws.getD k 0)) from fun k hk => by obtain ⟨ad', e, h⟩ := read_i hC k hk; injection e with e; subst e; exact h)
  have HM := Lib.hid (Lib.maxOf_step ws)
  have H1 := Lib.hid (Lib.maxOf_one ws)
  clear hC
  obtain ⟨n, hn⟩ : ∃ n, ws.length = n := ⟨_, rfl⟩
  have HN := Lib.hid hn
  rw [hn] at h0 hbig ⊢
  clear hn
  rw [show ad.add 0 = ad by cases ad; rfl] at hc0
  go_enter Tryd.func37, Tryd.ntmps37
  go_wp2
  go_loop [3, 4] (fun m i => ∃ k : Nat, 0 < k ∧ k ≤ n ∧ i = .int .i64 k ∧ m = .int .i64 (Lib.maxOf (ws.take k))) (fun _ i => n - (intOf i).toNat)
  case atStart => exact ⟨1, Nat.one_pos, h0, rfl, by rw [H1.out]; simp⟩
  case round =>
    obtain ⟨k, hk0, hk, rfl, rfl⟩ := hrel
    by_cases hlt : k < n
    · have hcell := HC.out k (by rw [HN.out]; exact hlt)
      have hm := HM.out k hk0 (by rw [HN.out]; exact hlt)
      generalize ws.getD k 0 = v at hcell hm
      generalize Lib.maxOf (ws.take k) = m at hm ⊢
      have HM2 := Lib.hid hm
      clear hm
      go_wp2
      go_round
      case rel => exact ⟨k + 1, by omega, by omega, by go_num, by rw [HM2.out]⟩
      case measure => simp [intOf]; omega
    · go_wp2
      go_ret
      exact ⟨by rw [show k = ws.length by rw [HN.out]; omega, List.take_length]; rfl, rfl⟩

set_option maxHeartbeats 400000 in
theorem min_any (A : Option Addr) (c : Nat) (ws : List Int) (w : World) (hC : (Kd.int .i64).C w A ws.length ws) (h0 : 0 < ws.length) (hbig : ws.length ≤ 9223372036854775807) :
    Calls Tryd.prog 36 #[.slice A ws.length c] w fun e w' => e = .returned (.int .i64 (Lib.minOf ws)) ∧ w' = w := by
  obtain ⟨ad, rfl, hc0⟩ := read_i hC 0 h0
  have HC := Lib.hid (show ∀ k, k < ws.length → w.cell? (ad.add k) = some (.int .i64 (ws.getD k 0)) from fun k hk => by obtain ⟨ad', e, h⟩ := read_i hC k hk; injection e with e; subst e; exact h)
  have HM := Lib.hid (Lib.minOf_step ws)
  have H1 := Lib.hid (Lib.minOf_one ws)
  clear hC
  obtain ⟨n, hn⟩ : ∃ n, ws.length = n := ⟨_, rfl⟩
  have HN := Lib.hid hn
  rw [hn] at h0 hbig ⊢
  clear hn
  rw [show ad.add 0 = ad by cases ad; rfl] at hc0
  go_enter Tryd.func36, Tryd.ntmps36
  go_wp2
  go_loop [3, 4] (fun m i => ∃ k : Nat, 0 < k ∧ k ≤ n ∧ i = .int .i64 k ∧ m = .int .i64 (Lib.minOf (ws.take k))) (fun _ i => n - (intOf i).toNat)
  case atStart => exact ⟨1, Nat.one_pos, h0, rfl, by rw [H1.out]; simp⟩
  case round =>
    obtain ⟨k, hk0, hk, rfl, rfl⟩ := hrel
    by_cases hlt : k < n
    · have hcell := HC.out k (by rw [HN.out]; exact hlt)
      have hm := HM.out k hk0 (by rw [HN.out]; exact hlt)
      generalize ws.getD k 0 = v at hcell hm
      generalize Lib.minOf (ws.take k) = m at hm ⊢
      have HM2 := Lib.hid hm
      clear hm
      go_wp2
      go_round
      case rel => exact ⟨k + 1, by omega, by omega, by go_num, by rw [HM2.out]⟩
      case measure => simp [intOf]; omega
    · go_wp2
      go_ret
      exact ⟨by rw [show k = ws.length by rw [HN.out]; omega, List.take_length]; rfl, rfl⟩

/-- Weights that may be. -/
def MayW (ws : List Int) : Prop := 1 ≤ ws.length ∧ ws.length ≤ 8 ∧ (∀ x ∈ ws, 0 ≤ x ∧ x ≤ 128) ∧ ∃ x ∈ ws, x ≠ 0
instance (ws : List Int) : Decidable (MayW ws) := by unfold MayW; infer_instance
def errW' (ws : List Int) : Int := if MayW ws then 0 else 1

theorem foldl_min_le (xs : List Int) : ∀ a : Int, xs.foldl min a ≤ a ∧ ∀ x ∈ xs, xs.foldl min a ≤ x := by
  induction xs with
  | nil => intro a; simp
  | cons y r ih =>
    intro a
    have h := ih (min a y)
    simp only [List.foldl_cons, List.mem_cons]
    refine ⟨by have := h.1; omega, fun x hx => ?_⟩
    rcases hx with rfl | hx
    · have := h.1; omega
    · exact h.2 x hx
theorem foldl_max_ge (xs : List Int) : ∀ a : Int, a ≤ xs.foldl max a ∧ ∀ x ∈ xs, x ≤ xs.foldl max a := by
  induction xs with
  | nil => intro a; simp
  | cons y r ih =>
    intro a
    have h := ih (max a y)
    simp only [List.foldl_cons, List.mem_cons]
    refine ⟨by have := h.1; omega, fun x hx => ?_⟩
    rcases hx with rfl | hx
    · have := h.1; omega
    · exact h.2 x hx
theorem foldl_min_mem (xs : List Int) : ∀ a : Int, xs.foldl min a = a ∨ xs.foldl min a ∈ xs := by
  induction xs with
  | nil => intro a; simp
  | cons y r ih =>
    intro a
    simp only [List.foldl_cons, List.mem_cons]
    rcases ih (min a y) with h | h
    · rcases (by omega : min a y = a ∨ min a y = y) with e | e
      · left; rw [h, e]
      · right; left; rw [h, e]
    · right; right; exact h
theorem foldl_max_mem (xs : List Int) : ∀ a : Int, xs.foldl max a = a ∨ xs.foldl max a ∈ xs := by
  induction xs with
  | nil => intro a; simp
  | cons y r ih =>
    intro a
    simp only [List.foldl_cons, List.mem_cons]
    rcases ih (max a y) with h | h
    · rcases (by omega : max a y = a ∨ max a y = y) with e | e
      · left; rw [h, e]
      · right; left; rw [h, e]
    · right; right; exact h
theorem minOf_mem {ws : List Int} (h : 0 < ws.length) : Lib.minOf ws ∈ ws := by
  cases ws with
  | nil => simp at h
  | cons a r =>
    show (a :: r).foldl min a ∈ _
    rcases foldl_min_mem (a :: r) a with e | e
    · rw [e]; simp
    · exact e
theorem maxOf_mem {ws : List Int} (h : 0 < ws.length) : Lib.maxOf ws ∈ ws := by
  cases ws with
  | nil => simp at h
  | cons a r =>
    show (a :: r).foldl max a ∈ _
    rcases foldl_max_mem (a :: r) a with e | e
    · rw [e]; simp
    · exact e
theorem minOf_le {ws : List Int} {x : Int} (h : x ∈ ws) : Lib.minOf ws ≤ x := (foldl_min_le ws _).2 x h
theorem maxOf_ge {ws : List Int} {x : Int} (h : x ∈ ws) : x ≤ Lib.maxOf ws := (foldl_max_ge ws _).2 x h

theorem errW_eq (ws : List Int) : errW' ws = if ws.length < 1 ∨ 8 < ws.length ∨ Lib.minOf ws < 0 ∨ 128 < Lib.maxOf ws ∨ Lib.maxOf ws = 0 then 1 else 0 := by
  unfold errW'
  by_cases hc : ws.length < 1 ∨ 8 < ws.length ∨ Lib.minOf ws < 0 ∨ 128 < Lib.maxOf ws ∨ Lib.maxOf ws = 0
  · rw [if_pos hc, if_neg]
    rintro ⟨h1, h2, h3, x, hx, hne⟩
    have hm := h3 _ (minOf_mem h1)
    have hM := h3 _ (maxOf_mem h1)
    have h5 := maxOf_ge hx
    have h6 := h3 _ hx
    omega
  · rw [if_neg hc, if_pos]
    have h1 : 0 < ws.length := by omega
    refine ⟨by omega, by omega, fun x hx => ⟨?_, ?_⟩, _, maxOf_mem h1, by omega⟩
    · have := minOf_le hx; omega
    · have := maxOf_ge hx; omega

set_option maxHeartbeats 1000000 in
theorem check_any (A : Option Addr) (c : Nat) (ws : List Int) (w : World) (hC : (Kd.int .i64).C w A ws.length ws) (hbig : ws.length ≤ 9223372036854775807) :
    Calls Tryd.prog 13 #[.slice A ws.length c] w fun e w' => e = .returned (.int .i64 (errW' ws)) ∧ w' = w := by
  have HMin := Lib.hid (fun h0 => min_any A c ws w hC h0 hbig)
  have HMax := Lib.hid (fun h0 => max_any A c ws w hC h0 hbig)
  rw [errW_eq]
  clear hC
  generalize Lib.minOf ws = m at HMin ⊢
  generalize Lib.maxOf ws = M at HMax ⊢
  generalize ws.length = n at HMin HMax hbig ⊢
  by_cases h1 : n < 1
  · rw [if_pos (Or.inl h1)]
    clear HMin HMax
    obtain rfl : n = 0 := by omega
    go_enter Tryd.func13, Tryd.ntmps13
    go_wp2
    go_ret
    exact ⟨rfl, rfl⟩
  by_cases h2 : 8 < n
  · rw [if_pos (by omega)]
    clear HMin HMax
    go_enter Tryd.func13, Tryd.ntmps13
    go_wp2
    go_ret
    exact ⟨rfl, rfl⟩
  have HMin' := Lib.hid (HMin.out (by omega))
  have HMax' := Lib.hid (HMax.out (by omega))
  clear HMin HMax
  by_cases h3 : m < 0
  · rw [if_pos (by omega)]
    go_enter Tryd.func13, Tryd.ntmps13
    go_wp2_with (first | (go_at_call 36; refine HMin'.out.mono ?_; rintro e w' ⟨rfl, rfl⟩) | (go_at_call 37; refine HMax'.out.mono ?_; rintro e w' ⟨rfl, rfl⟩))
    go_ret
    exact ⟨rfl, rfl⟩
  by_cases h4 : 128 < M
  · rw [if_pos (by omega)]
    go_enter Tryd.func13, Tryd.ntmps13
    go_wp2_with (first | (go_at_call 36; refine HMin'.out.mono ?_; rintro e w' ⟨rfl, rfl⟩) | (go_at_call 37; refine HMax'.out.mono ?_; rintro e w' ⟨rfl, rfl⟩))
    go_ret
    exact ⟨rfl, rfl⟩
  by_cases h5 : M = 0
  · rw [if_pos (by omega)]
    go_enter Tryd.func13, Tryd.ntmps13
    go_wp2_with (first | (go_at_call 36; refine HMin'.out.mono ?_; rintro e w' ⟨rfl, rfl⟩) | (go_at_call 37; refine HMax'.out.mono ?_; rintro e w' ⟨rfl, rfl⟩))
    go_ret
    exact ⟨rfl, rfl⟩
  · rw [if_neg (by omega)]
    have h5b : (M == 0) = false := by simp [h5]
    go_enter Tryd.func13, Tryd.ntmps13
    go_wp2_with (first | (go_at_call 36; refine HMin'.out.mono ?_; rintro e w' ⟨rfl, rfl⟩) | (go_at_call 37; refine HMax'.out.mono ?_; rintro e w' ⟨rfl, rfl⟩))
    go_ret
    exact ⟨rfl, rfl⟩
end Go.Proofs.YtdpbkpfdokgolaaDoor
