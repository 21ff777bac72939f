/- What the reference of chapter 6 computes: Hash, Digits, the points put in one by one. -/
import Derived.Test.YtdpbkpfdokgolaaDoorS2
import Derived.Test.YtdpbkpfdokgolaaDoorQ
set_option linter.unusedVariables false
set_option linter.unusedSimpArgs false
namespace Go.Proofs.YtdpbkpfdokgolaaDoor
open Go.RowKit Go.Proofs.YtdpbkpfdokgolaaDoorW.PrintWords Go.Sort
open Go.Proofs.YtdpbkpfdokgolaaDoor.PRingPoints

theorem w64_succ (j : Nat) (h : j < 9223372036854775807) : wrap64 ((j : Int) + 1) = ((j + 1 : Nat) : Int) := by
  unfold wrap64; omega

theorem ev_hash_l (s : ByteArray) (hs : s.size ≤ 9223372036854775807) : ∀ d k, k + d = s.size → Ev (fun n => skylarkref06_Hash.l0 n s (hpre s k) (k : Int)) (hashOf s)
  | 0, k, h => by
    refine Ev.step (f := fun _ => some (hashOf s)) (fun n => ?_) (Ev.now _)
    obtain rfl : k = s.size := by omega
    rw [skylarkref06_Hash.l0, if_neg (by omega)]
    rfl
  | d + 1, k, h => by
    refine Ev.step (f := fun n => skylarkref06_Hash.l0 n s (hpre s (k + 1)) ((k + 1 : Nat) : Int)) (fun n => ?_) (ev_hash_l s hs d (k + 1) (by omega))
    rw [skylarkref06_Hash.l0, if_pos (by omega), if_pos (by omega), w64_succ k (by omega)]
    rfl
theorem ev_hash (s : ByteArray) (hs : s.size ≤ 9223372036854775807) : Ev (fun n => skylarkref06_Hash.f n s) (hashOf s) := ev_hash_l s hs s.size 0 (by omega)

theorem digits_small : ∀ i : Nat, i < 128 → skylarkref06_Digits.f 5 (i : Int) = some ⟨(Lib.itoa (i : Int)).toArray⟩ := by decide +kernel
theorem dec_itoa : ∀ i : Nat, i < 8 → Lib.itoa (i : Int) = Lib.decDigits i := by decide +kernel
theorem ev_digits (i : Nat) (hi : i < 128) : Ev (fun n => skylarkref06_Digits.f n (i : Int)) ⟨(Lib.itoa (i : Int)).toArray⟩ := Ev.of (fun k => skylarkref06_Digits.mono _ k) (digits_small i hi)

def toS (x : Pt) : S88 := ⟨x.at_, x.c⟩
/-- The point put in behind those that are not greater. -/
def ins (G : List Pt) (p : Pt) : List Pt := G.takeWhile (fun x => decide (x.at_ ≤ p.at_)) ++ [p] ++ G.dropWhile (fun x => decide (x.at_ ≤ p.at_))
def posOf (G : List Pt) (h : Int) : Nat := (G.takeWhile (fun x => decide (x.at_ ≤ h))).length
theorem pos_le (G : List Pt) (h : Int) : posOf G h ≤ G.length := (List.takeWhile_sublist _).length_le
theorem take_pos (G : List Pt) (h : Int) : G.take (posOf G h) = G.takeWhile (fun x => decide (x.at_ ≤ h)) :=
  (congrArg (List.take (posOf G h)) (List.takeWhile_append_dropWhile (p := fun x : Pt => decide (x.at_ ≤ h)) (l := G)).symm).trans (List.take_left' rfl)
theorem drop_pos (G : List Pt) (h : Int) : G.drop (posOf G h) = G.dropWhile (fun x => decide (x.at_ ≤ h)) :=
  (congrArg (List.drop (posOf G h)) (List.takeWhile_append_dropWhile (p := fun x : Pt => decide (x.at_ ≤ h)) (l := G)).symm).trans (List.drop_left' rfl)
theorem pos_lt {G : List Pt} {h : Int} {j : Nat} (hj : j < posOf G h) : (G.getD j default).at_ ≤ h := by
  have h1 : j < G.length := Nat.lt_of_lt_of_le hj (pos_le G h)
  have h2 : G[j] ∈ G.takeWhile (fun x => decide (x.at_ ≤ h)) := by
    rw [← take_pos]
    exact List.mem_take_iff_getElem.2 ⟨j, by omega, rfl⟩
  have h3 := List.all_eq_true.1 List.all_takeWhile _ h2
  simp [List.getD, h1] 
  simpa using h3
theorem pos_at {G : List Pt} {h : Int} (hj : posOf G h < G.length) : h < (G.getD (posOf G h) default).at_ := by
  have h1 : G.drop (posOf G h) = G.getD (posOf G h) default :: G.drop (posOf G h + 1) := by
    rw [List.drop_eq_getElem_cons hj]
    simp [List.getD, hj]
  rw [drop_pos] at h1
  have h2 := List.head?_dropWhile_not (fun x : Pt => decide (x.at_ ≤ h)) G
  rw [h1] at h2
  simpa using h2
theorem rd_toS (G : List Pt) (j : Nat) : (rd_T88 (G.map toS) (j : Int)).f0 = (G.getD j default).at_ := by
  simp only [rd_T88, Int.toNat_natCast, List.getD, List.getElem?_map]
  cases G[j]? <;> rfl
theorem ins_len (G : List Pt) (p : Pt) : (ins G p).length = G.length + 1 := by
  have := congrArg List.length (List.takeWhile_append_dropWhile (p := fun x : Pt => decide (x.at_ ≤ p.at_)) (l := G))
  simp only [ins, List.length_append, List.length_singleton] at this ⊢
  omega

theorem ev_l2 (ws : List Int) (G : List Pt) (p : Pt) (c i : Int) (r : List S88) (hG : G.length ≤ 2000)
    (hk : Ev (fun n => skylarkref06_All.l1 n ws ((ins G p).map toS) c (wrap64 (i + 1))) r) : ∀ d j, j + d = posOf G p.at_ → Ev (fun n => skylarkref06_All.l2 n ws (G.map toS) c i (j : Int) p.at_ p.c) r
  | d + 1, j, h => by
    have h1 := pos_le G p.at_
    refine Ev.step (f := fun n => skylarkref06_All.l2 n ws (G.map toS) c i ((j + 1 : Nat) : Int) p.at_ p.c) (fun n => ?_) (ev_l2 ws G p c i r hG hk d (j + 1) (by omega))
    rw [skylarkref06_All.l2, if_pos (by rw [List.length_map]; omega), if_pos (by omega), if_pos (by rw [rd_toS]; exact pos_lt (by omega)), w64_succ j (by omega)]
  | 0, j, h => by
    have h1 := pos_le G p.at_
    obtain rfl : j = posOf G p.at_ := by omega
    refine Ev.step (f := fun n => skylarkref06_All.l1 n ws ((ins G p).map toS) c (wrap64 (i + 1))) (fun n => ?_) hk
    have he : ([] ++ (G.map toS).take (posOf G p.at_)) ++ [(⟨p.at_, p.c⟩ : S88)] ++ (G.map toS).drop (posOf G p.at_) = (ins G p).map toS := by
      rw [← List.map_take, ← List.map_drop, take_pos, drop_pos]
      simp [ins, toS]
    have hl1 : ((G.map toS).take (posOf G p.at_)).length ≤ 2000 := by rw [List.length_take, List.length_map]; omega
    have hl2 : ((G.map toS).drop (posOf G p.at_)).length ≤ 2000 := by rw [List.length_drop, List.length_map]; omega
    by_cases hlt : posOf G p.at_ < G.length
    · rw [skylarkref06_All.l2, if_pos (by rw [List.length_map]; omega), if_pos (by omega), if_neg (by rw [rd_toS]; have := pos_at hlt; omega), if_pos (by rw [List.length_map]; omega)]
      simp only [Int.toNat_natCast, Option.bind_some]
      rw [if_pos (by simp only [List.length_nil]; omega), if_pos (by simp only [List.nil_append]; omega), if_pos (by simp only [List.nil_append, List.length_append, List.length_singleton]; omega), he]
    · rw [skylarkref06_All.l2, if_neg (by rw [List.length_map]; omega), if_pos (by omega), if_pos (by rw [List.length_map]; omega)]
      simp only [Int.toNat_natCast, Option.bind_some]
      rw [if_pos (by simp only [List.length_nil]; omega), if_pos (by simp only [List.nil_append]; omega), if_pos (by simp only [List.nil_append, List.length_append, List.length_singleton]; omega), he]
end Go.Proofs.YtdpbkpfdokgolaaDoor
