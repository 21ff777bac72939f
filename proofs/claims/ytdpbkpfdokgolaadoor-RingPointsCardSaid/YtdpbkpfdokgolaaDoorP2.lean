/- The reference's points are the ring's. -/
import Derived.Test.YtdpbkpfdokgolaaDoorP1
set_option linter.unusedVariables false
set_option linter.unusedSimpArgs false
namespace Go.Proofs.YtdpbkpfdokgolaaDoor
open Go.RowKit Go.Proofs.YtdpbkpfdokgolaaDoorW.PrintWords Go.Sort
open Go.Proofs.YtdpbkpfdokgolaaDoor.PRingPoints

def insL (ps : List Pt) : List Pt := ps.foldl ins []
theorem insL_snoc (ps : List Pt) (p : Pt) : insL (ps ++ [p]) = ins (insL ps) p := by simp [insL]
theorem foldl_ins_len (ps : List Pt) : ∀ G : List Pt, (ps.foldl ins G).length = G.length + ps.length := by
  induction ps with
  | nil => intro G; simp
  | cons p r ih => intro G; rw [List.foldl_cons, ih, ins_len, List.length_cons]; omega
theorem insL_len (ps : List Pt) : (insL ps).length = ps.length := by rw [insL, foldl_ins_len]; simp

theorem label_it (c i : Nat) (hc : c < 8) : ((⟨(Lib.itoa (c : Int)).toArray⟩ : ByteArray) ++ (⟨#[46]⟩ : ByteArray)) ++ ⟨(Lib.itoa (i : Int)).toArray⟩ = label c i := by
  rw [dec_itoa c hc]; rfl

theorem ev_l1 (ws : List Int) (hm : MayW ws) (c : Nat) (hc : c < ws.length) (r : List S88) (hk : Ev (fun n => skylarkref06_All.l0 n ws ((insL (preP ws (c + 1))).map toS) ((c + 1 : Nat) : Int)) r) :
    ∀ d i, i + d = wAt ws c → Ev (fun n => skylarkref06_All.l1 n ws ((insL (preP ws c ++ rowP c i)).map toS) (c : Int) (i : Int)) r := by
  have hw := hm.2.2.1 (ws.getD c 0) (by simp [List.getD, hc])
  have hrd : YtdpbkpfdokgolaaDoorW.PrintWords.rd ws (c : Int) = ws.getD c 0 := rfl
  have hwa : ws.getD c 0 = (wAt ws c : Int) := by unfold wAt; omega
  have h8 : ws.length ≤ 8 := hm.2.1
  intro d
  induction d with
  | zero =>
    intro i hi
    obtain rfl : i = wAt ws c := by omega
    refine Ev.step (f := fun n => skylarkref06_All.l0 n ws ((insL (preP ws (c + 1))).map toS) ((c + 1 : Nat) : Int)) (fun n => ?_) hk
    rw [skylarkref06_All.l1, if_pos (by omega), if_pos (by omega), if_neg (by rw [hrd, hwa]; omega), w64_succ c (by omega), preP_succ]
  | succ d ih =>
    intro i hi
    have hi128 : i < 128 := by omega
    have hl1 : (insL (preP ws c ++ rowP c i)).length ≤ 2000 := by
      rw [insL_len, List.length_append, rowP_len]
      have := preP_len hm.2.2.1 c (by omega)
      omega
    have hnext := ih (i + 1) (by omega)
    rw [rowP_succ, ← List.append_assoc, insL_snoc] at hnext
    have h2 := ev_l2 ws (insL (preP ws c ++ rowP c i)) (ptAt c i) (c : Int) (i : Int) r hl1 (by rw [w64_succ i (by omega)]; exact hnext) (posOf (insL (preP ws c ++ rowP c i)) (ptAt c i).at_) 0 (by omega)
    have hls := label_size c i (by omega) hi128
    have hd1 := dec_len c (by omega)
    have hd2 := itoa_len i hi128
    have hs1 : (⟨(Lib.itoa (c : Int)).toArray⟩ : ByteArray).size + 1 ≤ 9223372036854775807 := by
      rw [dec_itoa c (by omega)]
      show (Lib.decDigits c).toArray.size + 1 ≤ _
      simp only [List.size_toArray]; omega
    have hs2 : ((⟨(Lib.itoa (c : Int)).toArray⟩ : ByteArray) ++ (⟨#[46]⟩ : ByteArray)).size + (⟨(Lib.itoa (i : Int)).toArray⟩ : ByteArray).size ≤ 9223372036854775807 := by
      have h := label_it c i (by omega)
      rw [← ByteArray.size_append, h]
      exact hls
    refine Ev.step (f := fun n => (skylarkref06_Digits.f n (c : Int)).bind fun t139 => (if t139.size + 1 ≤ 9223372036854775807 then ((skylarkref06_Digits.f n (i : Int)).bind fun t140 => (if (t139 ++ (⟨#[46]⟩ : ByteArray)).size + t140.size ≤ 9223372036854775807 then ((skylarkref06_Hash.f n ((t139 ++ (⟨#[46]⟩ : ByteArray)) ++ t140)).bind fun t141 => (skylarkref06_All.l2 n ws ((insL (preP ws c ++ rowP c i)).map toS) (c : Int) (i : Int) 0 t141 (c : Int))) else (none))) else (none))) (fun n => ?_) ?_
    · rw [skylarkref06_All.l1, if_pos (by omega), if_pos (by omega), if_pos (by rw [hrd, hwa]; omega)]
    · refine Ev.bind (ev_digits c (by omega)) ?_
      simp only [if_pos hs1]
      refine Ev.bind (ev_digits i hi128) ?_
      simp only [if_pos hs2]
      rw [label_it c i (by omega)]
      exact Ev.bind (ev_hash (label c i) hls) h2

theorem ev_l0 (ws : List Int) (hm : MayW ws) : ∀ d c, c + d = ws.length → Ev (fun n => skylarkref06_All.l0 n ws ((insL (preP ws c)).map toS) (c : Int)) ((insL (ptsW ws)).map toS)
  | 0, c, h => by
    obtain rfl : c = ws.length := by omega
    refine Ev.step (f := fun _ => some ((insL (ptsW ws)).map toS)) (fun n => ?_) (Ev.now _)
    rw [skylarkref06_All.l0, if_neg (by omega)]
    rfl
  | d + 1, c, h => by
    refine Ev.step (f := fun n => skylarkref06_All.l1 n ws ((insL (preP ws c)).map toS) (c : Int) ((0 : Nat) : Int)) (fun n => ?_) ?_
    · rw [skylarkref06_All.l0, if_pos (by omega)]; rfl
    · have := ev_l1 ws hm c (by omega) _ (ev_l0 ws hm d (c + 1) (by omega)) (wAt ws c) 0 (by omega)
      simpa [rowP] using this
theorem ev_all (ws : List Int) (hm : MayW ws) : Ev (fun n => skylarkref06_All.f n ws) ((insL (ptsW ws)).map toS) := ev_l0 ws hm ws.length 0 (by omega)

/-! ### Put in one by one is in order -/
def ltCI (x y : Pt) : Prop := x.c < y.c ∨ (x.c = y.c ∧ x.i < y.i)
theorem ins_perm (G : List Pt) (p : Pt) : (ins G p).Perm (p :: G) := by
  unfold ins
  refine (List.perm_append_comm.append_right _).trans ?_
  rw [List.singleton_append, List.cons_append, List.takeWhile_append_dropWhile]
theorem insL_perm (ps : List Pt) : (insL ps).Perm ps := by
  suffices h : ∀ G : List Pt, (ps.foldl ins G).Perm (G ++ ps) by
    show (ps.foldl ins []).Perm ps
    simpa using h []
  induction ps with
  | nil => intro G; simp
  | cons p r ih =>
    intro G
    rw [List.foldl_cons]
    refine (ih _).trans ?_
    refine ((ins_perm G p).append_right r).trans ?_
    rw [List.cons_append]
    exact List.perm_middle.symm
theorem ins_pairwise {G : List Pt} {p : Pt} (h : G.Pairwise lePt) (hlt : ∀ x ∈ G, ltCI x p) : (ins G p).Pairwise lePt := by
  have hsplit := List.takeWhile_append_dropWhile (p := fun x : Pt => decide (x.at_ ≤ p.at_)) (l := G)
  have hG := h
  rw [← hsplit, List.pairwise_append] at hG
  obtain ⟨h1, h2, h3⟩ := hG
  have hA : ∀ x ∈ G.takeWhile (fun x => decide (x.at_ ≤ p.at_)), lePt x p := by
    intro x hx
    have h4 := List.all_eq_true.1 List.all_takeWhile _ hx
    have h5 := hlt x ((List.takeWhile_sublist _).subset hx)
    simp only [decide_eq_true_eq] at h4
    unfold lePt ltPt
    unfold ltCI at h5
    omega
  have hB : ∀ x ∈ G.dropWhile (fun x => decide (x.at_ ≤ p.at_)), p.at_ < x.at_ := by
    intro x hx
    cases hd : G.dropWhile (fun x => decide (x.at_ ≤ p.at_)) with
    | nil => rw [hd] at hx; simp at hx
    | cons y r =>
      have h6 := List.head?_dropWhile_not (fun x : Pt => decide (x.at_ ≤ p.at_)) G
      rw [hd] at h6 h2 hx
      have h7 : p.at_ < y.at_ := by simpa using h6
      rcases List.mem_cons.1 hx with rfl | hx
      · exact h7
      · have h8 := (List.pairwise_cons.1 h2).1 x hx
        unfold lePt ltPt at h8
        omega
  unfold ins
  rw [List.append_assoc, List.pairwise_append]
  refine ⟨h1, ?_, ?_⟩
  · rw [List.singleton_append, List.pairwise_cons]
    refine ⟨fun x hx => ?_, h2⟩
    have := hB x hx
    unfold lePt ltPt
    omega
  · intro x hx y hy
    rw [List.singleton_append, List.mem_cons] at hy
    rcases hy with rfl | hy
    · exact hA x hx
    · exact h3 x hx y hy
theorem foldl_pairwise (ps : List Pt) (hp : ps.Pairwise ltCI) : ∀ G : List Pt, G.Pairwise lePt → (∀ x ∈ G, ∀ p ∈ ps, ltCI x p) → (ps.foldl ins G).Pairwise lePt := by
  induction ps with
  | nil => intro G h _; exact h
  | cons p r ih =>
    intro G h hlt
    rw [List.pairwise_cons] at hp
    rw [List.foldl_cons]
    refine ih hp.2 _ (ins_pairwise h fun x hx => hlt x hx p (by simp)) fun x hx q hq => ?_
    rcases List.mem_cons.1 ((ins_perm G p).subset hx) with rfl | hx
    · exact hp.1 q hq
    · exact hlt x hx q (by simp [hq])
theorem row_pairwise (c n : Nat) : (rowP c n).Pairwise ltCI := by
  unfold rowP
  rw [List.pairwise_map]
  refine List.Pairwise.imp ?_ List.pairwise_lt_range
  intro a b h
  exact Or.inr ⟨rfl, by show (a : Int) < b; omega⟩
theorem pre_pairwise (ws : List Int) : ∀ c, (preP ws c).Pairwise ltCI ∧ ∀ x ∈ preP ws c, x.c < c
  | 0 => by simp [preP]
  | c + 1 => by
    obtain ⟨h1, h2⟩ := pre_pairwise ws c
    rw [preP_succ]
    have h3 : ∀ x ∈ rowP c (wAt ws c), x.c = c := fun x hx => by
      rw [rowP, List.mem_map] at hx
      obtain ⟨i, _, rfl⟩ := hx
      rfl
    refine ⟨List.pairwise_append.2 ⟨h1, row_pairwise _ _, fun x hx y hy => Or.inl ?_⟩, fun x hx => ?_⟩
    · rw [h3 y hy]; exact h2 x hx
    · rcases List.mem_append.1 hx with hx | hx
      · have := h2 x hx; omega
      · have := h3 x hx; omega
theorem insL_ring (ws : List Int) : insL (ptsW ws) = ringOf ws := by
  have h1 : (insL (ptsW ws)).Pairwise lePt := foldl_pairwise _ (pre_pairwise ws _).1 [] List.Pairwise.nil (by simp)
  have hp : (insL (ptsW ws)).Perm (ringOf ws) := (insL_perm _).trans (List.mergeSort_perm _ _).symm
  refine List.Perm.eq_of_pairwise ?_ h1 (ring_pairwise ws) hp
  intro a b _ _ h2 h3
  exact totPt a b (by rw [ltOf_cfPt]; exact decide_eq_false h3) (by rw [ltOf_cfPt]; exact decide_eq_false h2)
end Go.Proofs.YtdpbkpfdokgolaaDoor
