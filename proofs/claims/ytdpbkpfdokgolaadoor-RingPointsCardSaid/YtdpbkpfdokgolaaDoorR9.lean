/- The ring in order; Of: a key's chain by weights. -/
import Derived.Test.YtdpbkpfdokgolaaDoorR8
set_option linter.unusedVariables false
set_option linter.unusedSimpArgs false
namespace Go.Proofs.YtdpbkpfdokgolaaDoor
open Go.RowKit Go.Proofs.YtdpbkpfdokgolaaDoorW.PrintWords Go.Sort

/-- Not greater, in the points' order. -/
def lePt (x y : Pt) : Prop := ¬ ltPt y x
theorem ring_pairwise (ws : List Int) : (ringOf ws).Pairwise lePt := by
  have h1 := List.pairwise_mergeSort (le := fun x y : Pt => !(ltOf cfPt) y x)
    (by intro a b c; simp only [ltOf_cfPt, Bool.not_eq_true', decide_eq_false_iff_not]; unfold ltPt; omega)
    (by intro a b; simp only [ltOf_cfPt, Bool.or_eq_true, Bool.not_eq_true', decide_eq_false_iff_not]; unfold ltPt; omega) (ptsW ws)
  refine List.Pairwise.imp ?_ h1
  intro a b h
  unfold lePt
  simpa [ltOf_cfPt] using h
theorem ring_sorted (ws : List Int) (a b : Nat) (h : a ≤ b) (hb : b < (ringOf ws).length) : ((ringOf ws).getD a default).at_ ≤ ((ringOf ws).getD b default).at_ := by
  rcases Nat.lt_or_ge a b with hlt | hge
  · have := List.pairwise_iff_getElem.1 (ring_pairwise ws) a b (by omega) hb hlt
    simp only [List.getD, List.getElem?_eq_getElem (show a < (ringOf ws).length by omega), List.getElem?_eq_getElem hb, Option.getD_some]
    unfold lePt ltPt at this
    omega
  · obtain rfl : a = b := by omega
    exact Int.le_refl _
theorem preP_pos {ws : List Int} (q : Nat) (hq : 0 < wAt ws q) : ∀ c, q < c → 0 < (preP ws c).length
  | 0, h => by omega
  | c + 1, h => by
    rw [preP_succ, List.length_append, rowP_len]
    rcases Nat.lt_or_ge q c with h1 | h1
    · have := preP_pos q hq c h1; omega
    · obtain rfl : q = c := by omega
      omega
theorem ring_pos {ws : List Int} (h : MayW ws) : 0 < (ringOf ws).length := by
  obtain ⟨_, _, h3, x, hx, hne⟩ := h
  obtain ⟨q, hq, rfl⟩ := List.getElem_of_mem hx
  have h4 := h3 _ hx
  rw [ringOf, List.length_mergeSort]
  refine preP_pos q ?_ _ hq
  unfold wAt
  simp only [List.getD, List.getElem?_eq_getElem hq, Option.getD_some]
  omega

def OfPost (ws : List Int) (s : ByteArray) (w : World) : Ending → World → Prop := fun e w' =>
  (¬ MayW ws ∧ e = .returned (.tuple #[.int .i64 0, .int .i64 1]) ∧ w' = w) ∨
  (MayW ws ∧ ∃ i, e = .returned (.tuple #[.int .i64 (chainAt (ringOf ws) i), .int .i64 0]) ∧ Cut (ringOf ws) (hashOf s) i ∧ Below w.heap.size w w')

set_option maxHeartbeats 2000000 in
set_option maxRecDepth 20000 in
theorem ofW_any (A : Option Addr) (c : Nat) (ws : List Int) (s : ByteArray) (w : World) (hC : (Kd.int .i64).C w A ws.length ws) (hbig : ws.length ≤ 9223372036854775807) (hsz : s.size ≤ 9223372036854775807) (htab : Lib.TabIs Tryd.prog w "internal/strconv.uint64pow10" .u64 Lib.pow10Tab) :
    Calls Tryd.prog 17 #[.slice A ws.length c, .string s] w (OfPost ws s w) := by
  have HMd := Lib.hid (made_any A c ws w hC hbig htab)
  have hl : (pubOf ws).length ≤ 1024 := pub_len ws
  clear hC htab
  by_cases hm : MayW ws
  · rw [pubOf, if_pos hm] at hl
    have HOF := Lib.hid (fun A' c' w1 (hR : kPt.C w1 A' (ringOf ws).length (ringOf ws)) => of_any A' c' (ringOf ws) s w1 hR (ring_pos hm) hl (ring_sorted ws) hsz)
    have HM := Lib.hid hm
    clear hm
    go_enter Tryd.func17, Tryd.ntmps17
    go_wp2_with fail
    refine HMd.out.mono ?_
    rintro e w1 (⟨hno, _⟩ | ⟨_, v, rfl, ho, hb⟩)
    · exact absurd HM.out hno
    obtain ⟨A', c', rfl, hR⟩ := own_row ho
    have HCalls := Lib.hid (HOF.out A' c' w1 hR)
    have HB := Lib.hid hb
    clear ho hb hR HOF HMd
    go_wp2_with (go_at_call 38; refine HCalls.out.mono ?_; rintro e w2 ⟨i, rfl, hcut, hb2⟩; have HCut := Lib.hid hcut; have HB2 := Lib.hid hb2; clear hcut hb2)
    go_ret2
    exact Or.inr ⟨HM.out, i, rfl, HCut.out, HB.out.trans (HB2.out.mono HB.out.size)⟩
  · go_enter Tryd.func17, Tryd.ntmps17
    go_wp2_with fail
    refine HMd.out.mono ?_
    rintro e w1 (⟨_, rfl, rfl⟩ | ⟨hmm, _⟩)
    · go_wp2
      go_ret2
      exact Or.inl ⟨hm, rfl, rfl⟩
    · exact absurd hmm hm
end Go.Proofs.YtdpbkpfdokgolaaDoor
