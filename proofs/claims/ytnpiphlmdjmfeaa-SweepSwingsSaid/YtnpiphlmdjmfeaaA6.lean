/- once: places, each once, in order. -/
import Derived.Test.YtnpiphlmdjmfeaaA5
set_option linter.unusedVariables false
set_option linter.unusedSimpArgs false
namespace Go.Proofs.Ytnpiphlmdjmfeaa
open Go.RowKit Go.Proofs.YtnpiphlmdjmfeaaW.PrintWords

theorem compact_any (base : Nat) (v : Value) (xs : List Pl) (w : World) (hown : w.ownsRow base 60 3 v xs.length (xs.flatMap encPl)) (hsz : xs.length < 4611686018427387904) :
    Calls Try.prog 21 #[v] w (CompactPost base v xs w) := by
  by_cases hl : xs.length < 2
  · exact compact_short base v xs w hown hl
  · obtain ⟨g, cap, rfl, _, hc⟩ := hown.form (by omega)
    exact compact_long base g cap xs.length xs w rfl hown (by omega) hsz (own_le hown)

/-- Element k of a slice of places that came in, as the walk meets its cells. -/
theorem pl_at {w : World} {A : Option Addr} {n : Nat} {xs : List Pl} (h : kPl.C w A n xs) (k : Nat) (hk : k < n) :
    ∃ ad, A = some ad ∧ w.cell? (ad.add (k * 3)) = some (.int .i64 (xs.getD k default).f) ∧ w.cell? ⟨(ad.add (k * 3)).block, (ad.add (k * 3)).off + 1, none⟩ = some (.int .i64 (xs.getD k default).a) ∧ w.cell? ⟨(ad.add (k * 3)).block, (ad.add (k * 3)).off + 2, none⟩ = some (.int .i64 (xs.getD k default).l) := by
  obtain ⟨ad, e, hc⟩ := flat_at h default (k : Int) (by omega) (by omega)
  have hc' : ∀ j u, (encPl (xs.getD k default))[j]? = some u → w.cell? (ad.add (k * 3 + j)) = some u := hc
  exact ⟨ad, e, hc' 0 _ rfl, by rw [← add_field _ _ 1 (by omega)]; exact hc' 1 _ rfl, by rw [← add_field _ _ 2 (by omega)]; exact hc' 2 _ rfl⟩

theorem info60 : (Try.prog.info? 60).map (fun i => (i.zero, i.size, i.bytes)) = some (some (.agg #[.int .i64 0, .int .i64 0, .int .i64 0]), 3, 24) := by kernel_rfl

/-- The places of live, in order, each once. -/
def onceF (l : List Pl) : List Pl := dd (l.mergeSort fun x y => !(ltOf cfPl) y x)

def OncePost (l : List Pl) (w : World) (e : Ending) (w' : World) : Prop :=
  ∃ v, e = .returned (.tuple #[v, .int .i64 0]) ∧ w'.ownsRow w.heap.size 60 3 v (onceF l).length ((onceF l).flatMap encPl) ∧ Below w.heap.size w w'

set_option maxRecDepth 20000 in
set_option maxHeartbeats 1000000 in
theorem once_long (A : Option Addr) (c n : Nat) (w : World) (h : 4096 < n) :
    Calls Try.prog 13 #[.slice A n c] w fun e w' => e = .returned (.tuple #[.slice none 0 0, .int .i64 2]) ∧ Below w.heap.size w w' := by
  go_enter Try.func13, Try.ntmps13
  go_wp2
  go_ret2
  exact ⟨rfl, Below.refl _ _⟩

set_option maxRecDepth 20000 in
set_option maxHeartbeats 1000000 in
theorem once_any (A : Option Addr) (c : Nat) (l : List Pl) (n : Nat) (w : World) (hn : l.length = n) (hr : kPl.C w A n l) (h : n ≤ 4096) :
    Calls Try.prog 13 #[.slice A n c] w (OncePost l w) := by
  have HR := Lib.hid hr
  have HN := Lib.hid hn
  clear hr hn
  go_enter Try.func13, Try.ntmps13
  go_wp2
  go_loopw [4, 12] (fun s4 s12 wr => ∃ k : Nat, k ≤ n ∧ s12 = .int .i64 k ∧ Hid (wr.ownsRow w.heap.size 60 3 s4 k ((l.take k).flatMap encPl)) ∧ Below w.heap.size w wr) (fun _ s12 _ => n - (intOf s12).toNat)
  case atStart => exact ⟨0, Nat.zero_le _, rfl, own_nil _ _ _ _, Below.refl _ _⟩
  case round =>
    obtain ⟨k, hk, rfl, HO, hb⟩ := hrel
    by_cases hlt : k < n
    · obtain ⟨ad, rfl, c0, c1, c2⟩ := pl_at (Kd.C_below HR.out hb) k hlt
      generalize hx : l.getD k default = x at c0 c1 c2
      have HX := Lib.hid hx
      have HB := Lib.hid hb
      clear hx hb
      go_wp2_with (at_builtin; go_loud (refine print_append_cells (w0 := w) w.heap.size rfl (.tmp 16) (.tmp 18) 50 60 (.agg #[.int .i64 0, .int .i64 0, .int .i64 0]) 3 24 rfl Try.underlying50 info60 rfl (by decide) (by decide) _ k ((l.take k).flatMap encPl) (encPl x) rfl ?aX rfl (encPl_one x) ?aO ?aB ?aS ?aL ?_; rotate_left 5; intro v1 w1 hown1 hb1 hg1 hat1; have HO1 := Lib.hid hown1; have HB1 := Lib.hid hb1; clear hown1 hb1 hg1 hat1))
      case aX => simp [Act.eval]
      case aO => exact HO.out.alloc _
      case aB => exact HB.out.alloc HB.out.size _
      case aS => have := HB.out.size; simp; omega
      case aL => omega
      go_roundw
      case rel =>
        refine ⟨k + 1, by omega, by go_num, ?_, HB1.out⟩
        rw [List.take_succ_eq_append_getElem (show k < l.length by rw [HN.out]; exact hlt), List.flatMap_append, List.flatMap_cons, List.flatMap_nil, List.append_nil]
        have e : l[k]'(by rw [HN.out]; exact hlt) = x := by
          have := HX.out
          rw [List.getD_eq_getElem?_getD, List.getElem?_eq_getElem (show k < l.length by rw [HN.out]; exact hlt)] at this
          exact this
        rw [e]
        exact HO1.out
      case measure => simp [intOf]; omega
    · have hend : k = n := by omega
      subst hend
      have HO1 : Hid (wr.ownsRow w.heap.size 60 3 u4 l.length (l.flatMap encPl)) := by
        have := HO.out
        rw [← HN.out, List.take_length] at this
        exact this
      have HB := Lib.hid hb
      clear HO hb
      go_wp2_with fail
      refine (sortPl_any w.heap.size u4 l wr HO1.out (by rw [HN.out]; omega)).mono ?_
      rintro e w1 ⟨rfl, ho1, hg1⟩
      have HO2 := Lib.hid ho1
      have HB2 : Hid (Below w.heap.size w w1) := HB.out.grown hg1 HB.out.size (own_base HO1.out)
      clear ho1 hg1
      go_wp2_with fail
      refine (compact_any w.heap.size u4 (l.mergeSort fun x y => !(ltOf cfPl) y x) w1 (by rw [List.length_mergeSort]; exact HO2.out) (by rw [List.length_mergeSort, HN.out]; omega)).mono ?_
      rintro e w2 ⟨v2, rfl, ho2, hg2, -⟩
      have HO3 := Lib.hid ho2
      have HB3 : Hid (Below w.heap.size w w2) := HB2.out.grown hg2 HB2.out.size (own_base HO2.out)
      clear ho2 hg2
      go_wp2
      go_ret2
      exact ⟨v2, rfl, HO3.out, HB3.out⟩
end Go.Proofs.Ytnpiphlmdjmfeaa
