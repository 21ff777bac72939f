/- slices.Backward over moves: what it yields. -/
import Derived.Test.YtnpiphlmdjmfeaaC1
import Derived.RangeFuncNested
import Derived.RangeFuncBound
import Derived.RangeFuncCalls
import Derived.RangeFuncLeaves
import Derived.Shelf.Abstract
import Derived.Shelf.RegionOpen
import Derived.WalkKit
import Derived.OwnWalkIn
import Derived.TacticsInMore
import Derived.LoopNIn
import Derived.LoopIn
set_option linter.unusedVariables false
set_option linter.unusedSimpArgs false
namespace Go.Proofs.Ytnpiphlmdjmfeaa
open Go.RowKit Go.Shelf Go.Proofs.YtnpiphlmdjmfeaaW.PrintWords Go.Maps

attribute [local go_sem] Oper.semAt_some

/-- A move and its place in the row. -/
abbrev MvI := { x : Nat × Mv // wfMv x.2 }
def encI (x : MvI) : Array Value := #[.int .i64 (x.1.1 : Int), .agg #[.int .i64 x.1.2.s.f, .int .i64 x.1.2.s.a, .int .i64 x.1.2.s.l, .int .i64 x.1.2.t.f, .int .i64 x.1.2.t.a, .int .i64 x.1.2.t.l]]
/-- The moves that have come when those ahead of m are left. -/
def CameF (ms : List Mv) (m : Nat) (pre : List MvI) : Prop := pre.reverse.map (fun x => x.1.2) = ms.drop m ∧ pre.length + m = ms.length

/-- What a round keeps: what lay below n₀, and the box that the closure has captured. -/
def KpB (n₀ Bs : Nat) (W W' : World) : Prop := Below n₀ W W' ∧ ∀ v, W.cell? ⟨Bs, 0, none⟩ = some v → W'.cell? ⟨Bs, 0, none⟩ = some v
theorem KpB.trans {n₀ Bs : Nat} {A B C : World} (h : KpB n₀ Bs A B) (k : KpB n₀ Bs B C) : KpB n₀ Bs A C := ⟨h.1.trans k.1, fun v hv => k.2 v (h.2 v hv)⟩
theorem KpB.putObj {n₀ Bs : Nat} {w : World} (hn : n₀ ≤ w.heap.size) (W : World) (l : Nat) (o o' : Obj) (hl : w.heap.size ≤ l) (h : W.heap[l]? = some o) (hc : o.isCells = false) (hw : o.isWalk = false) : KpB n₀ Bs W (W.putObj l o') :=
  ⟨belowK_b hn W l o o' hl h hc hw, fun v hv => cell_kept hv (grownBy_putObj' W l o') (fun r e => by cases e; exact ⟨o, h, hc⟩)⟩

set_option maxRecDepth 100000 in
set_option maxHeartbeats 2000000 in
theorem back1_in (F : Fence) (n : Nat) (h22 : F.fn 22) (hro : F.round = none) (hn : 1 ≤ n) (l Bs n₀ N cap : Nat) (A : Option Addr) (ms : List Mv) (hl : ms.length = N) (hN : N ≤ 4096) (hw : ∀ m ∈ ms, wfMv m) (hA : ∀ ad, A = some ad → 0 < N → ad.block < n₀) (J Jx : List MvI → World → Prop)
    (hY : ∀ pre x W, J pre W → pre.length < N → YieldAt F (n - 1) Try.prog l #[.int .i64 (x.1.1 : Int), .agg #[.int .i64 x.1.2.s.f, .int .i64 x.1.2.s.a, .int .i64 x.1.2.s.l, .int .i64 x.1.2.t.f, .int .i64 x.1.2.t.a, .int .i64 x.1.2.t.l]] W fun e W' =>
      (e = .returned (.bool true) ∧ J (pre ++ [x]) W' ∧ KpB n₀ Bs W W') ∨ (e = .returned (.bool false) ∧ Jx (pre ++ [x]) W'))
    (W : World) (hBs : W.cell? ⟨Bs, 0, none⟩ = some (.slice A N cap)) (hC : kMv.C W A N ms) (h0 : J [] W) :
    CallsIn F n Try.prog 22 #[.func (.yield l) #[] #[], .pointer (some ⟨Bs, 0, none⟩)] W fun e W' => (∃ v, e = .returned v) ∧
      ((∃ ys, CameF ms 0 ys ∧ J ys W') ∨ (∃ pre, (∃ m, CameF ms m pre) ∧ Jx pre W')) := by
  have HL := Lib.hid hl
  have HW := Lib.hid hw
  have HC := Lib.hid hC
  have HA := Lib.hid hA
  clear hl hw hC hA
  refine callsIn_of_wp Try.func22 rfl h22 ?_ hro
  simp only [Try.ntmps22, List.size_toArray, List.length_cons, List.length_nil, Nat.reduceAdd, Nat.reduceSub, Array.replicate_succ, Array.replicate_zero, List.push_toArray, List.append_toArray, List.nil_append, List.cons_append]
  gi_wp2
  gi_loopw [3] (fun i wr => ∃ (m : Nat) (pre : List MvI), m ≤ N ∧ i = .int .i64 ((m : Int) - 1) ∧ Hid (CameF ms m pre) ∧ J pre wr ∧ Hid (Below n₀ W wr) ∧ wr.cell? ⟨Bs, 0, none⟩ = some (.slice A N cap))
    (fun i _ => (intOf i + 1).toNat)
  case atStart => exact ⟨N, [], Nat.le_refl _, by first | rfl | simp, ⟨by simp [← HL.out], by simp [HL.out]⟩, h0, Below.refl _ _, hBs⟩
  case round =>
    obtain ⟨m, pre, hm, rfl, HP, hJs, HB, hbs⟩ := hrel
    rcases m with _ | q
    · rw [show (((0 : Nat) : Int) - 1) = -1 from rfl]
      gi_wp2
      go_end0
      exact ⟨⟨_, rfl⟩, .inl ⟨pre, HP.out, hJs⟩⟩
    · rw [show (((q + 1 : Nat) : Int) - 1) = (q : Int) by omega]
      obtain ⟨ad, rfl, c0, c1, c2, c3, c4, c5⟩ := mv_at HC.out q (by omega)
      have had := HA.out ad rfl (by omega)
      have hgo : ∀ j v, W.cell? ⟨(ad.add (q * 6)).block, j, none⟩ = some v → wr.cell? ⟨(ad.add (q * 6)).block, j, none⟩ = some v := fun j v h => (HB.out.cell (p := ⟨(ad.add (q * 6)).block, j, none⟩) (by rw [add_block]; exact had)).trans h
      have hgo0 : ∀ v, W.cell? (ad.add (q * 6)) = some v → wr.cell? (ad.add (q * 6)) = some v := fun v h => (HB.out.cell (p := ad.add (q * 6)) (by rw [add_block]; exact had)).trans h
      have d0 := hgo0 _ c0
      have d1 := hgo _ _ c1
      have d2 := hgo _ _ c2
      have d3 := hgo _ _ c3
      have d4 := hgo _ _ c4
      have d5 := hgo _ _ c5
      have hq : q < ms.length := by rw [HL.out]; omega
      have hwx : wfMv (ms.getD q default) := by
        apply HW.out
        rw [List.getD_eq_getElem?_getD, List.getElem?_eq_getElem hq]
        exact List.getElem_mem _
      have hdr : ms.drop q = ms.getD q default :: ms.drop (q + 1) := by
        rw [List.drop_eq_getElem_cons hq, List.getD_eq_getElem?_getD, List.getElem?_eq_getElem hq]
        rfl
      generalize ms.getD q default = x at d0 d1 d2 d3 d4 d5 hwx hdr
      have HD := Lib.hid hdr
      have hlen : pre.length < N := by have := HP.out.2; have := HL.out; omega
      have HNew : Hid (CameF ms q (pre ++ [⟨(q, x), hwx⟩])) := by
        have h := HP.out
        refine ⟨?_, ?_⟩
        · rw [List.reverse_append, List.reverse_singleton, List.singleton_append, List.map_cons, h.1, HD.out]
        · have := h.2
          rw [List.length_append]
          simp
          omega
      clear c0 c1 c2 c3 c4 c5 hgo hgo0 hdr HD
      obtain ⟨fn, tmps, assign, body, hy, hR⟩ := hY pre ⟨(q, x), hwx⟩ wr hJs hlen
      dsimp only at hy
      gi_wp2
      refine hR.mono ?_
      rintro e W3 (⟨rfl, hJ3, hk3⟩ | ⟨rfl, hJx3⟩)
      · have hbs3 := hk3.2 _ hbs
        have HB3 : Hid (Below n₀ W W3) := HB.out.trans hk3.1
        gi_wp2
        go_roundw
        case rel => exact ⟨q, _, by omega, by first | rfl | simp, HNew.out, hJ3, HB3.out, hbs3⟩
        case measure => simp [intOf]
      · gi_wp2
        refine bodyPost_ret (results_none rfl _ _ _) rfl ?_
        exact ⟨⟨_, rfl⟩, .inr ⟨_, ⟨q, HNew.out⟩, hJx3⟩⟩

set_option maxHeartbeats 1000000 in
/-- slices.Backward: the slice value is boxed; the function value captures the box. -/
theorem back_any (A : Option Addr) (N cap : Nat) (w : World) :
    Calls Try.prog 15 #[.slice A N cap] w fun e w' => e = .returned (.func (.func 22) #[] #[.pointer (some ⟨w.heap.size, 0, none⟩)]) ∧ w.alloc (.cells #[.slice A N cap] 36) = w' := by
  go_enter Try.func15, Try.ntmps15
  go_wp2
  go_ret
  exact ⟨rfl, rfl⟩

theorem back_stops (F : Fence) (n : Nat) (h22 : F.fn 22) (hro : F.round = none) (hn : 1 ≤ n) (Bs n₀ N cap : Nat) (A : Option Addr) (ms : List Mv) (hl : ms.length = N) (hN : N ≤ 4096) (hw : ∀ m ∈ ms, wfMv m) (hA : ∀ ad, A = some ad → 0 < N → ad.block < n₀)
    (w : World) (hBs : w.cell? ⟨Bs, 0, none⟩ = some (.slice A N cap)) (hBl : Bs < w.heap.size) (hn₀ : n₀ ≤ w.heap.size) (hC : kMv.C w A N ms) :
    SeqStopsK F n Try.prog 22 #[.pointer (some ⟨Bs, 0, none⟩)] encI (KpB n₀ Bs) (fun ys => CameF ms 0 ys) (fun pre => ∃ m, CameF ms m pre) N w := fun l J Jx W hW _ _ hY h0 =>
  back1_in F n h22 hro hn l Bs n₀ N cap A ms hl hN hw hA J Jx hY W ((hW.cell (p := ⟨Bs, 0, none⟩) hBl).trans hBs) (Kd.C_below hC hW) h0
end Go.Proofs.Ytnpiphlmdjmfeaa
