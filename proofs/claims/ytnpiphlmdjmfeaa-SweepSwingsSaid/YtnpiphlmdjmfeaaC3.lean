/- Swing: live places where they were moved to. -/
import Derived.Test.YtnpiphlmdjmfeaaC2
set_option linter.unusedVariables false
set_option linter.unusedSimpArgs false
namespace Go.Proofs.Ytnpiphlmdjmfeaa
open Go.RowKit Go.Shelf Go.Proofs.YtnpiphlmdjmfeaaW.PrintWords Go.Maps

attribute [local go_sem] Oper.semAt_some

theorem info42 : (Try.prog.info? 42).map (fun i => (i.zero, i.size, i.bytes)) = some (some (.agg #[.int .i64 0, .int .i64 0, .int .i64 0]), 3, 24) := by kernel_rfl

set_option maxRecDepth 100000 in
set_option maxHeartbeats 4000000 in
theorem swing_any (A : Option Addr) (c n : Nat) (live : List Pl) (AM : Option Addr) (cM m : Nat) (ms : List Mv) (w : World) (hn : live.length = n) (hr : kPl.C w A n live) (hm : ms.length = m) (hrm : kMv.C w AM m ms)
    (hwl : ∀ p ∈ live, wfPl p) (hwm : ∀ x ∈ ms, wfMv x) (hn4 : n ≤ 4096) (hm4 : m ≤ 4096) :
    Calls Try.prog 9 #[.slice A n c, .slice AM m cM] w fun e w' => ∃ v, e = .returned (.tuple #[v, .int .i64 0]) ∧ w'.ownsRow w.heap.size 42 3 v n ((live.map (swF ms)).flatMap encPl) ∧ Below w.heap.size w w' := by
  have HN := Lib.hid hn
  have HR := Lib.hid hr
  have HM := Lib.hid hm
  have HRM := Lib.hid hrm
  have HWL := Lib.hid hwl
  have HWM := Lib.hid hwm
  clear hn hr hm hrm hwl hwm
  have hmm := @run_makeMap Try.prog
  refine (callsIn_wide (n := 3)).1 ?_
  refine callsIn_of_wp_marks Try.func9 rfl trivial ?_ rfl
  simp only [Try.ntmps9, List.size_toArray, List.length_cons, List.length_nil, Nat.reduceAdd, Nat.reduceSub, Array.replicate_succ, Array.replicate_zero, List.push_toArray, List.append_toArray, List.nil_append, List.cons_append]
  refine wpIn_wide.2 ?_
  go_wp2_with (go_at_call 15; refine (back_any _ _ _ _).mono ?_; rintro e w' ⟨rfl, rfl⟩)
  have hA : ∀ ad, AM = some ad → 0 < m → ad.block < w.heap.size := fun ad e h0 => by
    obtain ⟨ad', e', c0, _⟩ := mv_at HRM.out 0 h0
    rw [e] at e'
    cases e'
    have := World.block_lt_of_cell? w _ c0
    rwa [add_block] at this
  have hm0 := World.ownsMap_made w Try.prog 42 readPl
  have bM := Boxed.new (w.alloc (.map #[] 0)) 40 (.map (some w.heap.size))
  have bN := Boxed.new ((w.alloc (.map #[] 0)).alloc (.cells #[.map (some w.heap.size)] 40)) 36 (.slice AM m cM)
  simp only [World.size_alloc] at bM bN
  have bM2 := bM.alloc (.cells #[.slice AM m cM] 36)
  have hm2 := (hm0.alloc (.cells #[.map (some w.heap.size)] 40)).alloc (.cells #[.slice AM m cM] 36)
  have hB0 : Below w.heap.size w (((w.alloc (.map #[] 0)).alloc (.cells #[.map (some w.heap.size)] 40)).alloc (.cells #[.slice AM m cM] 36)) := (((Below.refl _ w).alloc (Nat.le_refl _) _).alloc (by simp) _).alloc (by simp; omega) _
  have hsz : (((w.alloc (.map #[] 0)).alloc (.cells #[.map (some w.heap.size)] 40)).alloc (.cells #[.slice AM m cM] 36)).heap.size = w.heap.size + 3 := by simp
  obtain ⟨W0, hW0⟩ : ∃ W0, ((w.alloc (.map #[] 0)).alloc (.cells #[.map (some w.heap.size)] 40)).alloc (.cells #[.slice AM m cM] 36) = W0 := ⟨_, rfl⟩
  rw [hW0] at bN bM2 hm2 hB0 hsz ⊢
  clear hW0 bM hm0
  have HSZ := Lib.hid hsz
  refine (wpIn_wide (n := 3)).1 ?_
  refine wpIn_rangeFunc_ownH (F := Fence.wide) (P := Try.prog) rfl (by omega) (gf := 22) (lb := #[.pointer (some ⟨w.heap.size + 1 + 1, 0, none⟩)]) rfl trivial (enters_of Try.func22 (by kernel_rfl) rfl)
    (back_stops Fence.wide (3 - 1) trivial rfl (by omega) (w.heap.size + 1 + 1) w.heap.size m cM AM ms HM.out hm4 HWM.out hA W0 bN.cell (by omega) (by omega) (Kd.C_below HRM.out hB0)) (fun h k => h.trans k) (fun W l o o' => KpB.putObj (by omega) W l o o') (Below.refl _ _) (fun _ => rfl)
    (fun pre W => Boxed W (w.heap.size + 1) 40 (.map (some w.heap.size)) ∧ (((∃ D, W.ownsMap Try.prog 42 readPl w.heap.size pre.length D ∧ TellsP (toF (pre.reverse.map (fun x => x.1.2))) D) ∧ Below w.heap.size w W) ∧ Boxed W (w.heap.size + 1 + 1) 36 (.slice AM m cM)))
    (fun _ _ _ => False)
    (OwnFrom.and (Own.from (boxed_own _ _ _) _) (OwnFrom.and (OwnFrom.and (fun s A B row hs hg hr => by
      obtain ⟨D, h1, h2⟩ := hs
      exact ⟨D, h1.kept hg (fun e => by have := (hr _ e.symm).1; omega), h2⟩) (ownFrom_below (Nat.le_refl _) (by omega))) (Own.from (boxed_own _ _ _) _)))
    (fun _ _ _ _ _ hs _ _ => hs)
    ⟨bM2, ⟨⟨_, hm2, TellsP.empty⟩, hB0⟩, bN⟩
    (fun x a' W => ∃ Bx, w.heap.size + 2 < Bx ∧ W.heap[Bx]? = some (.cells (encMv x.1.2).toArray 44 (0, 0)) ∧ a' = { tmps := #[.slice A n c, .slice AM m cM, undef, undef, .slice none 0 0, .int .i64 0, .pointer (some ⟨w.heap.size + 1, 0, none⟩), undef, .pointer (some ⟨Bx, 0, none⟩), undef, undef, undef, undef, undef, .slice A n c, .int .i64 n, .bool (decide (4096 < (n : Int))), .bool (decide (4096 < (n : Int))), .slice AM m cM, .int .i64 m, .bool (decide (4096 < (m : Int))), .bool (decide (4096 < (n : Int)) || decide (4096 < (m : Int))), .map (some w.heap.size), .slice AM m cM, .func (.func 22) #[] #[.pointer (some ⟨w.heap.size + 1 + 1, 0, none⟩)], .int .i64 (x.1.1 : Int), .agg #[.int .i64 x.1.2.s.f, .int .i64 x.1.2.s.a, .int .i64 x.1.2.s.l, .int .i64 x.1.2.t.f, .int .i64 x.1.2.t.a, .int .i64 x.1.2.t.l], undef, undef, undef, undef, undef, undef, undef, undef, undef, undef, undef, undef, undef, undef, undef, undef, undef, undef, undef, undef, undef, undef, undef, undef, undef], defers := [] })
    (fun x a' _ X Y row hs hg hr => by
      obtain ⟨Bx, h1, h2, h3⟩ := hs
      exact ⟨Bx, h1, (hg.block Bx (blk_lt h2) (fun e => by obtain ⟨_, o, ho, hc⟩ := hr Bx e.symm; rw [h2] at ho; cases ho; cases hc)).trans h2, h3⟩)
    ?assign ?body ?done ?stop
  case assign =>
    rintro l pre x W K ⟨bM1, ⟨⟨D, hM, hT⟩, hB⟩, hbs⟩ hK
    have hszW := hB.size
    have hlt := bM1.lt
    unfold encI
    gi_wp2
    exact hK _ _ ((KeepsOthers.alloc _ _).from _) ⟨(Below.refl _ W).alloc hszW _, fun v hv => Lib.cell?_alloc_some _ hv⟩ ⟨bM1.alloc _, ⟨⟨D, hM.alloc _, hT⟩, hB.alloc hszW _⟩, hbs.alloc _⟩ ⟨W.heap.size, by have := hbs.lt; omega, heap_alloc_new W _, rfl⟩
  case body =>
    rintro l pre x a' W hl hr ⟨bM1, ⟨⟨D, hM, hT⟩, hB⟩, hbs⟩ ⟨Bx, hBx, bX, rfl⟩ hlt
    have cM1 := bM1.cell
    have x0 := blk_cell bX 0
    have x1 := blk_cell bX 1
    have x2 := blk_cell bX 2
    have x3 := blk_cell bX 3
    have x4 := blk_cell bX 4
    have x5 := blk_cell bX 5
    simp only [encMv] at x0 x1 x2 x3 x4 x5
    obtain ⟨w1, hup, hM1, hG1⟩ := hM.update lawP Try.underlying40 (show pre.length < maxLen by unfold maxLen; omega) (keyOf_pl x.1.2.s x.2.1) (readPl_mk x.1.2.t)
    have HM1 := Lib.hid hM1
    have HG1 := Lib.hid hG1
    have HT := Lib.hid hT
    have HB := Lib.hid hB
    have HBM := Lib.hid bM1
    clear hM hM1 hG1 hT hB bM1 bX hr
    gi_wp2
    refine ⟨KeepsFrom.of_grownBy HG1.out (fun j e => by cases e; omega), ⟨(Below.refl _ W).grown HG1.out HB.out.size (fun k e => by cases e; exact Nat.le_refl _), fun v hv => (HG1.out.cell_far ⟨w.heap.size + 1 + 1, 0, none⟩ (World.block_lt_of_cell? _ _ hv) (by simp; omega)).trans hv⟩, ?_, ⟨⟨D.put (keyPl x.1.2.s) (datPl x.1.2.t), ?_, ?_⟩, ?_⟩, ?_⟩
    · exact HBM.out.kept HG1.out (by simp)
    · rw [List.length_append]; exact HM1.out
    · have := HT.out.put x.2.1 x.1.2.t
      rw [List.reverse_append, List.reverse_singleton, List.singleton_append, List.map_cons]
      exact this
    · exact HB.out.grown HG1.out HB.out.size (fun k e => by cases e; exact Nat.le_refl _)
    · exact hbs.kept HG1.out (by simp; omega)
  case done =>
    rintro D ys W hD hS ⟨bM1, ⟨⟨D', hM, hT⟩, hB⟩, hbs⟩ hK
    rw [hS.1, List.drop_zero] at hT
    have HT := Lib.hid hT
    have HB := Lib.hid hB
    have HMP := Lib.hid hM
    have HK := Lib.hid hK
    have HBM := Lib.hid bM1
    clear hM hT hB hK hS bM1 hbs hB0 hm2 bM2 bN hsz hA
    go_wp2_with fail
    go_loopw [9, 34] (fun s9 s34 wr => ∃ k : Nat, k ≤ n ∧ s34 = .int .i64 k ∧ Hid (wr.ownsRow W.heap.size 42 3 s9 k (((live.take k).map (swF ms)).flatMap encPl)) ∧ Hid (Below W.heap.size W wr)) (fun _ s34 _ => n - (intOf s34).toNat)
    case atStart => exact ⟨0, Nat.zero_le _, rfl, Lib.hid (by simpa using own_nil _ _ _ _), Below.refl _ _⟩
    case round =>
      obtain ⟨wo, rfl⟩ : ∃ wo : World, wo = wr := ⟨_, rfl⟩
      obtain ⟨k, hk, rfl, HO, HBW⟩ := hrel
      by_cases hlt : k < n
      · obtain ⟨ad, rfl, c0, c1, c2⟩ := pl_at (Kd.C_below HR.out (HB.out.trans (HBW.out.mono HB.out.size))) k hlt
        have hwx : wfPl (live.getD k default) := by
          apply HWL.out
          rw [List.getD_eq_getElem?_getD, List.getElem?_eq_getElem (show k < live.length by rw [HN.out]; exact hlt)]
          exact List.getElem_mem _
        have hsn : (live.take (k + 1)).map (swF ms) = (live.take k).map (swF ms) ++ [swF ms (live.getD k default)] := by
          rw [List.take_succ_eq_append_getElem (show k < live.length by rw [HN.out]; exact hlt), List.getD_eq_getElem?_getD, List.getElem?_eq_getElem (show k < live.length by rw [HN.out]; exact hlt), List.map_append]
          rfl
        generalize live.getD k default = x at c0 c1 c2 hwx hsn
        have HS := Lib.hid hsn
        have hszo := HBW.out.size
        have hlook := look_pl ((HMP.out.kept (grown_of_below HBW.out none) (by simp)).alloc (.cells #[.int .i64 x.f, .int .i64 x.a, .int .i64 x.l] 42)) HT.out hwx
        have hbox : (wo.alloc (.cells #[.int .i64 x.f, .int .i64 x.a, .int .i64 x.l] 42)).cell? ⟨w.heap.size + 1, 0, none⟩ = some (.map (some w.heap.size)) := Lib.cell?_alloc_some _ ((HBW.out.cell (p := ⟨w.heap.size + 1, 0, none⟩) (HBM.out.lt)).trans HBM.out.cell)
        have hsw : swF ms x = (toF ms x).getD x := rfl
        have HSW := Lib.hid hsw
        clear hwx hsn hsw
        generalize swF ms x = y at HS HSW
        generalize toF ms x = o at hlook HSW
        cases o with
        | none =>
          obtain rfl : y = x := HSW.out
          simp only [Option.getD_none, Option.isSome_none] at hlook
          go_wp2_with (at_builtin; refine print_append_cells (w0 := W) W.heap.size rfl (.tmp 46) (.tmp 48) 23 42 (.agg #[.int .i64 0, .int .i64 0, .int .i64 0]) 3 24 rfl Try.underlying23 info42 rfl (by decide) (by decide) _ k (((live.take k).map (swF ms)).flatMap encPl) (encPl y) rfl ?aX rfl (encPl_one y) ?aO ?aB ?aS ?aL ?_; rotate_left 5; intro v1 w1 hown1 hb1 hg1 hat1; have HO1 := Lib.hid hown1; have HB1 := Lib.hid hb1; clear hown1 hb1 hg1 hat1)
          case aX => simp [Act.eval]
          case aO => exact (HO.out.alloc _).alloc _
          case aB => exact (HBW.out.alloc hszo _).alloc (by simp; omega) _
          case aS => simp; omega
          case aL => omega
          go_roundw
          case rel =>
            refine ⟨k + 1, by omega, by go_num, ?_, HB1.out⟩
            rw [HS.out, List.flatMap_append, List.flatMap_cons, List.flatMap_nil, List.append_nil]
            exact HO1.out
          case measure => simp [intOf]; omega
        | some q =>
          obtain rfl : y = q := HSW.out
          simp only [Option.getD_some, Option.isSome_some] at hlook
          go_wp2_with (at_builtin; refine print_append_cells (w0 := W) W.heap.size rfl (.tmp 46) (.tmp 48) 23 42 (.agg #[.int .i64 0, .int .i64 0, .int .i64 0]) 3 24 rfl Try.underlying23 info42 rfl (by decide) (by decide) _ k (((live.take k).map (swF ms)).flatMap encPl) (encPl y) rfl ?aX rfl (encPl_one y) ?aO ?aB ?aS ?aL ?_; rotate_left 5; intro v1 w1 hown1 hb1 hg1 hat1; have HO1 := Lib.hid hown1; have HB1 := Lib.hid hb1; clear hown1 hb1 hg1 hat1)
          case aX => simp [Act.eval]
          case aO => exact (HO.out.alloc _).alloc _
          case aB => exact (HBW.out.alloc hszo _).alloc (by simp; omega) _
          case aS => simp; omega
          case aL => omega
          go_roundw
          case rel =>
            refine ⟨k + 1, by omega, by go_num, ?_, HB1.out⟩
            rw [HS.out, List.flatMap_append, List.flatMap_cons, List.flatMap_nil, List.append_nil]
            exact HO1.out
          case measure => simp [intOf]; omega
      · obtain rfl : k = n := by omega
        have hl := List.take_of_length_le (show live.length ≤ k by rw [HN.out]; exact Nat.le_refl _)
        rw [hl] at HO
        have hKD : Hid (wo.heap[D]? = some (.deferred (some []))) := (HBW.out.block D (Array.getElem?_eq_some_iff.1 HK.out).1).trans HK.out
        have HD : Hid (w.heap.size ≤ D) := by have := HSZ.out; rw [Hid]; omega
        clear hl
        go_wp2
        refine ⟨by simp, .inl ⟨_, _, rfl, run_takeDeferred hKD.out, ?_⟩⟩
        refine ⟨_, results_tmp2 rfl _ _ _, _, rfl, ?_, ?_⟩
        · exact own_weaken (ownsRow_putObj HO.out _ hKD.out rfl) HB.out.size
        · exact (HB.out.trans (HBW.out.mono HB.out.size)).trans (belowK_b (w := w) (Nat.le_refl _) wo D _ _ HD.out hKD.out rfl rfl)
  case stop =>
    rintro D c pre W _ _ h _
    exact h.elim
end Go.Proofs.Ytnpiphlmdjmfeaa
