/- slices.Compact over a row of places. -/
import Derived.Test.YtnpiphlmdjmfeaaA4
import Derived.Test.YtnpiphlmdjmfeaaWEqStruct
set_option linter.unusedVariables false
set_option linter.unusedSimpArgs false
namespace Go.Proofs.Ytnpiphlmdjmfeaa
open Go.RowKit Go.Proofs.YtnpiphlmdjmfeaaW.PrintWords

instance : DecidableEq Pl := fun x y => decidable_of_iff (x.f = y.f ∧ x.a = y.a ∧ x.l = y.l) (by cases x; cases y; simp)
def eqPl (x y : Pl) : Bool := x.f == y.f && (x.a == y.a && (x.l == y.l))
theorem eqPl_iff (x y : Pl) : eqPl x y = decide (x = y) := by
  obtain ⟨a, b, c⟩ := x
  obtain ⟨d, e, f⟩ := y
  simp only [eqPl, Pl.mk.injEq]
  by_cases h1 : a = d <;> by_cases h2 : b = e <;> by_cases h3 : c = f <;> simp [h1, h2, h3]

/-- The places of the first i that are unlike the one ahead. -/
def kept (xs : List Pl) : Nat → List Pl
  | 0 => []
  | i + 1 => if i = 0 ∨ xs.getD i default ≠ xs.getD (i - 1) default then kept xs i ++ [xs.getD i default] else kept xs i
/-- Runs of one place, once. -/
def dd (xs : List Pl) : List Pl := kept xs xs.length
theorem kept_le (xs : List Pl) : ∀ i, (kept xs i).length ≤ i
  | 0 => by simp [kept]
  | i + 1 => by
    have := kept_le xs i
    unfold kept
    split
    · simp; omega
    · omega
theorem kept_all (xs : List Pl) : ∀ i, i ≤ xs.length → (∀ j, j < i → 1 ≤ j → xs.getD j default ≠ xs.getD (j - 1) default) → kept xs i = xs.take i
  | 0, _, _ => by simp [kept]
  | i + 1, hi, h => by
    have e := kept_all xs i (by omega) (fun j hj h1 => h j (by omega) h1)
    unfold kept
    rw [if_pos, e, List.take_succ_eq_append_getElem (show i < xs.length by omega)]
    · simp [List.getElem?_eq_getElem (show i < xs.length by omega)]
    · by_cases h0 : i = 0
      · exact .inl h0
      · exact .inr (h i (by omega) (by omega))
theorem kept_same {xs : List Pl} {i : Nat} (h0 : 0 < i) (h : xs.getD i default = xs.getD (i - 1) default) : kept xs (i + 1) = kept xs i := by
  rw [kept, if_neg]
  intro hh
  rcases hh with hh | hh
  · omega
  · exact hh h
theorem kept_new {xs : List Pl} {i : Nat} (h : xs.getD i default ≠ xs.getD (i - 1) default) : kept xs (i + 1) = kept xs i ++ [xs.getD i default] := by
  rw [kept, if_pos (.inr h)]
theorem drop_getD (xs : List Pl) (o : List Pl) (j kk : Nat) (h : o.length = kk) (hj : kk ≤ j) : (o ++ xs.drop kk).getD j default = xs.getD j default := by
  simp only [List.getD_eq_getElem?_getD]
  rw [List.getElem?_append_right (by omega), List.getElem?_drop, h]
  congr 2
  omega
theorem set_next (xs : List Pl) (o : List Pl) (u : Pl) (kk : Nat) (h : o.length = kk) (hk : kk < xs.length) : (o ++ xs.drop kk).set kk u = (o ++ [u]) ++ xs.drop (kk + 1) := by
  rw [List.set_append_right _ _ (by omega), h, Nat.sub_self, List.drop_eq_getElem_cons hk, List.set_cons_zero]
  simp

theorem eqA60 (d : Nat) (w : World) (x0 y0 : Int) (x1 y1 : Int) (x2 y2 : Int) :
    (Op.equalIn (d + 2) 60 (.agg #[.int .i64 x0, .int .i64 x1, .int .i64 x2]) (.agg #[.int .i64 y0, .int .i64 y1, .int .i64 y2])).run Try.prog w = .ok (x0 == y0 && (x1 == y1 && (x2 == y2))) w := by
  refine eqA_of Try.underlying60 (by kernel_rfl) ?_
  refine eqf_cons (by rfl) (by go_simp; rfl) (by go_simp; rfl) (by go_simp) ?_
  refine eqf_cons (by rfl) (by go_simp; rfl) (by go_simp; rfl) (by go_simp) ?_
  exact eqf_last (by rfl) (by go_simp; rfl) (by go_simp; rfl) (by go_simp)
attribute [local go_sem high] eqA60

/-- The cells of element i, as the walk meets them. -/
theorem pl_cells {w : World} {base g n cap : Nat} {xs : List Pl} (h : w.ownsRow base 60 3 (.slice (some ⟨g, 0, none⟩) n cap) n (xs.flatMap encPl)) (i : Nat) (hi : i < xs.length) :
    w.cell? ⟨g, i * 3, none⟩ = some (.int .i64 (xs.getD i default).f) ∧ w.cell? ⟨g, i * 3 + 1, none⟩ = some (.int .i64 (xs.getD i default).a) ∧ w.cell? ⟨g, i * 3 + 2, none⟩ = some (.int .i64 (xs.getD i default).l) ∧
    w.frozen? ⟨g, i * 3, none⟩ = false ∧ w.frozen? ⟨g, i * 3 + 1, none⟩ = false ∧ w.frozen? ⟨g, i * 3 + 2, none⟩ = false := by
  have hc := own_elem encPl_len h default i hi
  exact ⟨(hc 0 _ rfl).1, (hc 1 _ rfl).1, (hc 2 _ rfl).1, (hc 0 _ rfl).2, (hc 1 _ rfl).2, (hc 2 _ rfl).2⟩

theorem zero_one (m : Nat) : ∀ u ∈ (Builtin.zeroCells (Value.agg #[.int .i64 0, .int .i64 0, .int .i64 0]).cells m).toList, u.oneCell' = true := by
  intro u hu
  simp only [Builtin.zeroCells, Value.cells] at hu
  simp at hu
  obtain ⟨i, hi, rfl⟩ := hu
  have : i % 3 < 3 := Nat.mod_lt _ (by omega)
  rcases (show i % 3 = 0 ∨ i % 3 = 1 ∨ i % 3 = 2 by omega) with h | h | h <;> simp [h, Value.oneCell']

def CompactPost (base : Nat) (v : Value) (xs : List Pl) (w : World) (e : Ending) (w' : World) : Prop :=
  ∃ v', e = .returned v' ∧ w'.ownsRow base 60 3 v' (dd xs).length ((dd xs).flatMap encPl) ∧ w.grownBy w' v.ownBlock ∧ v'.ownBlock = v.ownBlock

theorem grown_refl (w : World) (row : Option Nat) : w.grownBy w row := ⟨rfl, rfl, rfl, Nat.le_refl _, fun _ _ _ => rfl⟩
theorem grown_drew {w w1 : World} {row : Option Nat} (h : w.grownBy w1 row) (n : Nat) : w.grownBy (w1.drewN n) row := ⟨h.os, h.tape, h.output, h.size, h.block⟩

theorem grown_then {w w1 w2 : World} {row : Option Nat} (h : w.grownBy w1 row) (h2 : w1.grownBy w2 row) : w.grownBy w2 row :=
  ⟨h2.os.trans h.os, h2.tape.trans h.tape, h2.output.trans h.output, Nat.le_trans h.size h2.size, fun k hk hne => (h2.block k (Nat.lt_of_lt_of_le hk h.size) hne).trans (h.block k hk hne)⟩

theorem compact_short (base : Nat) (v : Value) (xs : List Pl) (w : World) (hown : w.ownsRow base 60 3 v xs.length (xs.flatMap encPl)) (hl : xs.length < 2) :
    Calls Try.prog 21 #[v] w (CompactPost base v xs w) := by
  have hd : dd xs = xs := by
    unfold dd
    rw [kept_all xs _ (Nat.le_refl _) (fun j hj h1 => by omega), List.take_length]
  obtain ⟨A, c, rfl⟩ := own_slice hown
  have HO := Lib.hid hown
  have HD := Lib.hid hd
  clear hown hd
  go_enter Try.func21, Try.ntmps21
  go_wp2
  go_ret
  exact ⟨_, rfl, by rw [HD.out]; exact HO.out, grown_refl _ _, rfl⟩

set_option maxRecDepth 20000 in
set_option maxHeartbeats 1000000 in
theorem compact_long (base g cap n : Nat) (xs : List Pl) (w : World) (hn : xs.length = n) (hown : w.ownsRow base 60 3 (.slice (some ⟨g, 0, none⟩) n cap) n (xs.flatMap encPl)) (hl : 2 ≤ n) (hsz : n < 4611686018427387904) (hcap : n ≤ cap) :
    Calls Try.prog 21 #[.slice (some ⟨g, 0, none⟩) n cap] w (CompactPost base (.slice (some ⟨g, 0, none⟩) n cap) xs w) := by
  have HO := Lib.hid hown
  have HN := Lib.hid hn
  clear hown hn
  go_enter Try.func21, Try.ntmps21
  go_wp2
  go_loopw [3] (fun s3 wr => ∃ k q : Nat, 1 ≤ k ∧ k ≤ n ∧ s3 = .int .i64 k ∧ wr = w.drewN q ∧ Hid (∀ j, j < k → 1 ≤ j → xs.getD j default ≠ xs.getD (j - 1) default)) (fun s3 _ => n - (intOf s3).toNat)
  case atStart => exact ⟨1, 0, Nat.le_refl _, by omega, rfl, rfl, fun j hj h1 => by omega⟩
  case round =>
    obtain ⟨k, q, hk1, hk, rfl, rfl, HA⟩ := hrel
    by_cases hlt : k < n
    · obtain ⟨c0, c1, c2, -⟩ := pl_cells HO.out k (by rw [HN.out]; exact hlt)
      obtain ⟨d0, d1, d2, -⟩ := pl_cells HO.out (k - 1) (by rw [HN.out]; omega)
      generalize hx : xs.getD k default = x at c0 c1 c2
      generalize hy : xs.getD (k - 1) default = y at d0 d1 d2
      have HX := Lib.hid hx
      have HY := Lib.hid hy
      clear hx hy
      have hw1 : IntKind.i64.wrap ((k : Int) - 1) = (k : Int) - 1 := IntWalk.i64_in _ (by omega)
      have hz1 : (0 : Int) ≤ (k : Int) - 1 := by omega
      have hn1 : ((k : Int) - 1).toNat = k - 1 := by omega
      have hl1 : ((k : Int) - 1) < (n : Int) := by omega
      by_cases hdup : x = y
      · have hb : (x.f == y.f && (x.a == y.a && (x.l == y.l))) = true := by rw [hdup]; simp
        have HK : Hid (kept xs (k + 1) = xs.take k) := (kept_same (by omega) (by rw [HX.out, HY.out, hdup])).trans (kept_all xs k (by rw [HN.out]; omega) HA)
        subst hdup
        have hck : cap ≠ k := by omega
        go_wp2_with fail
        go_quiet (fail)
        go_wp2
        clear c0 c1 c2 d0 d1 d2 hb hw1 hz1 hn1 hl1
        obtain ⟨wo, hwo⟩ : ∃ wo : World, wo = w.drewN (q + nq) := ⟨_, rfl⟩
        have HW : Hid (wo.ownsRow base 60 3 (.slice (some ⟨g, 0, none⟩) n cap) n ((kept xs (k + 1) ++ xs.drop k).flatMap encPl) ∧ w.grownBy wo (some g)) := by
          rw [HK.out, List.take_append_drop, hwo]
          exact ⟨HO.out, grown_drew (grown_refl _ _) _⟩
        go_loopw [3, 5] (fun s3 s5 wr => ∃ kk k2 : Nat, s3 = .int .i64 kk ∧ s5 = .int .i64 k2 ∧ 1 ≤ k2 ∧ k + k2 ≤ n ∧ kk + 1 ≤ k + k2 ∧ Hid ((kept xs (k + k2)).length = kk) ∧ Hid (wr.ownsRow base 60 3 (.slice (some ⟨g, 0, none⟩) n cap) n ((kept xs (k + k2) ++ xs.drop kk).flatMap encPl)) ∧ Hid (w.grownBy wr (some g))) (fun _ s5 _ => n - (k + (intOf s5).toNat))
        case atStart =>
          rw [hwo] at HW
          exact ⟨k, 1, rfl, rfl, Nat.le_refl _, by omega, by omega, by rw [Hid, HK.out, List.length_take, HN.out]; omega, HW.out.1, HW.out.2⟩
        case round =>
          clear hwo HW wo
          obtain ⟨kk, k2, rfl, rfl, h1, hle, hkl, HL, HR, HG⟩ := hrel
          have HRL : Hid ((kept xs (k + k2) ++ xs.drop kk).length = n) := by rw [Hid, List.length_append, HL.out, List.length_drop, HN.out]; omega
          by_cases hlt2 : k + k2 < n
          · obtain ⟨c0, c1, c2, -⟩ := pl_cells HR.out (k + k2) (by rw [HRL.out]; exact hlt2)
            obtain ⟨d0, d1, d2, -⟩ := pl_cells HR.out (k + k2 - 1) (by rw [HRL.out]; omega)
            obtain ⟨e0, e1, e2, f0, f1, f2⟩ := pl_cells HR.out kk (by rw [HRL.out]; omega)
            generalize (kept xs (k + k2) ++ xs.drop kk).getD kk default = o at e0 e1 e2
            rw [drop_getD xs _ _ kk HL.out (by omega)] at c0 c1 c2 d0 d1 d2
            generalize hu : xs.getD (k + k2) default = u at c0 c1 c2
            generalize hv : xs.getD (k + k2 - 1) default = v at d0 d1 d2
            have HU := Lib.hid hu
            have HV := Lib.hid hv
            clear hu hv
            rw [show (k + k2) * 3 = k * 3 + k2 * 3 by omega] at c0 c1 c2
            rw [show (k + k2 - 1) * 3 = k * 3 + (k2 - 1) * 3 by omega] at d0 d1 d2
            have hw1 : IntKind.i64.wrap ((k2 : Int) - 1) = (k2 : Int) - 1 := IntWalk.i64_in _ (by omega)
            have hz1 : (0 : Int) ≤ (k2 : Int) - 1 := by omega
            have hn1 : ((k2 : Int) - 1).toNat = k2 - 1 := by omega
            have hl1 : ((k2 : Int) - 1) < ((n - k : Nat) : Int) := by omega
            have hl2 : (k2 : Int) < ((n - k : Nat) : Int) := by omega
            by_cases huv : u = v
            · have hb : (!(u.f == v.f) || (!(u.a == v.a) || !(u.l == v.l))) = false := by rw [huv]; simp
              go_wp2_with fail
              go_quiet (fail)
              go_wp2
              go_roundw
              case rel =>
                have e : kept xs (k + (k2 + 1)) = kept xs (k + k2) := kept_same (i := k + k2) (by omega) (by rw [HU.out, HV.out, huv])
                exact ⟨kk, k2 + 1, rfl, by go_num, by omega, by omega, by omega, by rw [Hid, e]; exact HL.out, by rw [Hid, e]; exact HR.out, grown_drew HG.out _⟩
              case measure => simp [intOf]; omega
            · have hb : (!(u.f == v.f) || (!(u.a == v.a) || !(u.l == v.l))) = true := by have := eqPl_iff u v; unfold eqPl at this; have h3 : decide (u = v) = false := by simp [huv]
                                                                                         rw [h3] at this; simp at this ⊢; omega
              go_wp2_with fail
              go_quiet (fail)
              go_wp2
              go_roundw
              case rel =>
                have e : kept xs (k + (k2 + 1)) = kept xs (k + k2) ++ [u] := by
                  have := kept_new (xs := xs) (i := k + k2) (by rw [HU.out, HV.out]; exact huv)
                  rw [HU.out] at this
                  exact this
                obtain ⟨r1, r2⟩ := own_set encPl_len HR.out HRL.out kk (by omega) u
                rw [set_next xs _ u kk HL.out (by rw [HN.out]; omega), ← e] at r1
                exact ⟨kk + 1, k2 + 1, by go_num, by go_num, by omega, by omega, by omega, by rw [Hid, e, List.length_append, HL.out]; rfl, r1, grown_drew (grown_then HG.out r2) _⟩
              case measure => simp [intOf]; omega
          · have hend : k + k2 = n := by omega
            have HZ : Hid (dd xs = kept xs (k + k2)) := by rw [Hid, hend, dd, HN.out]
            have hzl : (Builtin.zeroCells (Value.agg #[.int .i64 0, .int .i64 0, .int .i64 0]).cells (n - kk)).toList.length = (n - kk) * 3 := by
              rw [Array.length_toList, size_zeroCells]; rfl
            have hsome : ∀ j, j < (n - kk) * 3 → (wr.cell? ⟨g, kk * 3 + j, none⟩).isSome = true := fun j hj => by
              have hle3 : kk * 3 + j < ((kept xs (k + k2) ++ xs.drop kk).flatMap encPl).length := by rw [flat_len encPl_len, HRL.out]; omega
              have h := HR.out.cells (g := g) rfl (kk * 3 + j) _ (List.getElem?_eq_getElem hle3)
              rw [add_plain] at h
              rw [h]
              rfl
            have hfr : ∀ j, j < (n - kk) * 3 → wr.frozen? ⟨g, kk * 3 + j, none⟩ = false := fun j hj => by
              obtain ⟨cells, hb⟩ := own_typed HR.out g rfl
              exact blk_frozen hb _
            have hcl : ∀ ty, (Builtin.clear_ #[50] ty #[.slice (some ⟨g, kk * 3, none⟩) (n - kk) (cap - kk)]).run Try.prog wr = .ok (.tuple #[]) (wr.setCells g (kk * 3) (Builtin.zeroCells (Value.agg #[.int .i64 0, .int .i64 0, .int .i64 0]).cells (n - kk)).toList) := fun ty =>
              clear_cells wr 50 60 ty (.agg #[.int .i64 0, .int .i64 0, .int .i64 0]) Try.underlying50 Try.zeroValue60 g (kk * 3) (n - kk) (cap - kk) (zero_one _) (by omega) ((n - kk) * 3) hzl hsome hfr
            obtain ⟨r1, r2⟩ := own_write HR.out (kk * 3) (Builtin.zeroCells (Value.agg #[.int .i64 0, .int .i64 0, .int .i64 0]).cells (n - kk)).toList (by rw [hzl]; omega)
            have R1 := Lib.hid r1
            have R2 := Lib.hid r2
            clear r1 r2 hsome hfr hzl
            generalize (wr.setCells g (kk * 3) (Builtin.zeroCells (Value.agg #[.int .i64 0, .int .i64 0, .int .i64 0]).cells (n - kk)).toList) = wz at hcl R1 R2
            have hkc : cap ≠ kk := by omega
            go_wp2
            go_ret
            have h4 : wz.ownsRow base 60 3 (.slice (some ⟨g, 0, none⟩) kk cap) kk ((kept xs (k + k2)).flatMap encPl) := by
              have h3 := own_take R1.out (m := kk) (by omega)
              have hl1 : ((kept xs (k + k2)).flatMap encPl).length = kk * 3 := by rw [flat_len encPl_len, HL.out]
              rw [List.flatMap_append, List.take_append_of_le_length (l₁ := (kept xs (k + k2)).flatMap encPl) (by omega), List.append_assoc, List.take_of_length_le (l := (kept xs (k + k2)).flatMap encPl) (by omega), ← hl1, List.take_left' rfl] at h3
              exact h3
            refine ⟨_, rfl, ?_, grown_then HG.out R2.out, rfl⟩
            rw [HZ.out, HL.out]
            exact h4
      · have hb : (x.f == y.f && (x.a == y.a && (x.l == y.l))) = false := by have := eqPl_iff x y; unfold eqPl at this; rw [this]; simp [hdup]
        have HD := Lib.hid hdup
        clear hdup
        go_wp2_with fail
        go_quiet (fail)
        go_wp2
        go_roundw
        case rel =>
          refine ⟨k + 1, q + nq, by omega, by omega, by go_num, rfl, fun j hj h1 => ?_⟩
          by_cases e : j = k
          · subst e
            rw [HX.out, HY.out]
            exact HD.out
          · exact HA.out j (by omega) h1
        case measure => simp [intOf]; omega
    · have hend : k = n := by omega
      have HZ : Hid (dd xs = xs) := by rw [Hid, dd, kept_all xs _ (Nat.le_refl _) (by rw [HN.out, ← hend]; exact HA), List.take_length]
      go_wp2
      go_ret
      exact ⟨_, rfl, by rw [HZ.out, HN.out]; exact HO.out, grown_drew (grown_refl _ _) _, rfl⟩
end Go.Proofs.Ytnpiphlmdjmfeaa
