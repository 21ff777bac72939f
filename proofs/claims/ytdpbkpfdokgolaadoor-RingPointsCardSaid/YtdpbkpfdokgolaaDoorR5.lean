/- made: the points of weights, in order. -/
import Derived.Test.YtdpbkpfdokgolaaDoorR4
import Derived.Lib.AppendIntMem
set_option linter.unusedVariables false
set_option linter.unusedSimpArgs false
namespace Go.Proofs.YtdpbkpfdokgolaaDoor
open Go.RowKit Go.Proofs.YtdpbkpfdokgolaaDoorW.PrintWords Go.Sort

def label (c i : Nat) : ByteArray := (⟨(Lib.decDigits c).toArray⟩ ++ ⟨#[46]⟩) ++ ⟨(Lib.itoa (i : Int)).toArray⟩
def ptAt (c i : Nat) : Pt := ⟨hashOf (label c i), c, i⟩
def rowP (c n : Nat) : List Pt := (List.range n).map (ptAt c)
def wAt (ws : List Int) (c : Nat) : Nat := (ws.getD c 0).toNat
def preP (ws : List Int) (c : Nat) : List Pt := (List.range c).flatMap fun q => rowP q (wAt ws q)
/-- All points, chain by chain. -/
def ptsW (ws : List Int) : List Pt := preP ws ws.length
/-- All points in order. -/
def ringOf (ws : List Int) : List Pt := (ptsW ws).mergeSort fun x y => !(ltOf cfPt) y x
theorem rowP_len (c n : Nat) : (rowP c n).length = n := by simp [rowP]
theorem rowP_succ (c n : Nat) : rowP c (n + 1) = rowP c n ++ [ptAt c n] := by simp [rowP, List.range_succ]
theorem preP_succ (ws : List Int) (c : Nat) : preP ws (c + 1) = preP ws c ++ rowP c (wAt ws c) := by simp [preP, List.range_succ]
theorem preP_len {ws : List Int} (h : ∀ x ∈ ws, 0 ≤ x ∧ x ≤ 128) : ∀ c, c ≤ ws.length → (preP ws c).length ≤ 128 * c
  | 0, _ => by simp [preP]
  | c + 1, hc => by
    rw [preP_succ, List.length_append, rowP_len]
    have := preP_len h c (by omega)
    have h2 := h (ws.getD c 0) (by simp [List.getD, show c < ws.length by omega])
    unfold wAt
    omega
theorem itoa_len : ∀ i : Nat, i < 128 → (Lib.itoa (i : Int)).length ≤ 3 := by decide +kernel
theorem dec_len : ∀ i : Nat, i < 8 → (Lib.decDigits i).length ≤ 3 := by decide +kernel
theorem label_size (c i : Nat) (hc : c < 8) (hi : i < 128) : (label c i).size ≤ 9223372036854775807 := by
  have h1 := itoa_len i hi
  have h2 := dec_len c hc
  unfold label
  simp only [ByteArray.size_append]
  show (Lib.decDigits c).toArray.size + 1 + (Lib.itoa (i : Int)).toArray.size ≤ _
  simp only [List.size_toArray]
  omega
theorem infoPt : (Tryd.prog.info? 83).map (fun i => (i.zero, i.size, i.bytes)) = some (some (.agg #[.int .u64 0, .int .i64 0, .int .i64 0]), 3, 24) := by kernel_rfl

theorem below_grow' {B : Nat} {w w1 : World} (h : Below B w w1) (hB : B ≤ w1.heap.size) (k : Nat) (os : Array Obj) : Below B w (grow (w1.drewN k) os) := h.trans (Lib.below_grow B w1 hB k os)

theorem own_drewN {w : World} {B e size n : Nat} {v : Value} {xs : List Value} (h : w.ownsRow B e size v n xs) (k : Nat) : (w.drewN k).ownsRow B e size v n xs := h

theorem drawsBelow (B : Nat) (w : World) (n : Nat) : Below B w (w.drewN n) := ⟨rfl, rfl, rfl, Nat.le_refl _, fun _ _ => rfl⟩

def MadePost (ws : List Int) (w : World) : Ending → World → Prop := fun e w' =>
  (¬ MayW ws ∧ e = .returned (.tuple #[.slice none 0 0, .int .i64 1]) ∧ w' = w) ∨
  (MayW ws ∧ ∃ v, e = .returned (.tuple #[v, .int .i64 0]) ∧ w'.ownsRow w.heap.size 83 3 v (ringOf ws).length ((ringOf ws).flatMap encPt) ∧ Below w.heap.size w w')

set_option maxRecDepth 20000 in
set_option maxHeartbeats 2000000 in
theorem made_any (A : Option Addr) (c : Nat) (ws : List Int) (w : World) (hC : (Kd.int .i64).C w A ws.length ws) (hbig : ws.length ≤ 9223372036854775807) (htab : Lib.TabIs Tryd.prog w "internal/strconv.uint64pow10" .u64 Lib.pow10Tab) :
    Calls Tryd.prog 33 #[.slice A ws.length c] w (MadePost ws w) := by
  have HT := Lib.hid (Lib.tabBelow_of_tabIs htab)
  have HCh := Lib.hid (check_any A c ws w hC hbig)
  have HC := Lib.hid hC
  clear hC htab
  obtain ⟨n, hn⟩ : ∃ n, ws.length = n := ⟨_, rfl⟩
  have HN := Lib.hid hn
  rw [hn] at HCh HC hbig ⊢
  clear hn
  by_cases hm : MayW ws
  · have he : errW' ws = 0 := by rw [errW', if_pos hm]
    rw [he] at HCh
    have hn8 : n ≤ 8 := by have := hm.2.1; have := HN.out; omega
    have HM := Lib.hid hm
    clear hm he
    go_enter Tryd.func33, Tryd.ntmps33
    go_wp2_with (go_at_call 13; refine HCh.out.mono ?_; rintro e w1 ⟨rfl, hw⟩; replace hw := hw.symm; subst hw)
    clear HCh
    go_loopw [5, 17] (fun v i wr => ∃ k : Nat, k ≤ n ∧ i = .int .i64 k ∧ Hid (wr.ownsRow w.heap.size 83 3 v (preP ws k).length ((preP ws k).flatMap encPt)) ∧ Hid (Below w.heap.size w wr)) (fun _ i _ => n - (intOf i).toNat)
    case atStart => exact ⟨0, Nat.zero_le _, rfl, own_nil _ _ _ _, Below.refl _ _⟩
    case round =>
      obtain ⟨wo, rfl⟩ : ∃ wo : World, wo = wr := ⟨_, rfl⟩
      obtain ⟨k, hk, rfl, HO, HB⟩ := hrel
      by_cases hlt : k < n
      · obtain ⟨ad, rfl, hcell⟩ := read_i (Kd.C_below HC.out HB.out) k hlt
        have hx := HM.out.2.2.1 (ws.getD k 0) (by simp [List.getD, show k < ws.length by rw [HN.out]; exact hlt])
        have hpl := preP_len HM.out.2.2.1 k (by rw [HN.out]; omega)
        have HPS := Lib.hid (preP_succ ws k)
        obtain ⟨m, hm⟩ : ∃ m : Nat, ws.getD k 0 = m := ⟨(ws.getD k 0).toNat, by omega⟩
        have HWA := Lib.hid (show wAt ws k = m by rw [wAt, hm]; rfl)
        rw [hm] at hcell hx
        clear hm
        have hm128 : m ≤ 128 := by omega
        clear hx
        generalize preP ws k = pre at HO HPS hpl
        go_wp2_with fail
        go_loopw [5, 23] (fun v i wr => ∃ j : Nat, j ≤ m ∧ i = .int .i64 j ∧ Hid (wr.ownsRow w.heap.size 83 3 v (pre ++ rowP k j).length ((pre ++ rowP k j).flatMap encPt)) ∧ Hid (Below w.heap.size w wr)) (fun _ i _ => m - (intOf i).toNat)
        case atStart => exact ⟨0, Nat.zero_le _, rfl, Lib.hid (by simpa [rowP] using HO.out), HB.out⟩
        case round =>
          obtain ⟨wi, rfl⟩ : ∃ wi : World, wi = wr := ⟨_, rfl⟩
          clear hcell HO HB
          obtain ⟨j, hj, rfl, HO, HB⟩ := hrel
          by_cases hjm : j < m
          · have HTi := Lib.hid (HT.out.on HB.out).here
            have hk8 : k < 8 := by omega
            have hls := label_size k j hk8 (by omega)
            obtain ⟨s1, hs1⟩ : ∃ s1 : ByteArray, s1 = ⟨(Lib.decDigits k).toArray⟩ := ⟨_, rfl⟩
            obtain ⟨s2, hs2⟩ : ∃ s2 : ByteArray, s2 = ⟨(Lib.itoa (j : Int)).toArray⟩ := ⟨_, rfl⟩
            have hlab : label k j = (s1 ++ ⟨#[46]⟩) ++ s2 := by rw [hs1, hs2]; rfl
            have hz1 : s1.size ≤ 3 := by rw [hs1]; exact dec_len k hk8
            have hz2 : s2.size ≤ 3 := by rw [hs2]; exact itoa_len j (by omega)
            have ht1 := Tryd.strconv_Itoa_small k (by omega) wi
            have ht2 := Tryd.strconv_Itoa (j : Int) (by omega) (by omega) wi HTi.out
            have ht3 := fun W => hash_any (label k j) W hls
            rw [← hs1] at ht1
            rw [← hs2] at ht2
            have HPA := Lib.hid (show rowP k (j + 1) = rowP k j ++ [⟨hashOf (label k j), k, j⟩] from rowP_succ k j)
            generalize hashOf (label k j) = hv at ht3 HPA
            rw [hlab] at ht3
            have HT1 := Lib.hid ht1
            have HT2 := Lib.hid ht2
            have HT3 := Lib.hid ht3
            clear ht1 ht2 ht3 hs1 hs2 hlab hls
            have hz3 : (9223372036854775807 < s1.size + 1) = False := eq_false (by omega)
            have hz4 : (9223372036854775807 < s1.size + 1 + s2.size) = False := eq_false (by omega)
            go_wp2_with fail
            refine HT1.out.mono ?_
            rintro e w1 ⟨rfl, hw⟩
            replace hw := hw.symm
            subst hw
            go_wp2_with fail
            refine HT2.out.mono ?_
            rintro e w1 ⟨rfl, q, os, hw⟩
            replace hw := hw.symm
            subst hw
            go_wp2_with fail
            refine (HT3.out _).mono ?_
            rintro e w1 ⟨rfl, q2, hw⟩
            have HO2 := Lib.hid (own_drewN (Lib.ownsRow_grow HO.out q os) q2)
            have HB2 := Lib.hid ((below_grow' HB.out HB.out.size q os).trans (drawsBelow _ _ q2))
            rw [← hw] at HO2 HB2
            clear hw HO HT1 HT2 HT3 hz3 hz4 hz1 hz2
            have hone : Hid (∀ u ∈ encPt ⟨hv, k, j⟩, u.oneCell' = true) := encPt_one _
            have hlen : (pre ++ rowP k j).length ≤ 2000 := by rw [List.length_append, rowP_len]; omega
            go_wp2_with (at_builtin; refine print_append_cells (w0 := w) w.heap.size rfl (.tmp 26) (.tmp 37) 79 83 (.agg #[.int .u64 0, .int .i64 0, .int .i64 0]) 3 24 rfl Tryd.underlying79 infoPt rfl (by decide) (by decide) _ (pre ++ rowP k j).length ((pre ++ rowP k j).flatMap encPt) (encPt ⟨hv, k, j⟩) rfl ?aX rfl hone ?aO ?aB ?aS ?aL ?_; rotate_left 5; intro v5 w5 hown5 hb5 hg5 hat5; have HO5 := Lib.hid hown5; have HB5 := Lib.hid hb5; clear hown5 hb5 hg5 hat5)
            case aX => simp [Act.eval]
            case aO => exact HO2.out
            case aB => exact HB2.out
            case aS => exact HB2.out.size
            case aL => omega
            go_roundw
            case rel =>
              refine ⟨j + 1, by omega, by go_num, ?_, HB5.out⟩
              rw [HPA.out, ← List.append_assoc, List.length_append, List.flatMap_append, List.flatMap_cons, List.flatMap_nil, List.append_nil]
              exact HO5.out
            case measure => simp [intOf]; omega
          · obtain rfl : j = m := by omega
            go_wp2
            go_roundw
            case rel => exact ⟨k + 1, by omega, by go_num, by rw [HPS.out, HWA.out]; exact HO.out, HB.out⟩
            case measure => simp [intOf]; omega
      · obtain rfl : k = n := by omega
        have hle := preP_len HM.out.2.2.1 k (by rw [HN.out]; exact Nat.le_refl _)
        have hsz : (preP ws k).length < 4611686018427387904 := by omega
        have HPT := Lib.hid (show preP ws k = ptsW ws by rw [ptsW, HN.out])
        go_wp2_with (go_at_call 62; refine (sort_any w.heap.size 83 _ (preP ws k) wo HO.out hsz).mono ?_; rintro e w4 ⟨rfl, ho4, hg4⟩; have HO4 := Lib.hid ho4; have HG4 := Lib.hid hg4; clear ho4 hg4)
        go_ret2
        refine Or.inr ⟨HM.out, _, rfl, ?_, ?_⟩
        · have := HO4.out
          rw [HPT.out] at this
          rw [ringOf, List.length_mergeSort]
          exact this
        · exact HB.out.grown HG4.out HB.out.size (fun k hk => own_base HO.out k hk)
  · have he : errW' ws = 1 := by rw [errW', if_neg hm]
    rw [he] at HCh
    go_enter Tryd.func33, Tryd.ntmps33
    go_wp2_with (go_at_call 13; refine HCh.out.mono ?_; rintro e w' ⟨rfl, rfl⟩)
    go_ret2
    exact Or.inl ⟨hm, rfl, rfl⟩
end Go.Proofs.YtdpbkpfdokgolaaDoor
