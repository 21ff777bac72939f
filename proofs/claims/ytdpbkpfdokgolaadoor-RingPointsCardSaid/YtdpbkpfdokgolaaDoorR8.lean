/- A key's chain: of, Of. -/
import Derived.Test.YtdpbkpfdokgolaaDoorR7
set_option linter.unusedVariables false
set_option linter.unusedSimpArgs false
namespace Go.Proofs.YtdpbkpfdokgolaaDoor
open Go.RowKit Go.Proofs.YtdpbkpfdokgolaaDoorW.PrintWords Go.Sort

/-- The chain of the point at place i, or of the first one behind the last. -/
def chainAt (rs : List Pt) (i : Nat) : Int := (rs.getD (i % rs.length) default).c

set_option maxHeartbeats 4000000 in
set_option maxRecDepth 100000 in
theorem of_any (A : Option Addr) (c : Nat) (rs : List Pt) (s : ByteArray) (w : World) (hR : kPt.C w A rs.length rs) (h0 : 0 < rs.length) (hn : rs.length ≤ 1024) (hs : ∀ a b, a ≤ b → b < rs.length → (rs.getD a default).at_ ≤ (rs.getD b default).at_) (hsz : s.size ≤ 9223372036854775807) :
    Calls Tryd.prog 38 #[.slice A rs.length c, .string s] w fun e w' => ∃ (i : Nat), e = .returned (.int .i64 (chainAt rs i)) ∧ Cut rs (hashOf s) i ∧ Below w.heap.size w w' := by
  have HH := Lib.hid (hash_any s w hsz)
  have HBS := Lib.hid (fun w1 (hb : Below w.heap.size w w1) => bsearch_any A c rs (hashOf s) w1 (Kd.C_below hR hb) hn hs)
  have HR := Lib.hid hR
  have HCA := Lib.hid (show ∀ i, chainAt rs i = (rs.getD (i % rs.length) default).c from fun i => rfl)
  generalize hashOf s = hv at HH HBS ⊢
  clear hR hs
  obtain ⟨n, hrn⟩ : ∃ n, rs.length = n := ⟨_, rfl⟩
  have HN := Lib.hid hrn
  rw [hrn] at hn h0 HR HCA HBS ⊢
  clear hrn
  go_enter Tryd.func38, Tryd.ntmps38
  go_wp2_with fail
  refine HH.out.mono ?_
  rintro e w1 ⟨rfl, q, hw⟩
  have HB1 : Hid (Below w.heap.size w w1) := by rw [hw]; exact drawsBelow _ _ q
  clear hw HH
  go_wp2_with fail
  refine (HBS.out w1 HB1.out).mono ?_
  rintro e w2 ⟨i, b, rfl, hcut, hb2⟩
  have HB2 : Hid (Below w.heap.size w w2) := HB1.out.trans (hb2.mono HB1.out.size)
  have hin := hcut.1
  rw [HN.out] at hin
  have HCut := Lib.hid hcut
  clear hb2 hcut HBS
  have hlt : i % n < n := Nat.mod_lt _ h0
  obtain ⟨ad, rfl, c0, c1, c2⟩ := pt_at (Kd.C_below HR.out HB2.out) (i % n) hlt
  have hca := HCA.out i
  rw [← hca] at c1
  have hne : ¬ (n : Int) = 0 := by omega
  have hne2 : ((n : Int) == 0) = false := by simp; omega
  have hrem : Int.tmod (i : Int) (n : Int) = ((i % n : Nat) : Int) := by
    rw [Int.tmod_eq_emod_of_nonneg (by omega)]; rfl
  have hrem2 : ((i : Int) % (n : Int)) = ((i % n : Nat) : Int) := rfl
  clear hca c0 c2
  generalize i % n = m at *
  go_wp2
  go_ret
  exact ⟨i, rfl, HCut.out, HB2.out⟩
end Go.Proofs.YtdpbkpfdokgolaaDoor
