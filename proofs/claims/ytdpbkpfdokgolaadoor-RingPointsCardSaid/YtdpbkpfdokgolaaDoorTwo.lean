/- Two rows of one's own that are appended to in one statement whose order is drawn. -/
import Derived.Test.YtdpbkpfdokgolaaDoorBase
import Derived.Deep.RegionLaw
import Derived.Deep.AppendLies
set_option linter.unusedVariables false
set_option linter.unusedSimpArgs false
namespace Go.Proofs.YtdpbkpfdokgolaaDoor
open Go.RowKit Go.Proofs.YtdpbkpfdokgolaaDoorW.PrintWords

/-- Two rows of one-cell elements, apart from each other. -/
structure Two (w0 W : World) (B ea : Nat) (va : Value) (xa : List Value) (eb : Nat) (vb : Value) (xb : List Value) : Prop where
  oa : W.ownsRow B ea 1 va xa.length xa
  ob : W.ownsRow B eb 1 vb xb.length xb
  ne : ∀ k, va.ownBlock = some k → vb.ownBlock ≠ some k
  bel : Below B w0 W

section
variable {w0 W : World} {B ea eb : Nat} {va vb : Value} {xa xb : List Value}
theorem Two.size (h : Two w0 W B ea va xa eb vb xb) (hB : B ≤ w0.heap.size) : B ≤ W.heap.size := Nat.le_trans hB h.bel.size
theorem Two.alloc (h : Two w0 W B ea va xa eb vb xb) (hB : B ≤ w0.heap.size) (o : Obj) : Two w0 (W.alloc o) B ea va xa eb vb xb := ⟨h.oa.alloc _, h.ob.alloc _, h.ne, h.bel.alloc (h.size hB) o⟩
theorem Two.drew (h : Two w0 W B ea va xa eb vb xb) : Two w0 W.drew B ea va xa eb vb xb := ⟨h.oa, h.ob, h.ne, ⟨h.bel.os, h.bel.tape, h.bel.output, h.bel.size, h.bel.block⟩⟩
theorem Two.swap (h : Two w0 W B ea va xa eb vb xb) : Two w0 W B eb vb xb ea va xa := ⟨h.ob, h.oa, fun k hk he => h.ne k he hk, h.bel⟩

theorem own_lt' {w : World} {base e size n : Nat} {v : Value} {xs : List Value} (h : w.ownsRow base e size v n xs) (k : Nat) (hk : v.ownBlock = some k) : k < w.heap.size := by
  obtain ⟨cells, hb⟩ := own_typed h k hk
  exact blk_lt hb

variable {P : Program} {ops : Array Oper} {o : Oper} {a : Act} {Q : Exit → Act → World → Prop} {K : Act → World → Prop} {E : Prop}
/-- An append to the first of the two, as one step of a region that draws its order. -/
theorem step_two_a (hw : o.guard = none) (s x : Operand) (t : TypeId) (z : Value) (bytes : Nat)
    (ho : o.op = .call { callee := .builtin .append, args := #[s, x], argTypes := #[t, t] })
    (ht : P.underlying t = some (.slice ea)) (hinfo : (P.info? ea).map (fun i => (i.zero, i.size, i.bytes)) = some (some z, 1, bytes)) (hz : z.cells.size = 1) (hb0 : 0 < bytes)
    (hs : a.eval s = va) (ad : Addr) (c : Nat) (u : Value) (hx : a.eval x = .slice (some ad) 1 c) (hu : W.cell? ad = some u) (h1 : u.oneCell' = true)
    (hB : B ≤ w0.heap.size) (hl : (xa.length + 1) * bytes ≤ 140737488355328) (hT : Two w0 W B ea va xa eb vb xb) (N : Nat) (hN : ∀ k, va.ownBlock = some k → k < N)
    (h : ∀ v1 w1, Two w0 w1 B ea v1 (xa ++ [u]) eb vb xb → (∀ b j, N ≤ b → b < W.heap.size → w1.cell? ⟨b, j, none⟩ = W.cell? ⟨b, j, none⟩) → W.heap.size ≤ w1.heap.size → K (a.put o.dst v1) w1) :
    if Region.wanted o (yielded ops a.tmps) = true then Oper.wp P o a W K Q else E := by
  have hwn : Region.wanted o (yielded ops a.tmps) = true := by simp [Region.wanted, hw]
  rw [if_pos hwn]
  obtain ⟨i0, hi, hzz⟩ := Option.map_eq_some_iff.1 hinfo
  simp only [Prod.mk.injEq] at hzz
  obtain ⟨hz0, hz1, hz2⟩ := hzz
  have hlen : xa.length + 1 ≤ 140737488355328 := Nat.le_trans (Nat.le_mul_of_pos_right _ hb0) hl
  obtain ⟨v1, w1, hr, hown, hg, _, hat⟩ := run_append_own_at (P := P) W B t o.type ea i0 z 1 bytes ht hi hz0 hz1 hz2 hz (by omega) va xa.length xa hT.oa ad 1 c [u] (by simp)
    (fun j u' hj => by
      match j, hj with
      | 0, hj =>
        simp at hj
        subst hj
        rw [show ad.add 0 = ad by cases ad; rfl]
        exact hu) (fun u' hu' => by rw [List.mem_singleton.1 hu']; exact h1) (by simp only [maxLen]; omega) hl (hT.size hB)
  unfold Oper.wp execOp
  simp only [ho, resolve, invoke, builtin, Sem.run_bind, Sem.run_pure, Result.andThen_ok, List.map_toArray, List.map_cons, List.map_nil, hs, hx, hr]
  refine h v1 w1 ⟨by simpa using hown, ?_, ?_, ?_⟩ ?_ hg.size
  · refine own_other hT.ob hg ?_
    rcases hv : vb.ownBlock with _ | k
    · exact .inl rfl
    · refine .inr (fun e => ?_)
      exact hT.ne k e.symm hv
  · intro k hk he
    rcases hat with hat | hat
    · rw [hat] at hk; exact hT.ne k hk he
    · rw [hat] at hk
      cases hk
      have := own_lt' hT.ob _ he
      omega
  · exact hT.bel.grown hg (hT.size hB) (fun k hk => own_base hT.oa k hk)
  · intro b j hb hlt
    have hne : some b ≠ va.ownBlock := fun e => by have := hN b e.symm; omega
    have := hg.block b hlt hne
    simp only [World.cell?, this]
end
end Go.Proofs.YtdpbkpfdokgolaaDoor
