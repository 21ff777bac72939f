/- Maps whose keys and elements are places; moves. -/
import Derived.Test.YtnpiphlmdjmfeaaB3
import Derived.Maps.OwnSet
import Derived.Maps.Views
import Derived.DeepKeys5
set_option linter.unusedVariables false
set_option linter.unusedSimpArgs false
namespace Go.Proofs.Ytnpiphlmdjmfeaa
open Go.RowKit Go.Proofs.YtnpiphlmdjmfeaaW.PrintWords Go.Maps

theorem lawP : Keyed Try.prog 42 := Keyed.of_law (deep_law_gate (by kernel_rfl) (of_decide_eq_true (by kernel_rfl)) (of_decide_eq_true (by kernel_rfl)) (by kernel_rfl) (by kernel_rfl))
theorem zero42 (w : World) : (zeroValue 42).run Try.prog w = .ok (.agg #[.int .i64 0, .int .i64 0, .int .i64 0]) w := by kernel_rfl

/-- What a place reads as, as a key. -/
def keyPl (p : Pl) : Lit := .string (keyBytes [.int .i64 p.f, .int .i64 p.a, .int .i64 p.l])
theorem keyIs (p : Pl) : WideAt.IsKeyLit (keyPl p) := by simp [WideAt.IsKeyLit, keyPl]

theorem keyOf_pl (p : Pl) (h : wfPl p) : keyOf Try.prog 42 (.agg #[.int .i64 p.f, .int .i64 p.a, .int .i64 p.l]) = some (keyPl p) := by
  obtain ⟨h1, h2, h3⟩ := h
  have e1 : (Lit.int .i64 p.f).wf = true := h1
  have e2 : (Lit.int .i64 p.a).wf = true := h2
  have e3 : (Lit.int .i64 p.l).wf = true := h3
  have hk : Try.prog.keyType 42 = true := by kernel_rfl
  have hc : Try.prog.cellsOf 42 = 3 := by kernel_rfl
  have hc3 : Try.prog.cellsOf 3 = 1 := by kernel_rfl
  obtain ⟨m, hm⟩ : ∃ m, Try.prog.types.size = m + 1 := ⟨116, by kernel_rfl⟩
  unfold keyOf
  simp only [Try.underlying42]
  rw [if_pos (by simp [hk, Value.formed, Try.underlying42, hc]), hm]
  unfold Program.keyLits
  simp only [Try.underlying42, Value.cells]
  rw [if_pos ⟨by rw [hc]; rfl, by kernel_rfl⟩]
  simp [hc3, Program.keyLits, Try.underlying3, e1, e2, e3, keyPl]

theorem keyPl_inj {p q : Pl} (hp : wfPl p) (hq : wfPl q) (h : keyPl p = keyPl q) : p = q := by
  have h1 := keyOf_pl p hp
  have h2 := keyOf_pl q hq
  rw [← h] at h2
  have := lawP.inj h1 h2
  obtain ⟨a, b, c⟩ := p
  obtain ⟨d, e, f⟩ := q
  simp at this
  simp [this]

/-- How a place reads, as an element. -/
def datPl (p : Pl) : DataW Unit := .agg [.lit (.int .i64 p.f), .lit (.int .i64 p.a), .lit (.int .i64 p.l)]
open Classical in
noncomputable def readPl (v : Value) : Option (DataW Unit × List MemPlace) :=
  if h : ∃ p : Pl, v = .agg #[.int .i64 p.f, .int .i64 p.a, .int .i64 p.l] then some (datPl (Classical.choose h), []) else none
theorem datPl_inj {p q : Pl} (h : datPl p = datPl q) : p = q := by
  obtain ⟨a, b, c⟩ := p
  obtain ⟨d, e, f⟩ := q
  simpa [datPl] using h
theorem aggPl_inj {p q : Pl} (h : Value.agg #[.int .i64 p.f, .int .i64 p.a, .int .i64 p.l] = .agg #[.int .i64 q.f, .int .i64 q.a, .int .i64 q.l]) : p = q := by
  obtain ⟨a, b, c⟩ := p
  obtain ⟨d, e, f⟩ := q
  simpa using h
theorem readPl_mk (p : Pl) : readPl (.agg #[.int .i64 p.f, .int .i64 p.a, .int .i64 p.l]) = some (datPl p, []) := by
  have hex : ∃ q : Pl, Value.agg #[.int .i64 p.f, .int .i64 p.a, .int .i64 p.l] = .agg #[.int .i64 q.f, .int .i64 q.a, .int .i64 q.l] := ⟨p, rfl⟩
  unfold readPl
  rw [dif_pos hex, ← aggPl_inj (Classical.choose_spec hex)]
theorem readPl_inv {v : Value} {p : Pl} {ps : List MemPlace} (h : readPl v = some (datPl p, ps)) : v = .agg #[.int .i64 p.f, .int .i64 p.a, .int .i64 p.l] := by
  unfold readPl at h
  split at h
  · rename_i hex
    simp only [Option.some.injEq, Prod.mk.injEq] at h
    have h2 := Classical.choose_spec hex
    rw [datPl_inj h.1] at h2
    exact h2
  · cases h

/-- The map D tells of each place whether F tells it, and what. -/
structure TellsP (F : Pl → Option Pl) (D : DataW Unit) : Prop where
  isMap : IsMap D
  has_ : ∀ p, wfPl p → has D (keyPl p) = (F p).isSome
  at_ : ∀ p, wfPl p → ∀ z, D.atKey (keyPl p) (datPl z) = datPl ((F p).getD z)
theorem TellsP.empty : TellsP (fun _ => none) (.map []) := ⟨isMap_empty, fun f _ => by simp [has], fun f _ z => by simp [DataW.atKey]⟩
theorem TellsP.put {F : Pl → Option Pl} {D : DataW Unit} (h : TellsP F D) {p : Pl} (hp : wfPl p) (q : Pl) : TellsP (fun x => if x = p then some q else F x) (D.put (keyPl p) (datPl q)) := by
  refine ⟨h.isMap.put _ _, fun x hx => ?_, fun x hx z => ?_⟩
  · by_cases e : x = p
    · subst e
      rw [has_put_same h.isMap (keyIs _)]
      simp
    · rw [has_put_other (fun e2 => e (keyPl_inj hx hp e2)), h.has_ x hx]
      simp [e]
  · by_cases e : x = p
    · subst e
      rw [atKey_put_same h.isMap (keyIs _)]
      simp
    · rw [atKey_put_other (fun e2 => e (keyPl_inj hx hp e2)), h.at_ x hx]
      simp [e]

/-- Asked: what stands there, and whether. -/
theorem look_pl {w : World} {b n : Nat} {D : DataW Unit} {F : Pl → Option Pl} (h : w.ownsMap Try.prog 42 readPl b n D) (hT : TellsP F D) {p : Pl} (hp : wfPl p) :
    (Instr.lookup 40 (.map (some b)) (.agg #[.int .i64 p.f, .int .i64 p.a, .int .i64 p.l]) true).run Try.prog w =
      .ok (.tuple #[.agg #[.int .i64 ((F p).getD ⟨0, 0, 0⟩).f, .int .i64 ((F p).getD ⟨0, 0, 0⟩).a, .int .i64 ((F p).getD ⟨0, 0, 0⟩).l], .bool (F p).isSome]) w := by
  obtain ⟨v, ps, hrun, hv⟩ := h.look_ok lawP Try.underlying40 (zero42 w) (readPl_mk ⟨0, 0, 0⟩) (keyOf_pl p hp)
  rw [hT.at_ p hp] at hv
  rw [hT.has_ p hp, readPl_inv hv] at hrun
  exact hrun

/-- A move: from a place to another one. -/
structure Mv where
  s : Pl
  t : Pl
deriving Inhabited
def encMv (m : Mv) : List Value := [.int .i64 m.s.f, .int .i64 m.s.a, .int .i64 m.s.l, .int .i64 m.t.f, .int .i64 m.t.a, .int .i64 m.t.l]
theorem encMv_len (m : Mv) : (encMv m).length = 6 := rfl
theorem encMv_one (m : Mv) : ∀ v ∈ encMv m, v.oneCell' = true := by
  intro v hv
  simp [encMv] at hv
  rcases hv with rfl | rfl | rfl | rfl | rfl | rfl <;> rfl
def kMv : Kd Mv := flatKd encMv 6 encMv_len encMv_one
def wfMv (m : Mv) : Prop := wfPl m.s ∧ wfPl m.t

/-- Where a place was moved to: by the first move that names it. -/
def toF : List Mv → Pl → Option Pl
  | [], _ => none
  | m :: r, p => if p = m.s then some m.t else toF r p
def swF (ms : List Mv) (p : Pl) : Pl := (toF ms p).getD p

theorem mv_at {w : World} {A : Option Addr} {n : Nat} {xs : List Mv} (h : kMv.C w A n xs) (k : Nat) (hk : k < n) :
    ∃ ad, A = some ad ∧ w.cell? (ad.add (k * 6)) = some (.int .i64 (xs.getD k default).s.f) ∧ w.cell? ⟨(ad.add (k * 6)).block, (ad.add (k * 6)).off + 1, none⟩ = some (.int .i64 (xs.getD k default).s.a) ∧ w.cell? ⟨(ad.add (k * 6)).block, (ad.add (k * 6)).off + 2, none⟩ = some (.int .i64 (xs.getD k default).s.l) ∧
      w.cell? ⟨(ad.add (k * 6)).block, (ad.add (k * 6)).off + 3, none⟩ = some (.int .i64 (xs.getD k default).t.f) ∧ w.cell? ⟨(ad.add (k * 6)).block, (ad.add (k * 6)).off + 4, none⟩ = some (.int .i64 (xs.getD k default).t.a) ∧ w.cell? ⟨(ad.add (k * 6)).block, (ad.add (k * 6)).off + 5, none⟩ = some (.int .i64 (xs.getD k default).t.l) := by
  obtain ⟨ad, e, hc⟩ := flat_at h default (k : Int) (by omega) (by omega)
  have hc' : ∀ j u, (encMv (xs.getD k default))[j]? = some u → w.cell? (ad.add (k * 6 + j)) = some u := hc
  exact ⟨ad, e, hc' 0 _ rfl, by rw [← add_field _ _ 1 (by omega)]; exact hc' 1 _ rfl, by rw [← add_field _ _ 2 (by omega)]; exact hc' 2 _ rfl, by rw [← add_field _ _ 3 (by omega)]; exact hc' 3 _ rfl, by rw [← add_field _ _ 4 (by omega)]; exact hc' 4 _ rfl, by rw [← add_field _ _ 5 (by omega)]; exact hc' 5 _ rfl⟩
end Go.Proofs.Ytnpiphlmdjmfeaa
