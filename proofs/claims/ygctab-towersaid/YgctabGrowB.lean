import Derived.Test.YgctabGrow
namespace Go.Proofs.Ygctab
open Go.RowKit
set_option linter.unusedVariables false
set_option linter.unusedSimpArgs false
set_option exponentiation.threshold 3000

/-- The sum of the magnitudes. -/
def magsL : List Nat → Nat
  | [] => 0
  | p :: ps => (fval p).natAbs + magsL ps

theorem growOk : ∀ (ps : List Nat) (x : Nat), Fin64 x → (∀ p ∈ ps, Fin64 p) → (fval x).natAbs + 2 * magsL ps ≤ capM → GrowOk ps x
  | [], x, _, _, _ => trivial
  | p :: ps, x, hx, hp, hb => by
    unfold magsL at hb
    obtain ⟨k, s1, e1, vs, ve⟩ := twoSum_spec hx (hp p (List.mem_cons_self ..)) (by omega) (by omega)
    refine ⟨k, growOk ps (tsS x p) s1 (fun q hq => hp q (List.mem_cons_of_mem _ hq)) ?_⟩
    have hn := rnd_near (fval x + fval p) (rep_fval x)
    rw [vs]
    generalize fval x = X at *
    generalize fval p = Pv at *
    generalize magsL ps = M at *
    omega

/-- A slice of words, read. -/
def RdU (w : World) (a : Option Addr) (n c : Nat) (ps : List Nat) : Prop :=
  n = ps.length ∧ ((a = none ∧ n = 0 ∧ c = 0) ∨ ∃ b off, a = some ⟨b, off, none⟩ ∧ ∀ i, i < ps.length → w.cell? ⟨b, off + i, none⟩ = some (.int .u64 ((ps[i]?.getD 0 : Nat) : Int)))
theorem RdU.up {w w' : World} {a : Option Addr} {n c : Nat} {ps : List Nat} (h : RdU w a n c ps) (u : Up w w') : RdU w' a n c ps := by
  obtain ⟨h1, h2⟩ := h
  refine ⟨h1, ?_⟩
  rcases h2 with h2 | ⟨b, off, e, hc⟩
  · exact .inl h2
  · exact .inr ⟨b, off, e, fun i hi => u.cell (hc i hi)⟩
theorem RdU.at {w : World} {a : Option Addr} {n c : Nat} {ps : List Nat} (h : RdU w a n c ps) : ∀ i, i < ps.length → ∃ b off, a = some ⟨b, off, none⟩ ∧ w.cell? ⟨b, off + i, none⟩ = some (.int .u64 ((ps[i]?.getD 0 : Nat) : Int)) := by
  intro i hi
  obtain ⟨h1, h2⟩ := h
  rcases h2 with ⟨-, h2, -⟩ | ⟨b, off, e, hc⟩
  · omega
  · exact ⟨b, off, e, hc i hi⟩

/-- patterns with no room to spare. -/
theorem patterns0 (a : Option Addr) (n c : Nat) (ps : List Nat) (w : World) (h : RdU w a n c ps) (hn : ps.length ≤ 4096) :
    Calls Tabg.prog 38 #[.slice a n c, .int .i64 0] w fun e w' => ∃ a' c', e = .returned (.slice a' n c') ∧ RdF w' a' n ps ∧ Up w w' := by
  obtain ⟨rfl, h2⟩ := h
  rcases h2 with ⟨rfl, h0, rfl⟩ | ⟨b, off, rfl, hc⟩
  · have : ps = [] := List.length_eq_zero_iff.1 h0
    subst this
    refine (patterns_nil w).mono ?_
    rintro e w' ⟨rfl, rfl⟩
    exact ⟨_, _, rfl, RdF.nil w none, Up.refl w⟩
  · refine (patterns_some b off c 0 ps w hc hn (by omega)).mono ?_
    rintro e w' ⟨rfl, hu, ho⟩
    exact ⟨_, _, rfl, ho.rdF, hu⟩

end Go.Proofs.Ygctab
