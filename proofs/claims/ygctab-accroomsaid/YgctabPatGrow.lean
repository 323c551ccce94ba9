import Derived.Test.YgctabGrowSpec
namespace Go.Proofs.Ygctab
open Go.RowKit
set_option linter.unusedVariables false
set_option linter.unusedSimpArgs false
set_option exponentiation.threshold 6000

theorem growL_length : ∀ (ps : List Nat) (x : Nat), (growL ps x).1.length ≤ ps.length
  | [], x => by simp [growL]
  | p :: ps, x => by
    have := growL_length ps (tsS x p)
    unfold growL
    split
    · simp; omega
    · simp; omega
theorem growR_length (ps : List Nat) (x : Nat) : (growR ps x).length ≤ ps.length + 1 := by
  have := growL_length ps x
  unfold growR
  split
  · omega
  · simp; omega

/-- patterns, then Grow. -/
theorem patGrow (a : Option Addr) (n c sp x : Nat) (ps : List Nat) (w : World) (h : RdU w a n c ps) (hn : ps.length ≤ 4000) (hsp : sp ≤ 8) :
    Calls Tabg.prog 38 #[.slice a n c, .int .i64 sp] w fun e w' => ∃ v, e = .returned v ∧ Up w w' ∧ (GrowOk ps x → ∀ w'', Up w' w'' →
      Calls Tabg.prog 40 #[v, .float .f64 x] w'' fun e w3 => ∃ a' n' c', e = .returned (.slice a' n' c') ∧ RdF w3 a' n' (growR ps x) ∧ Up w w3) := by
  obtain ⟨rfl, h2⟩ := h
  rcases h2 with ⟨rfl, h0, rfl⟩ | ⟨b, off, rfl, hc⟩
  · obtain rfl : ps = [] := List.length_eq_zero_iff.1 h0
    by_cases hs : sp = 0
    · subst hs
      refine (patterns_nil w).mono ?_
      rintro e w' ⟨rfl, rfl⟩
      refine ⟨_, rfl, Up.refl w, fun _ w'' hu => ?_⟩
      cases hz : isz x
      · refine (grow_nil x w'' hz).mono ?_
        rintro e w3 ⟨a', c', rfl, hr, hu3⟩
        exact ⟨_, _, _, rfl, by simp only [growR, growL, hz]; exact hr, hu.trans hu3⟩
      · refine (grow_nil_zero x w'' hz).mono ?_
        rintro e w3 ⟨rfl, rfl⟩
        exact ⟨_, _, _, rfl, by simp only [growR, growL, hz]; exact RdF.nil _ _, hu⟩
    · refine (patterns_none sp w (by omega) hsp).mono ?_
      rintro e w' ⟨rfl, hu1, ho⟩
      refine ⟨_, rfl, hu1, fun hk w'' hu => ?_⟩
      have := grow_some w.heap.size [] (List.replicate sp 0) x w'' (ho.up hu) (by simp) (by simpa using hsp) hk
      simp only [List.length_nil, List.length_replicate, Nat.zero_add] at this
      refine this.mono ?_
      rintro e w3 ⟨a', n', c', rfl, hr, hm⟩
      exact ⟨_, _, _, rfl, hr, (hu1.trans hu).ofMod hm (Nat.le_refl _)⟩
  · refine (patterns_some b off c sp ps w hc (by omega) hsp).mono ?_
    rintro e w' ⟨rfl, hu1, ho⟩
    refine ⟨_, rfl, hu1, fun hk w'' hu => ?_⟩
    have := grow_some w.heap.size ps (List.replicate sp 0) x w'' (ho.up hu) (by omega) (by simpa using hsp) hk
    simp only [List.length_replicate] at this
    refine this.mono ?_
    rintro e w3 ⟨a', n', c', rfl, hr, hm⟩
    exact ⟨_, _, _, rfl, hr, (hu1.trans hu).ofMod hm (Nat.le_refl _)⟩
end Go.Proofs.Ygctab
