import Derived.Test.YgctabKaraA
import Derived.Test.YgctabKaraB
import Derived.Test.YgctabNatF
namespace Go.Proofs.Ygctab
open Go.RowKit
set_option linter.unusedVariables false
set_option linter.unusedSimpArgs false

theorem bv_halves (X : List Nat) (h : Nat) : bv X = bv (X.take h) + 256 ^ h * bv (X.drop h) := by
  rcases Nat.lt_or_ge X.length h with h1 | h1
  · rw [List.take_of_length_le (by omega), List.drop_of_length_le (by omega)]; simp [bv]
  · exact bv_split X h h1
theorem bv_take_lt {X : List Nat} (hd : Digs X) (h : Nat) : bv (X.take h) < 256 ^ h := by
  have h1 := bv_lt (hd.take h)
  have h2 : 256 ^ (X.take h).length ≤ 256 ^ h := Nat.pow_le_pow_right (by decide) (by simp; omega)
  omega
theorem bv_drop_lt {X : List Nat} (hd : Digs X) (h : Nat) : bv (X.drop h) < 256 ^ (X.length - h) := by
  have h1 := bv_lt (hd.drop h)
  rwa [List.length_drop] at h1

theorem bv_splice {cur ds : List Nat} {off : Nat} (h : off + ds.length ≤ cur.length) (hz : ∀ m, off ≤ m → cur[m]?.getD 0 = 0) : bv (splice cur off ds) = bv cur + 256 ^ off * bv ds := by
  have h0 : cur.drop off = List.replicate (cur.length - off) 0 := by
    refine List.ext_getElem (by simp) fun i h1 h2 => ?_
    have h3 : off + i < cur.length := by simp at h1; omega
    have := hz (off + i) (by omega)
    rw [List.getElem?_eq_getElem h3] at this
    simpa using this
  have h1 := bv_split cur off (by omega)
  have h2 : cur.drop (off + ds.length) = List.replicate (cur.length - off - ds.length) 0 := by
    rw [← List.drop_drop, h0, List.drop_replicate]
  rw [h0, bv_zeros] at h1
  unfold splice
  rw [bv_append, bv_append, h2, bv_zeros, List.length_take, Nat.min_eq_left (by omega), Nat.mul_zero, Nat.add_zero]
  omega
theorem splice_zero {cur ds : List Nat} {off m : Nat} (h : off + ds.length ≤ m) (hz : cur[m]?.getD 0 = 0) (hl : off + ds.length ≤ cur.length) : (splice cur off ds)[m]?.getD 0 = 0 := by
  unfold splice
  rw [List.getElem?_append_right (by simp; omega), List.getElem?_append_right (by simp; omega), List.getElem?_drop]
  simp only [List.length_take]
  rw [Nat.min_eq_left (by omega), show off + ds.length + (m - off - ds.length) = m by omega]
  exact hz
theorem splice_digs {cur ds : List Nat} (off : Nat) (h : Digs cur) (k : Digs ds) : Digs (splice cur off ds) := (h.take off).append (k.append (h.drop _))

set_option maxRecDepth 100000 in
set_option maxHeartbeats 800000 in
theorem halves_any (b off L c h : Nat) (X : List Nat) (w : World) (hX : RdB w (some ⟨b, off, none⟩) L X) (hc : L ≤ c) (hL : L ≤ 8192) (hh : h ≤ 8192) :
    Calls Tabg.prog 125 #[.slice (some ⟨b, off, none⟩) L c, .int .i64 h] w fun e w' => e = .returned (.tuple #[.slice (nrmA (some ⟨b, off, none⟩) (bv (X.take h))) (dig (bv (X.take h))).length (dig (bv (X.take h))).length, .slice (nrmA (some ⟨b, off + h, none⟩) (bv (X.drop h))) (dig (bv (X.drop h))).length (dig (bv (X.drop h))).length]) ∧ Up w w' := by
  have hl := hX.1
  by_cases hle : L ≤ h
  · have C1' := knormal_any (some ⟨b, off, none⟩) L c X w hX hc (by omega)
    have e1 : X.take h = X := List.take_of_length_le (by omega)
    have e2 : bv (X.drop h) = 0 := by rw [List.drop_of_length_le (by omega)]; rfl
    rw [e1, e2]
    have HR : Hid ((.slice (nrmA (some ⟨b, off + h, none⟩) 0) (dig 0).length (dig 0).length : Value) = .slice none 0 0) := by show _ = _; rw [dig_zero]; rfl
    rw [HR.out]
    have C1 : Hid (Calls Tabg.prog 124 #[.slice (some ⟨b, off, none⟩) L c] w fun e w' => e = .returned (.slice (nrmA (some ⟨b, off, none⟩) (bv X)) (dig (bv X)).length (dig (bv X)).length) ∧ w = w') := C1'
    generalize nrmA (some ⟨b, off, none⟩) (bv X) = A at *
    generalize (dig (bv X)).length = M at *
    have g : (L : Int) ≤ (h : Int) := by omega
    clear C1' e1 e2 HR hX hl
    go_enter Tabg.func125, Tabg.ntmps125
    go_wp2_with (fail)
    refine (C1.out).mono ?_
    rintro e w' ⟨rfl, rfl⟩
    go_wp2_with (fail)
    first | go_ret2 | go_ret
    exact ⟨rfl, Up.refl _⟩
  · obtain ⟨D, hD⟩ : ∃ D, D = L - h := ⟨_, rfl⟩
    have hs1 := fun w' => run_slice0 (P := Tabg.prog) 87 5 1 Tabg.underlying87 (by kernel_rfl) b off L c h h .i64 .i64 (h : Int) (h : Int) rfl rfl (Nat.le_refl _) (by omega) w'
    have hs2 : ∀ w' : World, (Instr.slice 87 (.slice (some ⟨b, off, none⟩) L c) (some (.int .i64 (h : Int))) (some (.int .i64 (L : Int))) (some (.int .i64 (L : Int)))).run Tabg.prog w' = .ok (.slice (some ⟨b, off + h, none⟩) D D) w' := fun w' => by
      have := run_slice3 (P := Tabg.prog) 87 5 1 Tabg.underlying87 (by kernel_rfl) b off L c h L L .i64 .i64 .i64 (h : Int) (L : Int) (L : Int) rfl rfl rfl (by omega) (Nat.le_refl _) (by omega) (by omega) w'
      rw [this, Nat.mul_one, hD]
    have r1 := hX.take (m := h) (by omega)
    have r2 : RdB w (some ⟨b, off + h, none⟩) D (X.drop h) := by
      refine ⟨by simp; omega, hX.2.1.drop h, fun i hi => ⟨b, off + h, rfl, ?_⟩⟩
      have hi' : h + i < X.length := by simp at hi; omega
      obtain ⟨b2, off2, e, hc2⟩ := hX.2.2 (h + i) hi'
      cases e
      rw [List.getElem?_drop, Nat.add_assoc]
      exact hc2
    have cA : ∀ k, Calls Tabg.prog 124 #[.slice (some ⟨b, off, none⟩) h h] (w.drewN k) fun e w' => e = .returned (.slice (nrmA (some ⟨b, off, none⟩) (bv (X.take h))) (dig (bv (X.take h))).length (dig (bv (X.take h))).length) ∧ w' = w.drewN k := fun k =>
      (knormal_any (some ⟨b, off, none⟩) h h _ (w.drewN k) (r1.up ((Up.refl w).drewN k)) (Nat.le_refl _) (by omega)).mono fun _ _ h => ⟨h.1, h.2.symm⟩
    have cB : ∀ k, Calls Tabg.prog 124 #[.slice (some ⟨b, off + h, none⟩) D D] (w.drewN k) fun e w' => e = .returned (.slice (nrmA (some ⟨b, off + h, none⟩) (bv (X.drop h))) (dig (bv (X.drop h))).length (dig (bv (X.drop h))).length) ∧ w' = w.drewN k := fun k =>
      (knormal_any (some ⟨b, off + h, none⟩) D D _ (w.drewN k) (r2.up ((Up.refl w).drewN k)) (Nat.le_refl _) (by omega)).mono fun _ _ h => ⟨h.1, h.2.symm⟩
    generalize nrmA (some ⟨b, off, none⟩) (bv (X.take h)) = A1 at *
    generalize (dig (bv (X.take h))).length = M1 at *
    generalize nrmA (some ⟨b, off + h, none⟩) (bv (X.drop h)) = A2 at *
    generalize (dig (bv (X.drop h))).length = M2 at *
    have g : decide ((L : Int) ≤ (h : Int)) = false := decide_eq_false (by omega)
    have g' : (h : Int) < (L : Int) := by omega
    generalize off + h = off2 at *
    clear r1 r2 hX hl hD hle
    go_enter Tabg.func125, Tabg.ntmps125
    go_upto_region 3 with fail
    go_quiet (first | (go_at_call 124; first | (with_reducible exact Calls.quiet_of_same (cA _)) | (with_reducible exact Calls.quiet_of_same (cB _))))
    go_wp2_with (fail)
    first | go_ret2 | go_ret
    exact ⟨rfl, (Up.refl w).drewN _⟩
end Go.Proofs.Ygctab
