import Derived.Test.YgctabNatD
import Derived.Test.YgctabNatE
namespace Go.Proofs.Ygctab
open Go.RowKit
set_option linter.unusedVariables false
set_option linter.unusedSimpArgs false

theorem Res.up {w w1 w2 : World} {e : Ending} {v : Nat} (h : Res w1 w2 e v) (u : Up w w1) : Res w w2 e v := by
  obtain ⟨B, zs, he, hB, hu, hv⟩ := h
  exact ⟨B, zs, he, Nat.le_trans u.size hB, u.trans hu, hv⟩

set_option maxRecDepth 100000 in
theorem succ_any (a : Option Addr) (n c : Nat) (xs : List Nat) (w : World) (h : RdB w a n xs) (hc : n ≤ c) (hn : n ≤ 4096) :
    Calls Tabg.prog 68 #[.slice a n c] w fun e w' => Res w w' e (bv xs + 1) := by
  have hO := Own.new w 5 #[.int .u8 1]
  have hO' : Own (w.alloc (.cells #[.int .u8 1] 5)) w.heap.size 5 (u8s [1]) := hO
  have hR := Own.rdB hO' (by intro d hd; simp at hd; omega)
  have C1 : Hid (Calls Tabg.prog 69 #[.slice a n c, .slice (some ⟨w.heap.size, 0, none⟩) 1 1] (w.alloc (.cells #[.int .u8 1] 5)) fun e w' => Res (w.alloc (.cells #[.int .u8 1] 5)) w' e (bv xs + 1)) := by
    have := add_any a (some ⟨w.heap.size, 0, none⟩) n 1 c 1 xs [1] _ (h.up ((Up.refl w).alloc _)) hR hc (Nat.le_refl _) hn (by decide)
    exact this
  clear h hO hO' hR
  go_enter Tabg.func68, Tabg.ntmps68
  go_wp2_with (fail)
  refine (C1.out).mono ?_
  rintro e w' ⟨B, zs, rfl, hB, hu, hv⟩
  have HV : Hid (Res w w' (.returned (.slice (nrmA (some ⟨B, 0, none⟩) (bv xs + 1)) (dig (bv xs + 1)).length (dig (bv xs + 1)).length)) (bv xs + 1)) := Res.up (w1 := w.alloc (.cells #[.int .u8 1] 5)) ⟨B, zs, rfl, hB, hu, hv⟩ ((Up.refl w).alloc _)
  clear hB hu hv C1
  go_wp2_with (fail)
  go_ret
  exact HV.out

set_option maxRecDepth 100000 in
theorem take_nil (w : World) : Calls Tabg.prog 62 #[.slice none 0 0] w fun e w' => e = .returned (.slice none 0 0) ∧ w = w' := by
  have C1 : Hid (Calls Tabg.prog 122 #[.slice none 0 0] w fun e w' => e = .returned (.slice none 0 0) ∧ w = w') := by
    have := trim_any none 0 0 [] w (RdB.nil _ _) (Nat.le_refl _) (by decide)
    rw [show bv [] = 0 from rfl, dig_zero] at this
    exact this
  have hn := nil87
  go_enter Tabg.func62, Tabg.ntmps62
  go_wp2_with (fail)
  refine (C1.out).mono ?_
  rintro e w' ⟨rfl, rfl⟩
  go_wp2_with (fail)
  go_ret
  exact ⟨rfl, rfl⟩

set_option maxRecDepth 100000 in
set_option maxHeartbeats 1600000 in
theorem take_some (b off n c : Nat) (ds : List Nat) (w : World) (h : RdB w (some ⟨b, off, none⟩) n ds) (hc : n ≤ c) (hn : n ≤ 4611686018427387904) :
    Calls Tabg.prog 62 #[.slice (some ⟨b, off, none⟩) n c] w fun e w' => Res w w' e (bv (ds.take 1024)) := by
  obtain ⟨m, hm⟩ : ∃ m, m = min n 1024 := ⟨_, rfl⟩
  have hl := h.1
  have hrm := h.take (m := m) (by omega)
  have htk : ds.take m = ds.take 1024 := by
    rcases Nat.lt_or_ge n 1024 with h1 | h1
    · rw [List.take_of_length_le (by omega), List.take_of_length_le (by omega)]
    · rw [show m = 1024 by omega]
  rw [htk] at hrm
  have C1 : Hid (Calls Tabg.prog 122 #[.slice (some ⟨b, off, none⟩) m m] w fun e w' => e = .returned (.slice (nrmA (some ⟨b, off, none⟩) (bv (ds.take 1024))) (dig (bv (ds.take 1024))).length (dig (bv (ds.take 1024))).length) ∧ w = w') := trim_any _ m m _ w hrm (Nat.le_refl _) (by omega)
  have N1 := hrm.nrm
  have hL : (dig (bv (ds.take 1024))).length ≤ 1024 := Nat.le_trans (dig_len hrm.2.1) (by simp; omega)
  have hs := fun w' => run_slice0 (P := Tabg.prog) 24 5 1 Tabg.underlying24 (by kernel_rfl) b off n c m m .i64 .i64 (m : Int) (m : Int) rfl rfl (Nat.le_refl _) (by omega) w'
  have hbd := bv_dig (bv (ds.take 1024))
  have hdd := dig_digs (bv (ds.take 1024))
  generalize hv : bv (ds.take 1024) = v at *
  by_cases h0 : v = 0
  · subst h0
    have HR : Hid ((.slice (nrmA (some ⟨b, off, none⟩) 0) (dig 0).length (dig 0).length : Value) = .slice none 0 0) := by show _ = _; rw [dig_zero]; rfl
    have C2 : Hid (Calls Tabg.prog 122 #[.slice (some ⟨b, off, none⟩) m m] w fun e w' => e = .returned (.slice none 0 0) ∧ w = w') := by have := C1.out; rw [HR.out] at this; exact this
    have HF : Hid (Res w w (.returned (.slice none 0 0)) 0) := ⟨w.heap.size, [], by rw [dig_zero]; rfl, Nat.le_refl _, Up.refl _, fun h => absurd rfl h⟩
    have hnl := nil87
    clear C1 HR N1 hL hbd hdd hv h hrm htk
    by_cases h1 : 1024 < n
    · have hm4 : m = 1024 := by omega
      rw [hm4] at C2
      have g : (1024 : Int) < (n : Int) := by omega
      have hs' := fun w' => run_slice0 (P := Tabg.prog) 24 5 1 Tabg.underlying24 (by kernel_rfl) b off n c 1024 1024 .i64 .i64 1024 1024 rfl rfl (Nat.le_refl _) (by omega) w'
      clear hm hs hm4 hl
      go_enter Tabg.func62, Tabg.ntmps62
      go_wp2_with (fail)
      refine (C2.out).mono ?_
      rintro e w' ⟨rfl, rfl⟩
      go_wp2_with (fail)
      go_ret
      exact HF.out
    · obtain rfl : m = n := by omega
      have g : decide ((1024 : Int) < (m : Int)) = false := decide_eq_false (by omega)
      have g' : (m : Int) ≤ 1024 := by omega
      clear hm hl
      go_enter Tabg.func62, Tabg.ntmps62
      go_wp2_with (fail)
      refine (C2.out).mono ?_
      rintro e w' ⟨rfl, rfl⟩
      go_wp2_with (fail)
      go_ret
      exact HF.out
  · have C2 : Hid (Calls Tabg.prog 122 #[.slice (some ⟨b, off, none⟩) m m] w fun e w' => e = .returned (.slice (some ⟨b, off, none⟩) (dig v).length (dig v).length) ∧ w = w') := by have := C1.out; rw [nrmA_pos _ h0] at this; exact this
    rw [nrmA_pos _ h0] at N1
    have HR : Hid (RdB w (some ⟨b, off, none⟩) (dig v).length (dig v)) := N1
    have hmk := fun w => run_make_row' (P := Tabg.prog) 87 5 (.int .u8 0) 1 Tabg.underlying87 (by kernel_rfl) rfl .i64 .i64 (dig v).length (by omega) (by omega) w
    have hO := Own.made w 5 (.int .u8 0) (dig v).length
    have e0 : List.replicate (dig v).length (Value.int .u8 0) = u8s (List.replicate (dig v).length 0) := u8s_replicate (dig v).length 0
    rw [e0] at hO
    have HO : Hid (Own (w.alloc (.cells (madeCells #[.int .u8 0] (dig v).length) 5)) w.heap.size 5 (u8s (List.replicate (dig v).length 0))) := hO
    have hnl := some87 b off (dig v).length (dig v).length
    have HD : Hid (bv (dig v) = v ∧ Digs (dig v)) := ⟨hbd, hdd⟩
    have HF : Hid (∀ w', Own w' w.heap.size 5 (u8s (dig v)) → Up w w' → Res w w' (.returned (.slice (some ⟨w.heap.size, 0, none⟩) (dig v).length (dig v).length)) v) := fun w' ho hu => ⟨w.heap.size, dig v, by rw [nrmA_pos _ h0], Nat.le_refl _, hu, fun _ => ⟨ho, hdd, hbd⟩⟩
    clear C1 N1 hbd hdd hv h hrm htk hO e0 h0
    generalize dig v = D at *
    generalize hDl : D.length = L at *
    have HDL : Hid (D.length = L) := hDl
    clear hDl
    have LI : (L : Int) ≤ 1024 := by omega
    by_cases h1 : 1024 < n
    · have hm4 : m = 1024 := by omega
      rw [hm4] at C2
      have g : (1024 : Int) < (n : Int) := by omega
      have hs' := fun w' => run_slice0 (P := Tabg.prog) 24 5 1 Tabg.underlying24 (by kernel_rfl) b off n c 1024 1024 .i64 .i64 1024 1024 rfl rfl (Nat.le_refl _) (by omega) w'
      clear hm hs hm4 hl
      go_enter Tabg.func62, Tabg.ntmps62
      go_wp2_with (fail)
      refine (C2.out).mono ?_
      rintro e w' ⟨rfl, rfl⟩
      go_wp2_with (refine wpList_copyB rfl (.tmp 20) (.tmp 21) 87 87 rfl Tabg.underlying87 (some ⟨b, off, none⟩) L L L L w.heap.size 0 rfl rfl (List.replicate L 0) D 5 HO.out ((HR.out).up ((Up.refl w).alloc _)) (Nat.le_refl _) (by simp) w ((Up.refl w).alloc _) (Nat.le_refl _) ?_; intro w' hw hb)
      go_ret
      refine HF.out _ ?_ hb.out
      have := hw.out
      rwa [splice_all _ _ (by simp; exact (HDL.out).symm)] at this
    · obtain rfl : m = n := by omega
      have g : decide ((1024 : Int) < (m : Int)) = false := decide_eq_false (by omega)
      have g' : (m : Int) ≤ 1024 := by omega
      clear hm hl
      go_enter Tabg.func62, Tabg.ntmps62
      go_wp2_with (fail)
      refine (C2.out).mono ?_
      rintro e w' ⟨rfl, rfl⟩
      go_wp2_with (refine wpList_copyB rfl (.tmp 20) (.tmp 21) 87 87 rfl Tabg.underlying87 (some ⟨b, off, none⟩) L L L L w.heap.size 0 rfl rfl (List.replicate L 0) D 5 HO.out ((HR.out).up ((Up.refl w).alloc _)) (Nat.le_refl _) (by simp) w ((Up.refl w).alloc _) (Nat.le_refl _) ?_; intro w' hw hb)
      go_ret
      refine HF.out _ ?_ hb.out
      have := hw.out
      rwa [splice_all _ _ (by simp; exact (HDL.out).symm)] at this
end Go.Proofs.Ygctab
