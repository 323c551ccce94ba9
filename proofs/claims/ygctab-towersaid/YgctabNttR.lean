import Derived.Test.YgctabNttQ
namespace Go.Proofs.Ygctab
open Go.RowKit
set_option linter.unusedVariables false
set_option linter.unusedSimpArgs false

theorem inverseL_length (k : Nat) (xs : List Int) : (inverseL k xs).length = xs.length := by simp [inverseL, scaleL, transL_length]
theorem inverseL_in1 (k : Nat) (xs : List Int) : In1 (inverseL k xs) := by
  intro x hx
  simp only [inverseL, scaleL, List.mem_map] at hx
  obtain ⟨y, _, rfl⟩ := hx
  omega

set_option maxRecDepth 100000 in
theorem nconv_far (a a' : Option Addr) (n n' c c' : Nat) (w : World) (h : 512 < n ∨ 512 < n') (hn : n ≤ 4096) (hn' : n' ≤ 4096) :
    Calls Tabg.prog 130 #[.slice a n c, .slice a' n' c'] w fun e w' => e = .returned (.tuple #[.slice none 0 0, .bool false]) ∧ w = w' := by
  have nI : (n : Int) ≤ 4096 := by omega
  have nI' : (n' : Int) ≤ 4096 := by omega
  by_cases h1 : 512 < n
  · have g : (512 : Int) < (n : Int) := by omega
    clear h
    go_enter Tabg.func130, Tabg.ntmps130
    go_wp2
    first | go_ret2 | go_ret
    exact ⟨rfl, rfl⟩
  · have g : decide ((512 : Int) < (n : Int)) = false := decide_eq_false (by omega)
    have g' : (512 : Int) < (n' : Int) := by omega
    clear h h1
    go_enter Tabg.func130, Tabg.ntmps130
    go_wp2
    first | go_ret2 | go_ret
    exact ⟨rfl, rfl⟩

set_option maxRecDepth 100000 in
theorem nconv_empty (a a' : Option Addr) (n n' c c' : Nat) (w : World) (h : n = 0 ∨ n' = 0) (hn : n ≤ 512) (hn' : n' ≤ 512) :
    Calls Tabg.prog 130 #[.slice a n c, .slice a' n' c'] w fun e w' => e = .returned (.tuple #[.slice none 0 0, .bool true]) ∧ w = w' := by
  have g : decide ((512 : Int) < (n : Int)) = false := decide_eq_false (by omega)
  have g' : decide ((512 : Int) < (n' : Int)) = false := decide_eq_false (by omega)
  have nI : (n : Int) ≤ 512 := by omega
  have nI' : (n' : Int) ≤ 512 := by omega
  by_cases h1 : n = 0
  · subst h1
    clear h
    go_enter Tabg.func130, Tabg.ntmps130
    go_wp2
    first | go_ret2 | go_ret
    exact ⟨rfl, rfl⟩
  · obtain rfl : n' = 0 := by omega
    have z1 : decide ((n : Int) = 0) = false := decide_eq_false (by omega)
    have z2 : ((n : Int) == 0) = false := by simp; omega
    have z3 : decide (n = 0) = false := decide_eq_false h1
    clear h h1
    go_enter Tabg.func130, Tabg.ntmps130
    go_wp2
    first | go_ret2 | go_ret
    exact ⟨rfl, rfl⟩

set_option maxRecDepth 100000 in
set_option maxHeartbeats 3200000 in
theorem nconv_any (a a' : Option Addr) (la lb c c' : Nat) (xs ys : List Nat) (w : World) (hx : RdB w a la xs) (hy : RdB w a' lb ys) (hla : 1 ≤ la) (hlb : 1 ≤ lb) (hla' : la ≤ 512) (hlb' : lb ≤ 512) :
    Calls Tabg.prog 130 #[.slice a la c, .slice a' lb c'] w fun e w' => ∃ B, e = .returned (.tuple #[.slice (some ⟨B, 0, none⟩) (la + lb - 1) (la + lb - 1), .bool true]) ∧ Up w w' ∧ Own w' B 2 (ints .i64 (i64s (convL xs ys))) := by
  obtain ⟨M, hM⟩ : ∃ M, M = la + lb - 1 := ⟨_, rfl⟩
  have eM : (la : Int) + (lb : Int) - 1 = (M : Int) := by omega
  have HL : Hid (la = xs.length ∧ lb = ys.length ∧ Digs xs ∧ Digs ys ∧ M = la + lb - 1 ∧ 1 ≤ la ∧ 1 ≤ lb ∧ la ≤ 512 ∧ lb ≤ 512) := ⟨hx.1, hy.1, hx.2.1, hy.2.1, hM, hla, hlb, hla', hlb'⟩
  have HX : Hid (RdB w a la xs) := hx
  have HY : Hid (RdB w a' lb ys) := hy
  have g1 : decide ((512 : Int) < (la : Int)) = false := decide_eq_false (by omega)
  have g2 : decide ((512 : Int) < (lb : Int)) = false := decide_eq_false (by omega)
  have z1 : decide ((la : Int) = 0) = false := decide_eq_false (by omega)
  have z2 : ((la : Int) == 0) = false := by simp; omega
  have z3 : decide (la = 0) = false := decide_eq_false (by omega)
  have y1 : decide ((lb : Int) = 0) = false := decide_eq_false (by omega)
  have y2 : ((lb : Int) == 0) = false := by simp; omega
  have y3 : decide (lb = 0) = false := decide_eq_false (by omega)
  have laI : (la : Int) ≤ 512 := by omega
  have lbI : (lb : Int) ≤ 512 := by omega
  have MI : (M : Int) ≤ 1023 := by omega
  have M1 : (1 : Int) ≤ (M : Int) := by omega
  have hmk := fun w => run_make_row' (P := Tabg.prog) 155 2 (.int .i64 0) 8 Tabg.underlying155 (by kernel_rfl) rfl .i64 .i64 M (by omega) (by omega) w
  rw [← hM]
  clear hM hx hy hla hlb hla' hlb'
  go_enter Tabg.func130, Tabg.ntmps130
  go_wp2_with (fail)
  go_loop [7] (fun t => ∃ n k : Nat, t = .int .i64 n ∧ n ≤ 1024 ∧ 2 ≤ n ∧ Hid (n = 2 ^ k ∧ 1 ≤ k ∧ k ≤ 10)) (fun t => 1024 - (intOf t).toNat)
  case atStart => exact ⟨2, 1, rfl, by omega, by omega, ⟨rfl, by omega, by omega⟩⟩
  case round =>
    obtain ⟨n, k, rfl, hn, hn2, HK⟩ := hrel
    clear g1 g2 z1 z2 z3 y1 y2 y3
    by_cases hlt : n < M
    · have g3 : (n : Int) < (M : Int) := by omega
      have hk9 : n ≤ 512 ∧ k ≤ 9 := by
        have h1 := HK.out
        have h2 : k < 10 := by
          rcases Nat.lt_or_ge k 10 with h | h
          · exact h
          · have : 2 ^ 10 ≤ 2 ^ k := Nat.pow_le_pow_right (by decide) h
            omega
        have h3 : 2 ^ k ≤ 2 ^ 9 := Nat.pow_le_pow_right (by decide) (by omega)
        omega
      have nI : (n : Int) ≤ 512 := by omega
      have HK9 : Hid (k ≤ 9) := hk9.2
      have hn5 := hk9.1
      clear hk9 hmk
      go_wp2
      go_round
      case rel => exact ⟨n * 2, k + 1, by go_num, by omega, by omega, ⟨by rw [Nat.pow_succ, HK.out.1], by omega, by have := HK9.out; omega⟩⟩
      case measure => simp [intOf]; omega
    · have g3 : decide ((n : Int) < (M : Int)) = false := decide_eq_false (by omega)
      have HN : Hid (M ≤ n) := by show _ ≤ _; omega
      have g4 : (M : Int) ≤ (n : Int) := by omega
      have nI : (n : Int) ≤ 1024 := by omega
      have n0 : (2 : Int) ≤ (n : Int) := by omega
      have l1 : (elL n xs).length = n := elL_length (by have := HL.out; have := HN.out; omega)
      have l2 : (elL n ys).length = n := elL_length (by have := HL.out; have := HN.out; omega)
      have C1 : Hid (Calls Tabg.prog 154 #[.slice a la c, .int .i64 n] w fun e w' => e = .returned (.slice (some ⟨w.heap.size, 0, none⟩) n n) ∧ Up w w' ∧ Own w' w.heap.size 78 (ints .u32 (elL n xs))) := elems_any a la c n xs w HX.out (by omega) (by have := HL.out; have := HN.out; omega)
      have C2 : Hid (∀ w', Up w w' → Calls Tabg.prog 154 #[.slice a' lb c', .int .i64 n] w' fun e w'' => e = .returned (.slice (some ⟨w'.heap.size, 0, none⟩) n n) ∧ Up w' w'' ∧ Own w'' w'.heap.size 78 (ints .u32 (elL n ys))) := fun w' hu => elems_any a' lb c' n ys w' ((HY.out).up hu) (by omega) (by have := HL.out; have := HN.out; omega)
      have HC : Hid (∀ m, m < M → (inverseL k (mulL n (forwardL k (elL n xs)) (forwardL k (elL n ys))))[m]?.getD 0 = (((convL xs ys)[m]?.getD 0 : Nat) : Int)) := fun m hm => by
        have h := HL.out
        have h2 := HN.out
        exact ntt_conv k HK.out.2.1 (by have := HK.out.2.2; omega) xs ys h.2.2.1 h.2.2.2.1 (by omega) (by omega) (by omega) (by omega) n HK.out.1 (by omega) m (by omega)
      have CF : Hid (∀ (E : List Int) (b : Nat) (w' : World), E.length = n → In1 E → Own w' b 78 (ints .u32 E) → Calls Tabg.prog 57 #[.slice (some ⟨b, 0, none⟩) n n] w' fun e w'' => e = .returned (.bool true) ∧ Mod b w' w'' ∧ Own w'' b 78 (ints .u32 (forwardL k E))) := fun E b w' hl hin ho => by
        have := forward_yes b k E w' ho (by have := HK.out.2.2; omega) (by show _ = _; rw [hl]; exact HK.out.1) hin
        rwa [hl] at this
      have CI : Hid (∀ (E : List Int) (b : Nat) (w' : World), E.length = n → In1 E → Own w' b 78 (ints .u32 E) → Calls Tabg.prog 58 #[.slice (some ⟨b, 0, none⟩) n n] w' fun e w'' => e = .returned (.bool true) ∧ Mod b w' w'' ∧ Own w'' b 78 (ints .u32 (inverseL k E))) := fun E b w' hl hin ho => by
        have := inverse_yes b k E w' ho (by have := HK.out.2.2; omega) (by show _ = _; rw [hl]; exact HK.out.1) hin
        rwa [hl] at this
      have HE : Hid ((elL n xs).length = n ∧ (elL n ys).length = n ∧ In1 (elL n xs) ∧ In1 (elL n ys)) := ⟨l1, l2, elL_in1 HL.out.2.2.1, elL_in1 HL.out.2.2.2.1⟩
      clear l1 l2 hn2 hlt HX HY
      generalize elL n xs = E1 at *
      generalize elL n ys = E2 at *
      go_wp2_with (fail)
      refine (C1.out).mono ?_
      rintro e w1 ⟨rfl, hu, ho⟩
      have U1 : Hid (Up w w1) := hu
      have O1 : Hid (Own w1 w.heap.size 78 (ints .u32 E1)) := ho
      clear hu ho C1
      go_wp2_with (fail)
      refine (C2.out _ U1.out).mono ?_
      rintro e w2 ⟨rfl, hu, ho⟩
      have U2 : Hid (Up w w2) := (U1.out).trans hu
      have O2 : Hid (Own w2 w.heap.size 78 (ints .u32 E1) ∧ Own w2 w1.heap.size 78 (ints .u32 E2)) := ⟨Own.up O1.out hu, ho⟩
      have NE : Hid (w.heap.size < w1.heap.size) := (O1.out).lt
      clear hu ho C2 U1 O1
      go_wp2_with (fail)
      refine (CF.out E1 w.heap.size w2 HE.out.1 HE.out.2.2.1 O2.out.1).mono ?_
      rintro e w3 ⟨rfl, hm, ho⟩
      have U3 : Hid (Up w w3) := (U2.out).ofMod hm (Nat.le_refl _)
      have O3 : Hid (Own w3 w.heap.size 78 (ints .u32 (forwardL k E1)) ∧ Own w3 w1.heap.size 78 (ints .u32 E2)) := ⟨ho, Own.mod O2.out.2 hm (by have := NE.out; omega)⟩
      clear hm ho U2 O2
      go_wp2_with (fail)
      refine (CF.out E2 w1.heap.size w3 HE.out.2.1 HE.out.2.2.2 O3.out.2).mono ?_
      rintro e w4 ⟨rfl, hm, ho⟩
      have U4 : Hid (Up w w4) := (U3.out).ofMod hm (by have := NE.out; omega)
      have O4 : Hid (Own w4 w.heap.size 78 (ints .u32 (forwardL k E1)) ∧ Own w4 w1.heap.size 78 (ints .u32 (forwardL k E2))) := ⟨Own.mod O3.out.1 hm (by have := NE.out; omega), ho⟩
      have HF : Hid ((forwardL k E1).length = n ∧ (forwardL k E2).length = n ∧ In1 (forwardL k E1) ∧ In1 (forwardL k E2)) := ⟨by unfold forwardL; rw [transL_length]; exact HE.out.1, by unfold forwardL; rw [transL_length]; exact HE.out.2.1, transL_in _ _ _, transL_in _ _ _⟩
      clear hm ho U3 O3 CF
      generalize forwardL k E1 = F at *
      generalize forwardL k E2 = G at *
      have HZ : Hid ((mulL n F G).length = n ∧ In1 (mulL n F G) ∧ ∀ i, i < n → (mulL n F G)[i]? = some (F[i]?.getD 0 * G[i]?.getD 0 % 998244353)) := ⟨mulL_length n F G, mulL_in1 n F G, fun i hi => mulL_at F G hi⟩
      generalize mulL n F G = Z at *
      go_wp2_with (fail)
      go_loopw [10] (fun t wr => ∃ i : Nat, t = .int .i64 i ∧ i ≤ n ∧ Hid (Up w wr) ∧ Hid (Own wr w.heap.size 78 (ints .u32 (Z.take i ++ F.drop i)) ∧ Own wr w1.heap.size 78 (ints .u32 G))) (fun t _ => n - (intOf t).toNat)
      case atStart => exact ⟨0, rfl, by omega, U4, ⟨by rw [List.take_zero, List.nil_append, List.drop_zero]; exact O4.out.1, O4.out.2⟩⟩
      case round =>
        obtain ⟨i, rfl, hi, HU, HW⟩ := hrel
        clear U4 O4
        by_cases hlt : i < n
        · have hml : (Z.take i ++ F.drop i).length = n := by simp; have := HF.out.1; have := HZ.out.1; omega
          have cz := Own.int HW.out.1 (i := i) (by rw [hml]; exact hlt)
          rw [mix_at HF.out.1 HZ.out.1 hlt] at cz
          have fz := Own.free HW.out.1 i
          have cg' := Own.int HW.out.2 (i := i) (by rw [HF.out.2.1]; exact hlt)
          have b1 := (HF.out.2.2.1).at i
          have b2 := (HF.out.2.2.2).at i
          have HS : Hid ((Z.take i ++ F.drop i).set i (F[i]?.getD 0 * G[i]?.getD 0 % 998244353) = Z.take (i + 1) ++ F.drop (i + 1)) := mix_set HF.out.1 HZ.out.1 hlt (HZ.out.2.2 i hlt)
          generalize F[i]?.getD 0 = p at *
          generalize G[i]?.getD 0 = q at *
          have CM : Hid (∀ w, Calls Tabg.prog 50 #[.int .u32 p, .int .u32 q] w fun e w' => e = .returned (.int .u32 (p * q % 998244353)) ∧ w = w') := fun w => fl (mulMod p q w b1.1 (by omega) b2.1 (by omega))
          generalize p * q % 998244353 = r at *
          have i0 : (0 : Int) ≤ (i : Int) := by omega
          have im : (i : Int) < (n : Int) := by omega
          clear hml b1 b2 CI HC hmk
          go_wp2_with (fail)
          go_region_with (first | (go_at_call 50; refine (CM.out _).mono ?_; rintro e w' ⟨rfl, rfl⟩))
          all_goals go_wp2_with (fail)
          all_goals go_roundw
          all_goals first
            | (simp [intOf]; omega)
            | (refine ⟨i + 1, by go_num, by omega, ((HU.out).drewN _).setCell (Nat.le_refl _) _, ⟨?_, Own.other (Own.drewN HW.out.2 _) (by have := NE.out; show _ ≠ w.heap.size; omega) _⟩⟩
               rw [← HS.out]
               exact Own.setInt (Own.drewN HW.out.1 _) i _)
        · obtain rfl : n = i := by omega
          have OZ : Hid (Own wr w.heap.size 78 (ints .u32 Z)) := by
            have := HW.out.1
            rw [List.take_of_length_le (by rw [HZ.out.1]; exact Nat.le_refl _), List.drop_of_length_le (by rw [HF.out.1]; exact Nat.le_refl _), List.append_nil] at this
            exact this
          have UZ : Hid (Up w wr) := HU
          clear HW HU
          go_wp2_with (fail)
          refine (CI.out Z w.heap.size wr HZ.out.1 HZ.out.2.1 OZ.out).mono ?_
          rintro e w5 ⟨rfl, hm, ho⟩
          have U5 : Hid (Up w w5) := (UZ.out).ofMod hm (Nat.le_refl _)
          have O5 : Hid (Own w5 w.heap.size 78 (ints .u32 (inverseL k Z))) := ho
          have HR : Hid ((inverseL k Z).length = n ∧ In1 (inverseL k Z)) := ⟨by rw [inverseL_length]; exact HZ.out.1, inverseL_in1 _ _⟩
          have hO := Own.made w5 2 (.int .i64 0) M
          rw [ints_replicate] at hO
          have HO : Hid (Own (w5.alloc (.cells (madeCells #[.int .i64 0] M) 2)) w5.heap.size 2 (ints .i64 (List.replicate M 0))) := hO
          have HCC : Hid ((i64s (convL xs ys)).length = M ∧ ∀ m, m < M → (i64s (convL xs ys))[m]? = some ((inverseL k Z)[m]?.getD 0)) := by
            have h := HL.out
            have e1 : (i64s (convL xs ys)).length = M := by rw [i64s_length, convL_length]; omega
            refine ⟨e1, fun m hm' => ?_⟩
            have h2 := i64s_at (convL xs ys) m
            rw [List.getElem?_eq_getElem (by rw [e1]; exact hm')] at h2 ⊢
            rw [HC.out m hm', ← h2]
            rfl
          have SZ : Hid (w.heap.size < w5.heap.size) := ho.lt
          clear hm ho CI OZ UZ HC hO HZ HF
          generalize inverseL k Z = R at *
          generalize hC : i64s (convL xs ys) = C at *
          have HCe : Hid (i64s (convL xs ys) = C) := hC
          clear hC
          go_wp2_with (fail)
          go_loopw [12] (fun t wr => ∃ i : Nat, t = .int .i64 i ∧ i ≤ M ∧ Hid (Up w5 wr) ∧ Hid (Own wr w5.heap.size 2 (ints .i64 (C.take i ++ List.replicate (C.length - i) 0)))) (fun t _ => M - (intOf t).toNat)
          case atStart => exact ⟨0, rfl, by omega, (Up.refl w5).alloc _, by show Own _ _ _ _; rw [List.take_zero, List.nil_append, HCC.out.1]; exact HO.out⟩
          case round =>
            obtain ⟨i, rfl, hi, HU, HW⟩ := hrel
            clear hmk HO
            by_cases hlt : i < M
            · have k1 := (HU.out).cell (Own.int O5.out (i := i) (by rw [HR.out.1]; have := HN.out; omega))
              have b1 := (HR.out.2).at i
              have hml : (C.take i ++ List.replicate (C.length - i) 0).length = M := by simp; rw [HCC.out.1]; omega
              have cz := Own.int HW.out (i := i) (by rw [hml]; exact hlt)
              have fz := Own.free HW.out i
              generalize (C.take i ++ List.replicate (C.length - i) 0)[i]?.getD 0 = old at *
              have HS : Hid ((C.take i ++ List.replicate (C.length - i) 0).set i (R[i]?.getD 0) = C.take (i + 1) ++ List.replicate (C.length - (i + 1)) 0) := fillG C 0 i (by rw [HCC.out.1]; exact hlt) _ (HCC.out.2 i hlt)
              generalize R[i]?.getD 0 = r at *
              have r0 := b1.1
              have r1 := b1.2
              have i0 : (0 : Int) ≤ (i : Int) := by omega
              have im : (i : Int) < (M : Int) := by omega
              have imn : (i : Int) < (n : Int) := by have := HN.out; omega
              clear hml b1
              go_wp2
              go_roundw
              case rel =>
                refine ⟨i + 1, by go_num, by omega, (HU.out).setCell (Nat.le_refl _) _, ?_⟩
                show Own _ _ _ _
                rw [← HS.out]
                exact Own.setInt HW.out i _
              case measure => simp [intOf]; omega
            · obtain rfl : M = i := by omega
              go_wp2
              first | go_ret2 | go_ret
              refine ⟨w5.heap.size, rfl, (U5.out).trans HU.out, ?_⟩
              have := HW.out
              rw [List.take_of_length_le (by rw [HCC.out.1]; exact Nat.le_refl _), HCC.out.1, Nat.sub_self, List.replicate_zero, List.append_nil] at this
              rw [HCe.out]
              exact this

/-- A product with its word that it is sure. -/
def ResOk (w w' : World) (e : Ending) (v : Nat) : Prop :=
  ∃ B zs, e = .returned (.tuple #[.slice (nrmA (some ⟨B, 0, none⟩) v) (dig v).length (dig v).length, .bool true]) ∧ w.heap.size ≤ B ∧ Up w w' ∧ (v ≠ 0 → Own w' B 5 (u8s zs) ∧ Digs zs ∧ bv zs = v)

set_option maxRecDepth 100000 in
theorem mulNTT_far (a a' : Option Addr) (n n' c c' : Nat) (w : World) (h : 512 < n ∨ 512 < n') (hn : n ≤ 4096) (hn' : n' ≤ 4096) :
    Calls Tabg.prog 73 #[.slice a n c, .slice a' n' c'] w fun e w' => e = .returned (.tuple #[.slice none 0 0, .bool false]) ∧ Up w w' := by
  have C1 : Hid (Calls Tabg.prog 130 #[.slice a n c, .slice a' n' c'] w fun e w' => e = .returned (.tuple #[.slice none 0 0, .bool false]) ∧ w = w') := nconv_far a a' n n' c c' w h hn hn'
  have C2 : Hid (Calls Tabg.prog 129 #[.slice none 0 0] w fun e w' => e = .returned (.tuple #[.slice none 0 0, .bool true]) ∧ Up w w') := by
    refine (carry_any none 0 0 [] w (RdI.nil _ _ _) (fun x hx => by simp at hx) (by decide)).mono ?_
    rintro e w' ⟨B, zs, he, _, hu, _⟩
    refine ⟨?_, hu⟩
    rw [he, show bv [] = 0 from rfl, dig_zero]
    rfl
  clear h
  go_enter Tabg.func73, Tabg.ntmps73
  go_wp2_with (fail)
  refine (C1.out).mono ?_
  rintro e w' ⟨rfl, rfl⟩
  go_wp2_with (fail)
  refine (C2.out).mono ?_
  rintro e w1 ⟨rfl, hu⟩
  have U1 : Hid (Up w w1) := hu
  clear hu C1 C2
  go_wp2_with (fail)
  first | go_ret2 | go_ret
  exact ⟨rfl, U1.out⟩

set_option maxRecDepth 100000 in
theorem mulNTT_any (a a' : Option Addr) (n n' c c' : Nat) (xs ys : List Nat) (w : World) (hx : RdB w a n xs) (hy : RdB w a' n' ys) (hn : n ≤ 512) (hn' : n' ≤ 512) :
    Calls Tabg.prog 73 #[.slice a n c, .slice a' n' c'] w fun e w' => ResOk w w' e (bv xs * bv ys) := by
  have key : ∃ (A : Option Addr) (M : Nat) (cs : List Nat), bv cs = bv xs * bv ys ∧ (∀ x ∈ cs, x ≤ 33292800) ∧ M ≤ 4096 ∧ Calls Tabg.prog 130 #[.slice a n c, .slice a' n' c'] w fun e w' => ∃ A, e = .returned (.tuple #[.slice A M M, .bool true]) ∧ Up w w' ∧ RdI .i64 w' A M (i64s cs) := by
    by_cases h0 : n = 0 ∨ n' = 0
    · refine ⟨none, 0, [], ?_, fun x hx => by simp at hx, by decide, ?_⟩
      · have h1 := hx.1
        have h2 := hy.1
        rcases h0 with h | h
        · have : xs = [] := List.eq_nil_of_length_eq_zero (by omega)
          rw [this]; simp [bv]
        · have : ys = [] := List.eq_nil_of_length_eq_zero (by omega)
          rw [this]; simp [bv]
      · refine (nconv_empty a a' n n' c c' w h0 hn hn').mono ?_
        rintro e w' ⟨he, rfl⟩
        exact ⟨none, he, Up.refl _, RdI.nil _ _ _⟩
    · have h1 := hx.1
      have h2 := hy.1
      refine ⟨none, n + n' - 1, convL xs ys, convL_value xs ys (by omega) (by omega), convL_small hx.2.1 hy.2.1 (by omega), by omega, ?_⟩
      refine (nconv_any a a' n n' c c' xs ys w hx hy (by omega) (by omega) hn hn').mono ?_
      rintro e w' ⟨B, he, hu, ho⟩
      refine ⟨some ⟨B, 0, none⟩, he, hu, ?_⟩
      have := Own.rd ho
      rwa [i64s_length, convL_length, ← h1, ← h2] at this
  obtain ⟨_, M, cs, hval, hb, hM, C1'⟩ := key
  have C1 : Hid (Calls Tabg.prog 130 #[.slice a n c, .slice a' n' c'] w fun e w' => ∃ A, e = .returned (.tuple #[.slice A M M, .bool true]) ∧ Up w w' ∧ RdI .i64 w' A M (i64s cs)) := C1'
  have C2 : Hid (∀ (w' : World) (A : Option Addr), RdI .i64 w' A M (i64s cs) → Calls Tabg.prog 129 #[.slice A M M] w' fun e w'' => ∃ B zs, e = .returned (.tuple #[.slice (nrmA (some ⟨B, 0, none⟩) (bv cs)) (dig (bv cs)).length (dig (bv cs)).length, .bool true]) ∧ w'.heap.size ≤ B ∧ Up w' w'' ∧ (bv cs ≠ 0 → Own w'' B 5 (u8s zs) ∧ Digs zs ∧ bv zs = bv cs)) := fun w' A hr => carry_any A M M cs w' hr hb hM
  rw [← hval]
  generalize bv cs = v at *
  clear C1' hval hb hx hy
  go_enter Tabg.func73, Tabg.ntmps73
  go_wp2_with (fail)
  refine (C1.out).mono ?_
  rintro e w1 ⟨A, rfl, hu, hr⟩
  have U1 : Hid (Up w w1) := hu
  have R1 : Hid (RdI .i64 w1 A M (i64s cs)) := hr
  clear hu hr C1
  go_wp2_with (fail)
  refine (C2.out w1 A R1.out).mono ?_
  rintro e w2 ⟨B, zs, rfl, hB, hu, hv⟩
  have HF : Hid (ResOk w w2 (.returned (.tuple #[.slice (nrmA (some ⟨B, 0, none⟩) v) (dig v).length (dig v).length, .bool true])) v) := ⟨B, zs, rfl, Nat.le_trans (U1.out).size hB, (U1.out).trans hu, hv⟩
  clear hB hu hv C2
  go_wp2_with (fail)
  first | go_ret2 | go_ret
  exact HF.out
end Go.Proofs.Ygctab
