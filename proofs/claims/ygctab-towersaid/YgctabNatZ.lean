import Derived.Test.YgctabMulFft
import Derived.Test.YgctabKaraE
namespace Go.Proofs.Ygctab
open Go.RowKit
set_option linter.unusedVariables false
set_option linter.unusedSimpArgs false
set_option exponentiation.threshold 5000

/-- A slice of digits that is nil or leads to a plain place. -/
def Pl (A : Option Addr) (n : Nat) : Prop := (A = none ∧ n = 0) ∨ ∃ b off, A = some ⟨b, off, none⟩
theorem Pl.nil {A : Option Addr} {n : Nat} (h : Pl A n) (hA : A = none) : n = 0 := by
  rcases h with ⟨_, h2⟩ | ⟨b, off, h2⟩
  · exact h2
  · rw [h2] at hA; cases hA
theorem own_gen (A : Option Addr) (n c : Nat) (ds : List Nat) (w : World) (hA : Pl A n) (hc : A = none → c = 0) (h : RdB w A n ds) (hn : n ≤ 4096) :
    Calls Tabg.prog 60 #[.slice A n c] w fun e w' => ∃ X, e = .returned (.slice X n n) ∧ Up w w' ∧ RdB w' X n ds ∧ X.isNone = A.isNone ∧ Pl X n := by
  rcases hA with ⟨rfl, rfl⟩ | ⟨b, off, rfl⟩
  · obtain rfl := hc rfl
    refine (ownNat_nil w).mono ?_
    rintro e w' ⟨he, rfl⟩
    exact ⟨none, he, Up.refl _, h, rfl, .inl ⟨rfl, rfl⟩⟩
  · refine (ownNat_some b off n c ds w h hn).mono ?_
    rintro e w' ⟨he, hu, ho⟩
    refine ⟨_, he, hu, ?_, rfl, .inr ⟨_, _, rfl⟩⟩
    have := Own.rdB ho h.2.1
    rwa [← h.1] at this
theorem take_gen (A : Option Addr) (n : Nat) (ds : List Nat) (w : World) (hA : Pl A n) (h : RdB w A n ds) (hn : n ≤ 1024) :
    Calls Tabg.prog 62 #[.slice A n n] w fun e w' => ∃ P l, e = .returned (.slice P l l) ∧ Up w w' ∧ NS w' P l (bv ds) := by
  rcases hA with ⟨rfl, rfl⟩ | ⟨b, off, rfl⟩
  · refine (take_nil w).mono ?_
    rintro e w' ⟨he, rfl⟩
    have : ds = [] := List.eq_nil_of_length_eq_zero h.1.symm
    subst this
    exact ⟨none, 0, he, Up.refl _, NS.zero _⟩
  · refine (take_some b off n n ds w h (Nat.le_refl _) (by omega)).mono ?_
    rintro e w' ⟨B, zs, he, _, hu, hv⟩
    rw [List.take_of_length_le (by rw [← h.1]; exact hn)] at he hv
    exact ⟨_, _, he, hu, NS.ofRes hv⟩
/-- A number handed back. -/
def RN (w w' : World) (e : Ending) (v : Nat) : Prop := ∃ P l, e = .returned (.slice P l l) ∧ Up w w' ∧ NS w' P l v
theorem Res.rn {w w' : World} {e : Ending} {v : Nat} (h : Res w w' e v) : RN w w' e v := by
  obtain ⟨B, zs, he, _, hu, hv⟩ := h
  exact ⟨_, _, he, hu, NS.ofRes hv⟩
def RB (w w' : World) (e : Ending) (v : Nat) (b : Bool) : Prop := ∃ P l, e = .returned (.tuple #[.slice P l l, .bool b]) ∧ Up w w' ∧ NS w' P l v
theorem sub_rb (a a' : Option Addr) (n n' : Nat) (xs ys : List Nat) (w : World) (h : RdB w a n xs) (h' : RdB w a' n' ys) (hn : n ≤ 4096) (hn' : n' ≤ 4096) :
    Calls Tabg.prog 65 #[.slice a n n, .slice a' n' n'] w fun e w' => RB w w' e (bv xs - bv ys) (decide (bv ys ≤ bv xs)) := by
  by_cases hle : bv ys ≤ bv xs
  · refine (sub_any a a' n n' n n' xs ys w h h' (Nat.le_refl _) (Nat.le_refl _) hn hn' hle).mono ?_
    rintro e w' ⟨B, zs, he, _, hu, hv⟩
    rw [decide_eq_true hle]
    exact ⟨_, _, he, hu, NS.ofRes hv⟩
  · refine (sub_neg a a' n n' n n' xs ys w h h' (Nat.le_refl _) (Nat.le_refl _) hn hn' (by omega)).mono ?_
    rintro e w' ⟨he, hu⟩
    rw [decide_eq_false hle, show bv xs - bv ys = 0 by omega]
    exact ⟨none, 0, he, hu, NS.zero _⟩
theorem NS.bnd {w : World} {a : Option Addr} {n v N : Nat} (h : NS w a n v) (hv : v < 256 ^ N) : n ≤ N := by rw [h.len]; exact dig_length_le hv
theorem ans_gen {w : World} {a a' : Option Addr} {n n' v : Nat} (h : NS w a n v) (h' : NS w a' n' v) (hn : n ≤ 4096) :
    Calls Tabg.prog 66 #[.slice a n n, .slice a' n' n'] w fun e w' => e = .returned (.bool true) ∧ Up w w' :=
  answers_yes a a' n n' n n' v w h h' (by omega) (fun ha => h.nilc ha)

set_option maxRecDepth 100000 in
set_option maxHeartbeats 6400000 in
theorem natc_any (a0 a1 B0 B1 : Option Addr) (n0 c0 n1 c1 n m d0 d1 lv : Nat) (xs ys : List Nat) (w : World)
    (D0' : Calls Tabg.prog 61 #[.slice a0 n0 c0, .int .i64 1024] w fun e w' => e = .returned (.slice B0 n d0) ∧ w = w')
    (D1' : ∀ w', Up w w' → Calls Tabg.prog 61 #[.slice a1 n1 c1, .int .i64 1024] w' fun e w'' => e = .returned (.slice B1 m d1) ∧ w' = w'')
    (R0' : RdB w B0 n xs) (R1' : RdB w B1 m ys) (P0' : Pl B0 n) (P1' : Pl B1 m) (q0' : B0 = none → d0 = 0) (q1' : B1 = none → d1 = 0) (hn : n ≤ 1024) (hm : m ≤ 1024) (hlv : lv < 256) :
    Calls Tabg.prog 12 #[.slice a0 n0 c0, .slice a1 n1 c1, .int .u8 (lv : Int)] w fun e w' => e = .returned (.bool true) ∧ Up w w' := by
  have D0 : Hid (Calls Tabg.prog 61 #[.slice a0 n0 c0, .int .i64 1024] w fun e w' => e = .returned (.slice B0 n d0) ∧ w = w') := D0'
  have D1 : Hid (∀ w', Up w w' → Calls Tabg.prog 61 #[.slice a1 n1 c1, .int .i64 1024] w' fun e w'' => e = .returned (.slice B1 m d1) ∧ w' = w'') := D1'
  have O0 : Hid (Calls Tabg.prog 60 #[.slice B0 n d0] w fun e w' => ∃ X, e = .returned (.slice X n n) ∧ Up w w' ∧ RdB w' X n xs ∧ X.isNone = B0.isNone ∧ Pl X n) := own_gen B0 n d0 xs w P0' q0' R0' (by omega)
  have O1 : Hid (∀ w', Up w w' → Calls Tabg.prog 60 #[.slice B1 m d1] w' fun e w'' => ∃ X, e = .returned (.slice X m m) ∧ Up w' w'' ∧ RdB w'' X m ys ∧ X.isNone = B1.isNone ∧ Pl X m) := fun w' hu => own_gen B1 m d1 ys w' P1' q1' (R1'.up hu) (by omega)
  have BX : Hid (bv xs < 256 ^ 1024 ∧ bv ys < 256 ^ 1024) := by
    have h1 := bv_lt R0'.2.1
    have h2 := bv_lt R1'.2.1
    have h3 : 256 ^ xs.length ≤ 256 ^ 1024 := Nat.pow_le_pow_right (by decide) (by rw [← R0'.1]; exact hn)
    have h4 : 256 ^ ys.length ≤ 256 ^ 1024 := Nat.pow_le_pow_right (by decide) (by rw [← R1'.1]; exact hm)
    exact ⟨Nat.lt_of_lt_of_le h1 h3, Nat.lt_of_lt_of_le h2 h4⟩
  have nI : (n : Int) ≤ 1024 := by omega
  have mI : (m : Int) ≤ 1024 := by omega
  have n0I : (0 : Int) ≤ (n : Int) := by omega
  clear D0' D1' R0' R1' P0' P1' q0' q1'
  go_enter Tabg.func12, Tabg.ntmps12
  go_wp2_with (fail)
  refine (D0.out).mono ?_
  rintro e w' ⟨rfl, rfl⟩
  go_wp2_with (fail)
  refine (O0.out).mono ?_
  rintro e w1 ⟨X, rfl, hu, hr, hi, hp⟩
  have U1 : Hid (Up w w1) := hu
  have X1 : Hid (RdB w1 X n xs ∧ Pl X n) := ⟨hr, hp⟩
  clear hu hr hi hp D0 O0
  go_wp2_with (fail)
  refine (D1.out _ U1.out).mono ?_
  rintro e w' ⟨rfl, rfl⟩
  go_wp2_with (fail)
  refine (O1.out _ U1.out).mono ?_
  rintro e w2 ⟨Y, rfl, hu, hr, hi, hp⟩
  have U2 : Hid (Up w w2) := (U1.out).trans hu
  have X2 : Hid (RdB w2 X n xs ∧ Pl X n) := ⟨X1.out.1.up hu, X1.out.2⟩
  have Y2 : Hid (RdB w2 Y m ys ∧ Pl Y m) := ⟨hr, hp⟩
  clear hu hr hi hp D1 O1 U1 X1
  have O2 : Hid (Calls Tabg.prog 60 #[.slice X n n] w2 fun e w' => ∃ K, e = .returned (.slice K n n) ∧ Up w2 w' ∧ RdB w' K n xs ∧ K.isNone = X.isNone ∧ Pl K n) := own_gen X n n xs w2 X2.out.2 X2.out.2.nil X2.out.1 (by omega)
  go_wp2_with (fail)
  refine (O2.out).mono ?_
  rintro e w3 ⟨KX, rfl, hu, hr, hi, hp⟩
  have U3 : Hid (Up w w3) := (U2.out).trans hu
  have X3 : Hid (RdB w3 X n xs ∧ Pl X n) := ⟨X2.out.1.up hu, X2.out.2⟩
  have Y3 : Hid (RdB w3 Y m ys ∧ Pl Y m) := ⟨Y2.out.1.up hu, Y2.out.2⟩
  have K3 : Hid (RdB w3 KX n xs ∧ KX.isNone = X.isNone) := ⟨hr, hi⟩
  clear hu hr hi hp U2 X2 Y2 O2
  have O3 : Hid (Calls Tabg.prog 60 #[.slice Y m m] w3 fun e w' => ∃ K, e = .returned (.slice K m m) ∧ Up w3 w' ∧ RdB w' K m ys ∧ K.isNone = Y.isNone ∧ Pl K m) := own_gen Y m m ys w3 Y3.out.2 Y3.out.2.nil Y3.out.1 (by omega)
  go_wp2_with (fail)
  refine (O3.out).mono ?_
  rintro e w4 ⟨KY, rfl, hu, hr, hi, hp⟩
  have U4 : Hid (Up w w4) := (U3.out).trans hu
  have X4 : Hid (RdB w4 X n xs ∧ Pl X n) := ⟨X3.out.1.up hu, X3.out.2⟩
  have Y4 : Hid (RdB w4 Y m ys ∧ Pl Y m) := ⟨Y3.out.1.up hu, Y3.out.2⟩
  have K4 : Hid (RdB w4 KX n xs ∧ KX.isNone = X.isNone ∧ RdB w4 KY m ys ∧ KY.isNone = Y.isNone) := ⟨K3.out.1.up hu, K3.out.2, hr, hi⟩
  clear hu hr hi hp U3 X3 Y3 K3 O3
  have O4 : Hid (Calls Tabg.prog 62 #[.slice X n n] w4 fun e w' => ∃ P l, e = .returned (.slice P l l) ∧ Up w4 w' ∧ NS w' P l (bv xs)) := take_gen X n xs w4 X4.out.2 X4.out.1 hn
  go_wp2_with (fail)
  refine (O4.out).mono ?_
  rintro e w5 ⟨P, lp, rfl, hu, hns⟩
  have U5 : Hid (Up w w5) := (U4.out).trans hu
  have O5 : Hid (Calls Tabg.prog 62 #[.slice Y m m] w5 fun e w' => ∃ P l, e = .returned (.slice P l l) ∧ Up w5 w' ∧ NS w' P l (bv ys)) := take_gen Y m ys w5 Y4.out.2 (Y4.out.1.up hu) hm
  have U45 : Hid (Up w4 w5) := hu
  have NP5 : Hid (NS w5 P lp (bv xs)) := hns
  clear hu hns O4 U4
  go_wp2_with (fail)
  refine (O5.out).mono ?_
  rintro e w6 ⟨Q, lq, rfl, hu, hns⟩
  have U6 : Hid (Up w w6) := (U5.out).trans hu
  have BS : Hid (RdB w6 X n xs ∧ RdB w6 Y m ys ∧ NS w6 P lp (bv xs) ∧ NS w6 Q lq (bv ys) ∧ RdB w6 KX n xs ∧ RdB w6 KY m ys ∧ KX.isNone = X.isNone ∧ KY.isNone = Y.isNone ∧ (X = none → n = 0) ∧ (Y = none → m = 0)) :=
    ⟨(X4.out.1.up U45.out).up hu, (Y4.out.1.up U45.out).up hu, (NP5.out).up hu, hns, (K4.out.1.up U45.out).up hu, (K4.out.2.2.1.up U45.out).up hu, K4.out.2.1, K4.out.2.2.2, X4.out.2.nil, Y4.out.2.nil⟩
  have hlp : lp ≤ 1024 := (NP5.out).bnd BX.out.1
  have hlq : lq ≤ 1024 := hns.bnd BX.out.2
  clear hu hns O5 U5 U45 NP5 X4 Y4 K4
  have U : Hid (Up w6 w6) := Up.refl _
  have CX : Hid (∀ w', Up w6 w' → Calls Tabg.prog 63 #[.slice X n n] w' fun e w'' => e = .returned (.bool (nrmB X xs)) ∧ w' = w'') := fun w' hu => Normal_any X n n xs w' (BS.out.1.up hu) (by omega) (fun h => ⟨BS.out.2.2.2.2.2.2.2.2.1 h, BS.out.2.2.2.2.2.2.2.2.1 h⟩)
  have CX' : Hid (∀ w', Up w6 w' → Calls Tabg.prog 64 #[.slice X n n] w' fun e w'' => e = .returned (.bool (nrmB X xs)) ∧ w' = w'') := fun w' hu => lnormal_any X n n xs w' (BS.out.1.up hu) (by omega) (fun h => ⟨BS.out.2.2.2.2.2.2.2.2.1 h, BS.out.2.2.2.2.2.2.2.2.1 h⟩)
  have CY : Hid (∀ w', Up w6 w' → Calls Tabg.prog 63 #[.slice Y m m] w' fun e w'' => e = .returned (.bool (nrmB Y ys)) ∧ w' = w'') := fun w' hu => Normal_any Y m m ys w' (BS.out.2.1.up hu) (by omega) (fun h => ⟨BS.out.2.2.2.2.2.2.2.2.2 h, BS.out.2.2.2.2.2.2.2.2.2 h⟩)
  have CY' : Hid (∀ w', Up w6 w' → Calls Tabg.prog 64 #[.slice Y m m] w' fun e w'' => e = .returned (.bool (nrmB Y ys)) ∧ w' = w'') := fun w' hu => lnormal_any Y m m ys w' (BS.out.2.1.up hu) (by omega) (fun h => ⟨BS.out.2.2.2.2.2.2.2.2.2 h, BS.out.2.2.2.2.2.2.2.2.2 h⟩)
  have CP : Hid (∀ w', Up w6 w' → Calls Tabg.prog 63 #[.slice P lp lp] w' fun e w'' => e = .returned (.bool true) ∧ w' = w'') := fun w' hu => by
    have hns := BS.out.2.2.1
    have := Normal_any P lp lp (dig (bv xs)) w' (hns.up hu).1 (by omega) (fun h => ⟨hns.nilc h, hns.nilc h⟩)
    rwa [hns.nrmB] at this
  generalize nrmB X xs = bX at *
  generalize nrmB Y ys = bY at *
  go_wp2_with (fail)
  refine (CX.out _ U.out).mono ?_
  rintro e w' ⟨rfl, rfl⟩
  go_wp2_with (fail)
  refine (CX'.out _ U.out).mono ?_
  rintro e w' ⟨rfl, rfl⟩
  go_wp2_with (fail)
  refine (CY.out _ U.out).mono ?_
  rintro e w' ⟨rfl, rfl⟩
  go_wp2_with (fail)
  refine (CY'.out _ U.out).mono ?_
  rintro e w' ⟨rfl, rfl⟩
  go_wp2_with (fail)
  refine (CP.out _ U.out).mono ?_
  rintro e w' ⟨rfl, rfl⟩
  clear CX CX' CY CY' CP
  have Cd : Hid (Calls Tabg.prog 65 #[.slice X n n, .slice Y m m] w6 fun e w' => RB w6 w' e (bv xs - bv ys) (decide (bv ys ≤ bv xs))) := sub_rb X Y n m xs ys w6 (BS.out.1.up U.out) (BS.out.2.1.up U.out) (by omega) (by omega)
  go_wp2_with (fail)
  refine (Cd.out).mono ?_
  rintro e w7 ⟨pd, ld, rfl, hu, hns⟩
  have Nd : Hid (NS w7 pd ld (bv xs - bv ys)) := hns
  have V : Hid (Up w6 w7) := hu
  have U' : Hid (Up w6 w7) := (U.out).trans hu
  clear hu hns Cd U
  have U : Hid (Up w6 w7) := U'
  clear U'
  clear V
  have Ce : Hid (Calls Tabg.prog 65 #[.slice P lp lp, .slice Q lq lq] w7 fun e w' => RB w7 w' e (bv xs - bv ys) (decide (bv ys ≤ bv xs))) := (by have := sub_rb P Q lp lq _ _ w7 (BS.out.2.2.1.up U.out).1 (BS.out.2.2.2.1.up U.out).1 (by omega) (by omega); rwa [bv_dig, bv_dig] at this)
  go_wp2_with (fail)
  refine (Ce.out).mono ?_
  rintro e w8 ⟨pe, le, rfl, hu, hns⟩
  have Ne : Hid (NS w8 pe le (bv xs - bv ys)) := hns
  have V : Hid (Up w7 w8) := hu
  have U' : Hid (Up w6 w8) := (U.out).trans hu
  clear hu hns Ce U
  have U : Hid (Up w6 w8) := U'
  clear U'
  have Nd' : Hid (NS w8 pd ld (bv xs - bv ys)) := (Nd.out).up V.out
  clear Nd
  have Nd : Hid (NS w8 pd ld (bv xs - bv ys)) := Nd'
  clear Nd'
  clear V
  generalize decide (bv ys ≤ bv xs) = bS at *
  have CA : Hid (Calls Tabg.prog 66 #[.slice pd ld ld, .slice pe le le] w8 fun e w' => e = .returned (.bool true) ∧ Up w8 w') := ans_gen Nd.out (Ne.out) (Nat.le_trans ((Nd.out).bnd (Nat.lt_of_le_of_lt (Nat.sub_le _ _) BX.out.1)) (by decide))
  go_wp2_with (fail)
  refine (CA.out).mono ?_
  rintro e w9 ⟨rfl, hu⟩
  have V : Hid (Up w8 w9) := hu
  have U' : Hid (Up w6 w9) := (U.out).trans hu
  clear hu CA U
  have U : Hid (Up w6 w9) := U'
  clear U'
  clear V Nd Ne
  have CC1 : Hid (Calls Tabg.prog 67 #[.slice X n n, .slice Y m m] w9 fun e w' => e = .returned (.int .i8 (cmpI (bv xs) (bv ys))) ∧ Up w9 w') := cmp_any X Y n m n m xs ys w9 (BS.out.1.up U.out) (BS.out.2.1.up U.out) (Nat.le_refl _) (Nat.le_refl _) (by omega) (by omega)
  go_wp2_with (fail)
  refine (CC1.out).mono ?_
  rintro e w10 ⟨rfl, hu⟩
  have U' : Hid (Up w6 w10) := (U.out).trans hu
  clear hu CC1 U
  have U : Hid (Up w6 w10) := U'
  clear U'
  have CC2 : Hid (Calls Tabg.prog 67 #[.slice P lp lp, .slice Q lq lq] w10 fun e w' => e = .returned (.int .i8 (cmpI (bv xs) (bv ys))) ∧ Up w10 w') := by
    have := cmp_any P Q lp lq lp lq _ _ w10 (BS.out.2.2.1.up U.out).1 (BS.out.2.2.2.1.up U.out).1 (Nat.le_refl _) (Nat.le_refl _) (by omega) (by omega)
    rwa [bv_dig, bv_dig] at this
  go_wp2_with (fail)
  refine (CC2.out).mono ?_
  rintro e w11 ⟨rfl, hu⟩
  have U' : Hid (Up w6 w11) := (U.out).trans hu
  clear hu CC2 U
  have U : Hid (Up w6 w11) := U'
  clear U'
  generalize cmpI (bv xs) (bv ys) = cI at *
  have Cf : Hid (Calls Tabg.prog 68 #[.slice X n n] w11 fun e w' => RN w11 w' e (bv xs + 1)) := (succ_any X n n xs w11 (BS.out.1.up U.out) (Nat.le_refl _) (by omega)).mono fun _ _ h => h.rn
  go_wp2_with (fail)
  refine (Cf.out).mono ?_
  rintro e w12 ⟨pf, lf, rfl, hu, hns⟩
  have Nf : Hid (NS w12 pf lf (bv xs + 1)) := hns
  have V : Hid (Up w11 w12) := hu
  have U' : Hid (Up w6 w12) := (U.out).trans hu
  clear hu hns Cf U
  have U : Hid (Up w6 w12) := U'
  clear U'
  clear V
  have Cg : Hid (Calls Tabg.prog 68 #[.slice P lp lp] w12 fun e w' => RN w12 w' e (bv xs + 1)) := (by have := succ_any P lp lp _ w12 (BS.out.2.2.1.up U.out).1 (Nat.le_refl _) (by omega); rw [bv_dig] at this; exact this.mono fun _ _ h => h.rn)
  go_wp2_with (fail)
  refine (Cg.out).mono ?_
  rintro e w13 ⟨pg, lg, rfl, hu, hns⟩
  have Ng : Hid (NS w13 pg lg (bv xs + 1)) := hns
  have V : Hid (Up w12 w13) := hu
  have U' : Hid (Up w6 w13) := (U.out).trans hu
  clear hu hns Cg U
  have U : Hid (Up w6 w13) := U'
  clear U'
  have Nf' : Hid (NS w13 pf lf (bv xs + 1)) := (Nf.out).up V.out
  clear Nf
  have Nf : Hid (NS w13 pf lf (bv xs + 1)) := Nf'
  clear Nf'
  clear V
  have CA : Hid (Calls Tabg.prog 66 #[.slice pf lf lf, .slice pg lg lg] w13 fun e w' => e = .returned (.bool true) ∧ Up w13 w') := ans_gen Nf.out (Ng.out) (Nat.le_trans ((Nf.out).bnd (N := 1025) (by have := BX.out; rw [show 256 ^ 1025 = 256 * 256 ^ 1024 by decide]; omega)) (by decide))
  go_wp2_with (fail)
  refine (CA.out).mono ?_
  rintro e w14 ⟨rfl, hu⟩
  have V : Hid (Up w13 w14) := hu
  have U' : Hid (Up w6 w14) := (U.out).trans hu
  clear hu CA U
  have U : Hid (Up w6 w14) := U'
  clear U'
  clear V Nf Ng
  have Cf : Hid (Calls Tabg.prog 69 #[.slice X n n, .slice Y m m] w14 fun e w' => RN w14 w' e (bv xs + bv ys)) := (add_any X Y n m n m xs ys w14 (BS.out.1.up U.out) (BS.out.2.1.up U.out) (Nat.le_refl _) (Nat.le_refl _) (by omega) (by omega)).mono fun _ _ h => h.rn
  go_wp2_with (fail)
  refine (Cf.out).mono ?_
  rintro e w15 ⟨pf, lf, rfl, hu, hns⟩
  have Nf : Hid (NS w15 pf lf (bv xs + bv ys)) := hns
  have V : Hid (Up w14 w15) := hu
  have U' : Hid (Up w6 w15) := (U.out).trans hu
  clear hu hns Cf U
  have U : Hid (Up w6 w15) := U'
  clear U'
  clear V
  have Cg : Hid (Calls Tabg.prog 69 #[.slice P lp lp, .slice Q lq lq] w15 fun e w' => RN w15 w' e (bv xs + bv ys)) := (by have := add_any P Q lp lq lp lq _ _ w15 (BS.out.2.2.1.up U.out).1 (BS.out.2.2.2.1.up U.out).1 (Nat.le_refl _) (Nat.le_refl _) (by omega) (by omega); rw [bv_dig, bv_dig] at this; exact this.mono fun _ _ h => h.rn)
  go_wp2_with (fail)
  refine (Cg.out).mono ?_
  rintro e w16 ⟨pg, lg, rfl, hu, hns⟩
  have Ng : Hid (NS w16 pg lg (bv xs + bv ys)) := hns
  have V : Hid (Up w15 w16) := hu
  have U' : Hid (Up w6 w16) := (U.out).trans hu
  clear hu hns Cg U
  have U : Hid (Up w6 w16) := U'
  clear U'
  have Nf' : Hid (NS w16 pf lf (bv xs + bv ys)) := (Nf.out).up V.out
  clear Nf
  have Nf : Hid (NS w16 pf lf (bv xs + bv ys)) := Nf'
  clear Nf'
  clear V
  have CA : Hid (Calls Tabg.prog 66 #[.slice pf lf lf, .slice pg lg lg] w16 fun e w' => e = .returned (.bool true) ∧ Up w16 w') := ans_gen Nf.out (Ng.out) (Nat.le_trans ((Nf.out).bnd (N := 1025) (by have := BX.out; rw [show 256 ^ 1025 = 256 * 256 ^ 1024 by decide]; omega)) (by decide))
  go_wp2_with (fail)
  refine (CA.out).mono ?_
  rintro e w17 ⟨rfl, hu⟩
  have V : Hid (Up w16 w17) := hu
  have U' : Hid (Up w6 w17) := (U.out).trans hu
  clear hu CA U
  have U : Hid (Up w6 w17) := U'
  clear U'
  clear V Nf Ng
  have Ch : Hid (Calls Tabg.prog 70 #[.slice P lp lp, .slice Q lq lq] w17 fun e w' => RN w17 w' e (bv xs * bv ys)) := (by have := school_any P Q lp lq lp lq _ _ w17 (BS.out.2.2.1.up U.out).1 (BS.out.2.2.2.1.up U.out).1 (Nat.le_refl _) (Nat.le_refl _) (by omega) (by omega); rw [bv_dig, bv_dig] at this; exact this.mono fun _ _ h => h.rn)
  go_wp2_with (fail)
  refine (Ch.out).mono ?_
  rintro e w18 ⟨ph, lh, rfl, hu, hns⟩
  have Nh : Hid (NS w18 ph lh (bv xs * bv ys)) := hns
  have V : Hid (Up w17 w18) := hu
  have U' : Hid (Up w6 w18) := (U.out).trans hu
  clear hu hns Ch U
  have U : Hid (Up w6 w18) := U'
  clear U'
  clear V
  have Cf : Hid (Calls Tabg.prog 70 #[.slice X n n, .slice Y m m] w18 fun e w' => RN w18 w' e (bv xs * bv ys)) := (school_any X Y n m n m xs ys w18 (BS.out.1.up U.out) (BS.out.2.1.up U.out) (Nat.le_refl _) (Nat.le_refl _) (by omega) (by omega)).mono fun _ _ h => h.rn
  go_wp2_with (fail)
  refine (Cf.out).mono ?_
  rintro e w19 ⟨pf, lf, rfl, hu, hns⟩
  have Nf : Hid (NS w19 pf lf (bv xs * bv ys)) := hns
  have V : Hid (Up w18 w19) := hu
  have U' : Hid (Up w6 w19) := (U.out).trans hu
  clear hu hns Cf U
  have U : Hid (Up w6 w19) := U'
  clear U'
  have Nh' : Hid (NS w19 ph lh (bv xs * bv ys)) := (Nh.out).up V.out
  clear Nh
  have Nh : Hid (NS w19 ph lh (bv xs * bv ys)) := Nh'
  clear Nh'
  clear V
  have CA : Hid (Calls Tabg.prog 66 #[.slice pf lf lf, .slice ph lh lh] w19 fun e w' => e = .returned (.bool true) ∧ Up w19 w') := ans_gen Nf.out (Nh.out) (Nat.le_trans ((Nf.out).bnd (N := 2048) (by rw [show 256 ^ 2048 = 256 ^ 1024 * 256 ^ 1024 by rw [← Nat.pow_add]]; exact Nat.mul_lt_mul'' BX.out.1 BX.out.2)) (by decide))
  go_wp2_with (fail)
  refine (CA.out).mono ?_
  rintro e w20 ⟨rfl, hu⟩
  have V : Hid (Up w19 w20) := hu
  have U' : Hid (Up w6 w20) := (U.out).trans hu
  clear hu CA U
  have U : Hid (Up w6 w20) := U'
  clear U'
  have Nh' : Hid (NS w20 ph lh (bv xs * bv ys)) := (Nh.out).up V.out
  clear Nh
  have Nh : Hid (NS w20 ph lh (bv xs * bv ys)) := Nh'
  clear Nh'
  clear V
  clear Nf
  have Cf : Hid (Calls Tabg.prog 71 #[.slice X n n, .slice Y m m, .int .u8 (lv : Int)] w20 fun e w' => RN w20 w' e (bv xs * bv ys)) := (kara_any lv hlv X Y n m n m xs ys w20 (BS.out.1.up U.out) (BS.out.2.1.up U.out) (Nat.le_refl _) (Nat.le_refl _) (by omega) (by omega)).mono fun _ _ h => h.rn
  go_wp2_with (fail)
  refine (Cf.out).mono ?_
  rintro e w21 ⟨pf, lf, rfl, hu, hns⟩
  have Nf : Hid (NS w21 pf lf (bv xs * bv ys)) := hns
  have V : Hid (Up w20 w21) := hu
  have U' : Hid (Up w6 w21) := (U.out).trans hu
  clear hu hns Cf U
  have U : Hid (Up w6 w21) := U'
  clear U'
  have Nh' : Hid (NS w21 ph lh (bv xs * bv ys)) := (Nh.out).up V.out
  clear Nh
  have Nh : Hid (NS w21 ph lh (bv xs * bv ys)) := Nh'
  clear Nh'
  clear V
  have Cg : Hid (Calls Tabg.prog 71 #[.slice P lp lp, .slice Q lq lq, .int .u8 (lv : Int)] w21 fun e w' => RN w21 w' e (bv xs * bv ys)) := (by have := kara_any lv hlv P Q lp lq lp lq _ _ w21 (BS.out.2.2.1.up U.out).1 (BS.out.2.2.2.1.up U.out).1 (Nat.le_refl _) (Nat.le_refl _) (by omega) (by omega); rw [bv_dig, bv_dig] at this; exact this.mono fun _ _ h => h.rn)
  go_wp2_with (fail)
  refine (Cg.out).mono ?_
  rintro e w22 ⟨pg, lg, rfl, hu, hns⟩
  have Ng : Hid (NS w22 pg lg (bv xs * bv ys)) := hns
  have V : Hid (Up w21 w22) := hu
  have U' : Hid (Up w6 w22) := (U.out).trans hu
  clear hu hns Cg U
  have U : Hid (Up w6 w22) := U'
  clear U'
  have Nh' : Hid (NS w22 ph lh (bv xs * bv ys)) := (Nh.out).up V.out
  clear Nh
  have Nh : Hid (NS w22 ph lh (bv xs * bv ys)) := Nh'
  clear Nh'
  have Nf' : Hid (NS w22 pf lf (bv xs * bv ys)) := (Nf.out).up V.out
  clear Nf
  have Nf : Hid (NS w22 pf lf (bv xs * bv ys)) := Nf'
  clear Nf'
  clear V
  have CA : Hid (Calls Tabg.prog 66 #[.slice pf lf lf, .slice pg lg lg] w22 fun e w' => e = .returned (.bool true) ∧ Up w22 w') := ans_gen Nf.out (Ng.out) (Nat.le_trans ((Nf.out).bnd (N := 2048) (by rw [show 256 ^ 2048 = 256 ^ 1024 * 256 ^ 1024 by rw [← Nat.pow_add]]; exact Nat.mul_lt_mul'' BX.out.1 BX.out.2)) (by decide))
  go_wp2_with (fail)
  refine (CA.out).mono ?_
  rintro e w23 ⟨rfl, hu⟩
  have V : Hid (Up w22 w23) := hu
  have U' : Hid (Up w6 w23) := (U.out).trans hu
  clear hu CA U
  have U : Hid (Up w6 w23) := U'
  clear U'
  have Nh' : Hid (NS w23 ph lh (bv xs * bv ys)) := (Nh.out).up V.out
  clear Nh
  have Nh : Hid (NS w23 ph lh (bv xs * bv ys)) := Nh'
  clear Nh'
  clear V
  clear Nf Ng
  by_cases hn5 : n ≤ 512
  · have g1 : (n : Int) ≤ 512 := by omega
    by_cases hm5 : m ≤ 512
    · have g2 : (m : Int) ≤ 512 := by omega
      have Ci : Hid (Calls Tabg.prog 72 #[.slice X n n, .slice Y m m] w23 fun e w' => RB w23 w' e (bv xs * bv ys) true) := (mulFFT_any X Y n m n m xs ys w23 (BS.out.1.up U.out) (BS.out.2.1.up U.out) hn5 hm5).mono fun e w' h => by obtain ⟨B, zs, he, _, hu, hv⟩ := h; exact ⟨_, _, he, hu, NS.ofRes hv⟩
      go_wp2_with (fail)
      refine (Ci.out).mono ?_
      rintro e w24 ⟨pi, li, rfl, hu, hns⟩
      have Ni : Hid (NS w24 pi li (bv xs * bv ys)) := hns
      have V : Hid (Up w23 w24) := hu
      have U' : Hid (Up w6 w24) := (U.out).trans hu
      clear hu hns Ci U
      have U : Hid (Up w6 w24) := U'
      clear U'
      have Nh' : Hid (NS w24 ph lh (bv xs * bv ys)) := (Nh.out).up V.out
      clear Nh
      have Nh : Hid (NS w24 ph lh (bv xs * bv ys)) := Nh'
      clear Nh'
      clear V
      have Cj : Hid (Calls Tabg.prog 73 #[.slice X n n, .slice Y m m] w24 fun e w' => RB w24 w' e (bv xs * bv ys) true) := (mulNTT_any X Y n m n m xs ys w24 (BS.out.1.up U.out) (BS.out.2.1.up U.out) hn5 hm5).mono fun e w' h => by obtain ⟨B, zs, he, _, hu, hv⟩ := h; exact ⟨_, _, he, hu, NS.ofRes hv⟩
      go_wp2_with (fail)
      refine (Cj.out).mono ?_
      rintro e w25 ⟨pj, lj, rfl, hu, hns⟩
      have Nj : Hid (NS w25 pj lj (bv xs * bv ys)) := hns
      have V : Hid (Up w24 w25) := hu
      have U' : Hid (Up w6 w25) := (U.out).trans hu
      clear hu hns Cj U
      have U : Hid (Up w6 w25) := U'
      clear U'
      have Nh' : Hid (NS w25 ph lh (bv xs * bv ys)) := (Nh.out).up V.out
      clear Nh
      have Nh : Hid (NS w25 ph lh (bv xs * bv ys)) := Nh'
      clear Nh'
      have Ni' : Hid (NS w25 pi li (bv xs * bv ys)) := (Ni.out).up V.out
      clear Ni
      have Ni : Hid (NS w25 pi li (bv xs * bv ys)) := Ni'
      clear Ni'
      clear V
      have CA : Hid (Calls Tabg.prog 66 #[.slice pi li li, .slice ph lh lh] w25 fun e w' => e = .returned (.bool true) ∧ Up w25 w') := ans_gen Ni.out (Nh.out) (Nat.le_trans ((Ni.out).bnd (N := 2048) (by rw [show 256 ^ 2048 = 256 ^ 1024 * 256 ^ 1024 by rw [← Nat.pow_add]]; exact Nat.mul_lt_mul'' BX.out.1 BX.out.2)) (by decide))
      go_wp2_with (fail)
      refine (CA.out).mono ?_
      rintro e w26 ⟨rfl, hu⟩
      have V : Hid (Up w25 w26) := hu
      have U' : Hid (Up w6 w26) := (U.out).trans hu
      clear hu CA U
      have U : Hid (Up w6 w26) := U'
      clear U'
      have Nh' : Hid (NS w26 ph lh (bv xs * bv ys)) := (Nh.out).up V.out
      clear Nh
      have Nh : Hid (NS w26 ph lh (bv xs * bv ys)) := Nh'
      clear Nh'
      have Ni' : Hid (NS w26 pi li (bv xs * bv ys)) := (Ni.out).up V.out
      clear Ni
      have Ni : Hid (NS w26 pi li (bv xs * bv ys)) := Ni'
      clear Ni'
      have Nj' : Hid (NS w26 pj lj (bv xs * bv ys)) := (Nj.out).up V.out
      clear Nj
      have Nj : Hid (NS w26 pj lj (bv xs * bv ys)) := Nj'
      clear Nj'
      clear V
      have CA : Hid (Calls Tabg.prog 66 #[.slice pj lj lj, .slice ph lh lh] w26 fun e w' => e = .returned (.bool true) ∧ Up w26 w') := ans_gen Nj.out (Nh.out) (Nat.le_trans ((Nj.out).bnd (N := 2048) (by rw [show 256 ^ 2048 = 256 ^ 1024 * 256 ^ 1024 by rw [← Nat.pow_add]]; exact Nat.mul_lt_mul'' BX.out.1 BX.out.2)) (by decide))
      go_wp2_with (fail)
      refine (CA.out).mono ?_
      rintro e w27 ⟨rfl, hu⟩
      have V : Hid (Up w26 w27) := hu
      have U' : Hid (Up w6 w27) := (U.out).trans hu
      clear hu CA U
      have U : Hid (Up w6 w27) := U'
      clear U'
      clear V Nh Ni Nj
      have CS1 : Hid (Calls Tabg.prog 74 #[.slice X n n, .slice KX n n] w27 fun e w' => e = .returned (.bool true) ∧ Up w27 w') := sameNat_yes X KX n n n xs w27 (BS.out.1.up U.out) (BS.out.2.2.2.2.1.up U.out) (by omega) BS.out.2.2.2.2.2.2.1.symm
      go_wp2_with (fail)
      refine (CS1.out).mono ?_
      rintro e w28 ⟨rfl, hu⟩
      have U' : Hid (Up w6 w28) := (U.out).trans hu
      clear hu CS1 U
      have U : Hid (Up w6 w28) := U'
      clear U'
      have CS2 : Hid (Calls Tabg.prog 74 #[.slice Y m m, .slice KY m m] w28 fun e w' => e = .returned (.bool true) ∧ Up w28 w') := sameNat_yes Y KY m m m ys w28 (BS.out.2.1.up U.out) (BS.out.2.2.2.2.2.1.up U.out) (by omega) BS.out.2.2.2.2.2.2.2.1.symm
      go_wp2_with (fail)
      refine (CS2.out).mono ?_
      rintro e w29 ⟨rfl, hu⟩
      have U' : Hid (Up w6 w29) := (U.out).trans hu
      clear hu CS2 U
      go_wp2_with (fail)
      go_ret
      exact ⟨rfl, (U6.out).trans U'.out⟩
    · have hfar : 512 < n ∨ 512 < m := .inr (by omega)
      have g2 : decide ((m : Int) ≤ 512) = false := decide_eq_false (by omega)
      have g3 : decide (m ≤ 512) = false := decide_eq_false (by omega)
      have Ci : Hid (Calls Tabg.prog 72 #[.slice X n n, .slice Y m m] w23 fun e w' => RB w23 w' e (0) false) := (mulFFT_far X Y n m n m w23 hfar (by omega) (by omega)).mono fun e w' h => ⟨none, 0, h.1, h.2, NS.zero _⟩
      go_wp2_with (fail)
      refine (Ci.out).mono ?_
      rintro e w24 ⟨pi, li, rfl, hu, hns⟩
      have Ni : Hid (NS w24 pi li (0)) := hns
      have V : Hid (Up w23 w24) := hu
      have U' : Hid (Up w6 w24) := (U.out).trans hu
      clear hu hns Ci U
      have U : Hid (Up w6 w24) := U'
      clear U'
      have Nh' : Hid (NS w24 ph lh (bv xs * bv ys)) := (Nh.out).up V.out
      clear Nh
      have Nh : Hid (NS w24 ph lh (bv xs * bv ys)) := Nh'
      clear Nh'
      clear V
      have Cj : Hid (Calls Tabg.prog 73 #[.slice X n n, .slice Y m m] w24 fun e w' => RB w24 w' e (0) false) := (mulNTT_far X Y n m n m w24 hfar (by omega) (by omega)).mono fun e w' h => ⟨none, 0, h.1, h.2, NS.zero _⟩
      go_wp2_with (fail)
      refine (Cj.out).mono ?_
      rintro e w25 ⟨pj, lj, rfl, hu, hns⟩
      have Nj : Hid (NS w25 pj lj (0)) := hns
      have V : Hid (Up w24 w25) := hu
      have U' : Hid (Up w6 w25) := (U.out).trans hu
      clear hu hns Cj U
      have U : Hid (Up w6 w25) := U'
      clear U'
      have Nh' : Hid (NS w25 ph lh (bv xs * bv ys)) := (Nh.out).up V.out
      clear Nh
      have Nh : Hid (NS w25 ph lh (bv xs * bv ys)) := Nh'
      clear Nh'
      have Ni' : Hid (NS w25 pi li (0)) := (Ni.out).up V.out
      clear Ni
      have Ni : Hid (NS w25 pi li (0)) := Ni'
      clear Ni'
      clear V
      have CA : Hid (Calls Tabg.prog 66 #[.slice pi li li, .slice none 0 0] w25 fun e w' => e = .returned (.bool true) ∧ Up w25 w') := ans_gen Ni.out (NS.zero _) (Nat.le_trans ((Ni.out).bnd (N := 0) (by decide)) (by decide))
      go_wp2_with (fail)
      refine (CA.out).mono ?_
      rintro e w26 ⟨rfl, hu⟩
      have V : Hid (Up w25 w26) := hu
      have U' : Hid (Up w6 w26) := (U.out).trans hu
      clear hu CA U
      have U : Hid (Up w6 w26) := U'
      clear U'
      have Nh' : Hid (NS w26 ph lh (bv xs * bv ys)) := (Nh.out).up V.out
      clear Nh
      have Nh : Hid (NS w26 ph lh (bv xs * bv ys)) := Nh'
      clear Nh'
      have Ni' : Hid (NS w26 pi li (0)) := (Ni.out).up V.out
      clear Ni
      have Ni : Hid (NS w26 pi li (0)) := Ni'
      clear Ni'
      have Nj' : Hid (NS w26 pj lj (0)) := (Nj.out).up V.out
      clear Nj
      have Nj : Hid (NS w26 pj lj (0)) := Nj'
      clear Nj'
      clear V
      have CA : Hid (Calls Tabg.prog 66 #[.slice pj lj lj, .slice none 0 0] w26 fun e w' => e = .returned (.bool true) ∧ Up w26 w') := ans_gen Nj.out (NS.zero _) (Nat.le_trans ((Nj.out).bnd (N := 0) (by decide)) (by decide))
      go_wp2_with (fail)
      refine (CA.out).mono ?_
      rintro e w27 ⟨rfl, hu⟩
      have V : Hid (Up w26 w27) := hu
      have U' : Hid (Up w6 w27) := (U.out).trans hu
      clear hu CA U
      have U : Hid (Up w6 w27) := U'
      clear U'
      clear V Nh Ni Nj
      have CS1 : Hid (Calls Tabg.prog 74 #[.slice X n n, .slice KX n n] w27 fun e w' => e = .returned (.bool true) ∧ Up w27 w') := sameNat_yes X KX n n n xs w27 (BS.out.1.up U.out) (BS.out.2.2.2.2.1.up U.out) (by omega) BS.out.2.2.2.2.2.2.1.symm
      go_wp2_with (fail)
      refine (CS1.out).mono ?_
      rintro e w28 ⟨rfl, hu⟩
      have U' : Hid (Up w6 w28) := (U.out).trans hu
      clear hu CS1 U
      have U : Hid (Up w6 w28) := U'
      clear U'
      have CS2 : Hid (Calls Tabg.prog 74 #[.slice Y m m, .slice KY m m] w28 fun e w' => e = .returned (.bool true) ∧ Up w28 w') := sameNat_yes Y KY m m m ys w28 (BS.out.2.1.up U.out) (BS.out.2.2.2.2.2.1.up U.out) (by omega) BS.out.2.2.2.2.2.2.2.1.symm
      go_wp2_with (fail)
      refine (CS2.out).mono ?_
      rintro e w29 ⟨rfl, hu⟩
      have U' : Hid (Up w6 w29) := (U.out).trans hu
      clear hu CS2 U
      go_wp2_with (fail)
      go_ret
      exact ⟨rfl, (U6.out).trans U'.out⟩
  · have hfar : 512 < n ∨ 512 < m := .inl (by omega)
    have g2 : decide ((n : Int) ≤ 512) = false := decide_eq_false (by omega)
    have g3 : decide (n ≤ 512) = false := decide_eq_false (by omega)
    have Ci : Hid (Calls Tabg.prog 72 #[.slice X n n, .slice Y m m] w23 fun e w' => RB w23 w' e (0) false) := (mulFFT_far X Y n m n m w23 hfar (by omega) (by omega)).mono fun e w' h => ⟨none, 0, h.1, h.2, NS.zero _⟩
    go_wp2_with (fail)
    refine (Ci.out).mono ?_
    rintro e w24 ⟨pi, li, rfl, hu, hns⟩
    have Ni : Hid (NS w24 pi li (0)) := hns
    have V : Hid (Up w23 w24) := hu
    have U' : Hid (Up w6 w24) := (U.out).trans hu
    clear hu hns Ci U
    have U : Hid (Up w6 w24) := U'
    clear U'
    have Nh' : Hid (NS w24 ph lh (bv xs * bv ys)) := (Nh.out).up V.out
    clear Nh
    have Nh : Hid (NS w24 ph lh (bv xs * bv ys)) := Nh'
    clear Nh'
    clear V
    have Cj : Hid (Calls Tabg.prog 73 #[.slice X n n, .slice Y m m] w24 fun e w' => RB w24 w' e (0) false) := (mulNTT_far X Y n m n m w24 hfar (by omega) (by omega)).mono fun e w' h => ⟨none, 0, h.1, h.2, NS.zero _⟩
    go_wp2_with (fail)
    refine (Cj.out).mono ?_
    rintro e w25 ⟨pj, lj, rfl, hu, hns⟩
    have Nj : Hid (NS w25 pj lj (0)) := hns
    have V : Hid (Up w24 w25) := hu
    have U' : Hid (Up w6 w25) := (U.out).trans hu
    clear hu hns Cj U
    have U : Hid (Up w6 w25) := U'
    clear U'
    have Nh' : Hid (NS w25 ph lh (bv xs * bv ys)) := (Nh.out).up V.out
    clear Nh
    have Nh : Hid (NS w25 ph lh (bv xs * bv ys)) := Nh'
    clear Nh'
    have Ni' : Hid (NS w25 pi li (0)) := (Ni.out).up V.out
    clear Ni
    have Ni : Hid (NS w25 pi li (0)) := Ni'
    clear Ni'
    clear V
    have CA : Hid (Calls Tabg.prog 66 #[.slice pi li li, .slice none 0 0] w25 fun e w' => e = .returned (.bool true) ∧ Up w25 w') := ans_gen Ni.out (NS.zero _) (Nat.le_trans ((Ni.out).bnd (N := 0) (by decide)) (by decide))
    go_wp2_with (fail)
    refine (CA.out).mono ?_
    rintro e w26 ⟨rfl, hu⟩
    have V : Hid (Up w25 w26) := hu
    have U' : Hid (Up w6 w26) := (U.out).trans hu
    clear hu CA U
    have U : Hid (Up w6 w26) := U'
    clear U'
    have Nh' : Hid (NS w26 ph lh (bv xs * bv ys)) := (Nh.out).up V.out
    clear Nh
    have Nh : Hid (NS w26 ph lh (bv xs * bv ys)) := Nh'
    clear Nh'
    have Ni' : Hid (NS w26 pi li (0)) := (Ni.out).up V.out
    clear Ni
    have Ni : Hid (NS w26 pi li (0)) := Ni'
    clear Ni'
    have Nj' : Hid (NS w26 pj lj (0)) := (Nj.out).up V.out
    clear Nj
    have Nj : Hid (NS w26 pj lj (0)) := Nj'
    clear Nj'
    clear V
    have CA : Hid (Calls Tabg.prog 66 #[.slice pj lj lj, .slice none 0 0] w26 fun e w' => e = .returned (.bool true) ∧ Up w26 w') := ans_gen Nj.out (NS.zero _) (Nat.le_trans ((Nj.out).bnd (N := 0) (by decide)) (by decide))
    go_wp2_with (fail)
    refine (CA.out).mono ?_
    rintro e w27 ⟨rfl, hu⟩
    have V : Hid (Up w26 w27) := hu
    have U' : Hid (Up w6 w27) := (U.out).trans hu
    clear hu CA U
    have U : Hid (Up w6 w27) := U'
    clear U'
    clear V Nh Ni Nj
    have CS1 : Hid (Calls Tabg.prog 74 #[.slice X n n, .slice KX n n] w27 fun e w' => e = .returned (.bool true) ∧ Up w27 w') := sameNat_yes X KX n n n xs w27 (BS.out.1.up U.out) (BS.out.2.2.2.2.1.up U.out) (by omega) BS.out.2.2.2.2.2.2.1.symm
    go_wp2_with (fail)
    refine (CS1.out).mono ?_
    rintro e w28 ⟨rfl, hu⟩
    have U' : Hid (Up w6 w28) := (U.out).trans hu
    clear hu CS1 U
    have U : Hid (Up w6 w28) := U'
    clear U'
    have CS2 : Hid (Calls Tabg.prog 74 #[.slice Y m m, .slice KY m m] w28 fun e w' => e = .returned (.bool true) ∧ Up w28 w') := sameNat_yes Y KY m m m ys w28 (BS.out.2.1.up U.out) (BS.out.2.2.2.2.2.1.up U.out) (by omega) BS.out.2.2.2.2.2.2.2.1.symm
    go_wp2_with (fail)
    refine (CS2.out).mono ?_
    rintro e w29 ⟨rfl, hu⟩
    have U' : Hid (Up w6 w29) := (U.out).trans hu
    clear hu CS2 U
    go_wp2_with (fail)
    go_ret
    exact ⟨rfl, (U6.out).trans U'.out⟩
end Go.Proofs.Ygctab
