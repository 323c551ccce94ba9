import Derived.Test.YgctabKaraC
import Derived.Test.YgctabKaraP
namespace Go.Proofs.Ygctab
open Go.RowKit
set_option linter.unusedVariables false
set_option linter.unusedSimpArgs false

/-- What is known of a number handed back, its block's number named. -/
def Got (w w' : World) (B : Nat) (zs : List Nat) (A : Option Addr) (n v : Nat) : Prop :=
  A = nrmA (some ⟨B, 0, none⟩) v ∧ n = (dig v).length ∧ w.heap.size ≤ B ∧ (v ≠ 0 → Own w' B 5 (u8s zs) ∧ Digs zs ∧ bv zs = v)
theorem Got.ns {w w' : World} {B n v : Nat} {zs : List Nat} {A : Option Addr} (h : Got w w' B zs A n v) : NS w' A n v := by
  obtain ⟨rfl, rfl, _, h⟩ := h
  exact NS.ofRes h
theorem Got.blk {w w' : World} {B n v : Nat} {zs : List Nat} {A : Option Addr} (h : Got w w' B zs A n v) : ∀ b off, A = some ⟨b, off, none⟩ → b = B ∧ B < w'.heap.size := by
  obtain ⟨rfl, rfl, _, h⟩ := h
  intro b off e
  by_cases hv : v = 0
  · rw [hv] at e; cases e
  · rw [nrmA_pos _ hv] at e
    cases e
    exact ⟨rfl, (h hv).1.lt⟩
theorem Got.up {w w' w2 : World} {B n v : Nat} {zs : List Nat} {A : Option Addr} (h : Got w w' B zs A n v) (u : Up w' w2) : Got w w2 B zs A n v :=
  ⟨h.1, h.2.1, h.2.2.1, fun hv => ⟨(h.2.2.2 hv).1.up u, (h.2.2.2 hv).2⟩⟩
theorem Got.mod {w w' w2 : World} {B C n v : Nat} {zs : List Nat} {A : Option Addr} (h : Got w w' B zs A n v) (u : Mod C w' w2) (hc : B ≠ C) : Got w w2 B zs A n v :=
  ⟨h.1, h.2.1, h.2.2.1, fun hv => ⟨(h.2.2.2 hv).1.mod u hc, (h.2.2.2 hv).2⟩⟩
theorem Got.bound {w w' : World} {B n v : Nat} {zs : List Nat} {A : Option Addr} (h : Got w w' B zs A n v) (hv : v ≠ 0) : B < w'.heap.size := (h.2.2.2 hv).1.lt
theorem Res.got {w w' : World} {e : Ending} {v : Nat} (h : Res w w' e v) : ∃ B zs A n, e = .returned (.slice A n n) ∧ Up w w' ∧ Got w w' B zs A n v := by
  obtain ⟨B, zs, he, hB, hu, hv⟩ := h
  exact ⟨B, zs, _, _, he, hu, rfl, rfl, hB, hv⟩

theorem half_low {w : World} {b off L : Nat} {X : List Nat} (hX : RdB w (some ⟨b, off, none⟩) L X) (h : Nat) : NS w (nrmA (some ⟨b, off, none⟩) (bv (X.take h))) (dig (bv (X.take h))).length (bv (X.take h)) := by
  refine NS.ofNrm (n := (X.take h).length) ⟨rfl, hX.2.1.take h, fun i hi => ?_⟩
  have hi' : i < h ∧ i < X.length := by simp at hi; omega
  obtain ⟨b2, off2, e, hc⟩ := hX.2.2 i hi'.2
  exact ⟨b2, off2, e, by rw [hc, List.getElem?_take, if_pos hi'.1]⟩
theorem half_high {w : World} {b off L : Nat} {X : List Nat} (hX : RdB w (some ⟨b, off, none⟩) L X) (h : Nat) : NS w (nrmA (some ⟨b, off + h, none⟩) (bv (X.drop h))) (dig (bv (X.drop h))).length (bv (X.drop h)) := by
  refine NS.ofNrm (n := (X.drop h).length) ⟨rfl, hX.2.1.drop h, fun i hi => ⟨b, off + h, rfl, ?_⟩⟩
  have hi' : h + i < X.length := by simp at hi; omega
  obtain ⟨b2, off2, e, hc⟩ := hX.2.2 (h + i) hi'
  cases e
  rw [List.getElem?_drop, Nat.add_assoc]
  exact hc

/-- The numbers of one step. -/
structure KN (u v u0 u1 v0 v1 z0 z1 z2 h L L' : Nat) : Prop where
  eu : u = u0 + 256 ^ h * u1
  ev : v = v0 + 256 ^ h * v1
  e0 : z0 = u0 * v0
  e2 : z2 = u1 * v1
  e1 : z1 = (u0 + u1) * (v0 + v1)
  lu : u < 256 ^ L
  lv : v < 256 ^ L'
  lu0 : u0 < 256 ^ h
  lv0 : v0 < 256 ^ h
  lu1 : u1 < 256 ^ (L - h)
  lv1 : v1 < 256 ^ (L' - h)
  nu : u ≠ 0
  nv : v ≠ 0
theorem KN.mid {u v u0 u1 v0 v1 z0 z1 z2 h L L' : Nat} (k : KN u v u0 u1 v0 v1 z0 z1 z2 h L L') : z1 = z0 + (u0 * v1 + u1 * v0) + z2 := by
  rw [k.e1, k.e0, k.e2]; exact kara_mid _ _ _ _
theorem KN.prod {u v u0 u1 v0 v1 z0 z1 z2 h L L' : Nat} (k : KN u v u0 u1 v0 v1 z0 z1 z2 h L L') : u * v = z0 + 256 ^ h * (u0 * v1 + u1 * v0) + 256 ^ (2 * h) * z2 := by
  rw [k.eu, k.ev, k.e0, k.e2, kara_expand, show 256 ^ (2 * h) = 256 ^ h * 256 ^ h by rw [Nat.two_mul, Nat.pow_add]]
theorem KN.lt {u v u0 u1 v0 v1 z0 z1 z2 h L L' : Nat} (k : KN u v u0 u1 v0 v1 z0 z1 z2 h L L') : u * v < 256 ^ (L + L') := by
  rw [Nat.pow_add]
  exact Nat.mul_lt_mul'' k.lu k.lv
theorem KN.z1 {u v u0 u1 v0 v1 z0 z1 z2 h L L' : Nat} (k : KN u v u0 u1 v0 v1 z0 z1 z2 h L L') : z1 ≠ 0 := by
  have h1 := k.eu
  have h2 := k.ev
  have h3 := k.nu
  have h4 := k.nv
  have a : u0 + u1 ≠ 0 := by
    intro h0
    have e0 : u0 = 0 := by omega
    have e1 : u1 = 0 := by omega
    rw [e0, e1] at h1
    omega
  have b : v0 + v1 ≠ 0 := by
    intro h0
    have e0 : v0 = 0 := by omega
    have e1 : v1 = 0 := by omega
    rw [e0, e1] at h2
    omega
  rw [k.e1]
  exact Nat.mul_ne_zero a b
theorem KN.l0 {u v u0 u1 v0 v1 z0 z1 z2 h L L' : Nat} (k : KN u v u0 u1 v0 v1 z0 z1 z2 h L L') : (dig z0).length ≤ 2 * h ∧ (dig z0).length ≤ L + L' := by
  constructor
  · refine dig_length_le ?_
    rw [k.e0, Nat.two_mul, Nat.pow_add]
    exact Nat.mul_lt_mul'' k.lu0 k.lv0
  · refine dig_length_le (Nat.lt_of_le_of_lt ?_ k.lt)
    rw [k.prod]
    omega
theorem KN.l2 {u v u0 u1 v0 v1 z0 z1 z2 h L L' : Nat} (k : KN u v u0 u1 v0 v1 z0 z1 z2 h L L') (hz : z2 ≠ 0) : h < L ∧ h < L' ∧ (dig z2).length ≤ L + L' - 2 * h := by
  have n1 : u1 ≠ 0 := fun h0 => hz (by rw [k.e2, h0, Nat.zero_mul])
  have n2 : v1 ≠ 0 := fun h0 => hz (by rw [k.e2, h0, Nat.mul_zero])
  have a : h < L := by
    rcases Nat.lt_or_ge h L with h1 | h1
    · exact h1
    · have := k.lu1
      rw [show L - h = 0 by omega, Nat.pow_zero] at this
      omega
  have b : h < L' := by
    rcases Nat.lt_or_ge h L' with h1 | h1
    · exact h1
    · have := k.lv1
      rw [show L' - h = 0 by omega, Nat.pow_zero] at this
      omega
  refine ⟨a, b, dig_length_le ?_⟩
  rw [k.e2, show L + L' - 2 * h = (L - h) + (L' - h) by omega, Nat.pow_add]
  exact Nat.mul_lt_mul'' k.lu1 k.lv1
theorem KN.lm {u v u0 u1 v0 v1 z0 z1 z2 h L L' : Nat} (k : KN u v u0 u1 v0 v1 z0 z1 z2 h L L') (hh : h ≤ L + L') : (dig (u0 * v1 + u1 * v0)).length ≤ L + L' - h := by
  refine dig_length_le ?_
  have h1 := k.lt
  rw [k.prod] at h1
  have h2 : 256 ^ h * (u0 * v1 + u1 * v0) < 256 ^ h * 256 ^ (L + L' - h) := by
    rw [← Nat.pow_add, show h + (L + L' - h) = L + L' by omega]
    omega
  exact Nat.lt_of_mul_lt_mul_left h2

theorem run_slice_lo0 {P : Program} (t e : TypeId) (sz : Nat) (ht : P.underlying t = some (.slice e)) (hz : (P.info? e).map (·.size) = some sz) (b off len cap l : Nat) (k1 : IntKind) (L : Int)
    (eL : L = l) (h1 : l ≤ len) (hlm : l < cap) (w : World) :
    (Instr.slice t (.slice (some ⟨b, off, none⟩) len cap) (some (.int k1 L)) none none).run P w = .ok (.slice (some ⟨b, off + l * sz, none⟩) (len - l) (cap - l)) w := by
  subst eL
  have ee : P.elem t = e := by simp [Program.elem, ht]
  have ht' : P.underlying t = some (.slice (P.elem t)) := by rw [ee]; exact ht
  rw [run_slice_l w t _ len cap ht' k1 l (by omega) (by omega), ee]
  cases hq : P.info? e with
  | none => simp [hq] at hz
  | some i =>
    have hi : i.size = sz := by simpa [hq] using hz
    have hne : ¬ cap = l := by omega
    simp [sizeOf, typeInfo, hq, hi, sliced, hne, Addr.add]

set_option maxRecDepth 100000 in
set_option maxHeartbeats 6400000 in
theorem kara_core (lv : Nat) (hlv : lv < 255)
    (IH : ∀ (a a' : Option Addr) (n n' c c' : Nat) (xs ys : List Nat) (w : World), RdB w a n xs → RdB w a' n' ys → n ≤ c → n' ≤ c' → n ≤ 2048 → n' ≤ 2048 → Calls Tabg.prog 71 #[.slice a n c, .slice a' n' c', .int .u8 (lv : Int)] w fun e w' => Res w w' e (bv xs * bv ys))
    (b off b' off' L L' h : Nat) (X Y : List Nat) (w : World) (hX : RdB w (some ⟨b, off, none⟩) L X) (hY : RdB w (some ⟨b', off', none⟩) L' Y) (hL8 : 8 ≤ L) (hL8' : 8 ≤ L') (hL : L ≤ 2048) (hL' : L' ≤ 2048) (hu : bv X ≠ 0) (hv : bv Y ≠ 0)
    (a a' : Option Addr) (n n' c c' : Nat) (eh : h = (max L L' + 1) / 2)
    (C1' : Calls Tabg.prog 124 #[.slice a n c] w fun e w' => e = .returned (.slice (some ⟨b, off, none⟩) L L) ∧ w = w') (C2' : Calls Tabg.prog 124 #[.slice a' n' c'] w fun e w' => e = .returned (.slice (some ⟨b', off', none⟩) L' L') ∧ w = w') :
    Calls Tabg.prog 71 #[.slice a n c, .slice a' n' c', .int .u8 ((lv : Int) + 1)] w fun e w' => Res w w' e (bv X * bv Y) := by
  have C1 : Hid (Calls Tabg.prog 124 #[.slice a n c] w fun e w' => e = .returned (.slice (some ⟨b, off, none⟩) L L) ∧ w = w') := C1'
  have C2 : Hid (Calls Tabg.prog 124 #[.slice a' n' c'] w fun e w' => e = .returned (.slice (some ⟨b', off', none⟩) L' L') ∧ w = w') := C2'
  have hxl := hX.1
  have hyl := hY.1
  have xd := hX.2.1
  have yd := hY.2.1
  have n0 := half_low hX h
  have n1 := half_high hX h
  have m0 := half_low hY h
  have m1 := half_high hY h
  have hh1 : h ≤ 1025 := by omega
  have hh2 : L ≤ 2 * h := by omega
  have hh3 : L' ≤ 2 * h := by omega
  have CH1 : Hid (Calls Tabg.prog 125 #[.slice (some ⟨b, off, none⟩) L L, .int .i64 h] w fun e w' => e = .returned (.tuple #[.slice (nrmA (some ⟨b, off, none⟩) (bv (X.take h))) (dig (bv (X.take h))).length (dig (bv (X.take h))).length, .slice (nrmA (some ⟨b, off + h, none⟩) (bv (X.drop h))) (dig (bv (X.drop h))).length (dig (bv (X.drop h))).length]) ∧ Up w w') := halves_any b off L L h X w hX (Nat.le_refl _) (by omega) (by omega)
  have CH2 : Hid (∀ w', Up w w' → Calls Tabg.prog 125 #[.slice (some ⟨b', off', none⟩) L' L', .int .i64 h] w' fun e w'' => e = .returned (.tuple #[.slice (nrmA (some ⟨b', off', none⟩) (bv (Y.take h))) (dig (bv (Y.take h))).length (dig (bv (Y.take h))).length, .slice (nrmA (some ⟨b', off' + h, none⟩) (bv (Y.drop h))) (dig (bv (Y.drop h))).length (dig (bv (Y.drop h))).length]) ∧ Up w' w'') := fun w' hu => halves_any b' off' L' L' h Y w' (hY.up hu) (Nat.le_refl _) (by omega) (by omega)
  have KK : Hid (KN (bv X) (bv Y) (bv (X.take h)) (bv (X.drop h)) (bv (Y.take h)) (bv (Y.drop h)) (bv (X.take h) * bv (Y.take h)) ((bv (X.take h) + bv (X.drop h)) * (bv (Y.take h) + bv (Y.drop h))) (bv (X.drop h) * bv (Y.drop h)) h L L') :=
    { eu := bv_halves X h, ev := bv_halves Y h, e0 := rfl, e2 := rfl, e1 := rfl, lu := by have := bv_lt xd; rwa [← hxl] at this, lv := by have := bv_lt yd; rwa [← hyl] at this
      lu0 := bv_take_lt xd h, lv0 := bv_take_lt yd h, lu1 := by have := bv_drop_lt xd h; rwa [← hxl] at this, lv1 := by have := bv_drop_lt yd h; rwa [← hyl] at this, nu := hu, nv := hv }
  clear hxl hyl xd yd C1' C2'
  generalize nrmA (some ⟨b, off, none⟩) (bv (X.take h)) = A0 at *
  generalize nrmA (some ⟨b, off + h, none⟩) (bv (X.drop h)) = A1 at *
  generalize nrmA (some ⟨b', off', none⟩) (bv (Y.take h)) = B0 at *
  generalize nrmA (some ⟨b', off' + h, none⟩) (bv (Y.drop h)) = B1 at *
  have l0 : (dig (bv (X.take h))).length ≤ h := dig_length_le KK.out.lu0
  have l1 : (dig (bv (X.drop h))).length ≤ h := Nat.le_trans (dig_length_le KK.out.lu1) (by omega)
  have k0 : (dig (bv (Y.take h))).length ≤ h := dig_length_le KK.out.lv0
  have k1 : (dig (bv (Y.drop h))).length ≤ h := Nat.le_trans (dig_length_le KK.out.lv1) (by omega)
  generalize bv (X.take h) = u0 at *
  generalize bv (X.drop h) = u1 at *
  generalize bv (Y.take h) = v0 at *
  generalize bv (Y.drop h) = v1 at *
  have hsum : ∀ p q : Nat, (dig p).length ≤ h → (dig q).length ≤ h → (dig (p + q)).length ≤ 2048 := fun p q hp hq => by
    refine Nat.le_trans (dig_length_le (n := h + 1) ?_) (by omega)
    have h1 := dig_lt p
    have h2 := dig_lt q
    have h3 : 256 ^ (dig p).length ≤ 256 ^ h := Nat.pow_le_pow_right (by decide) hp
    have h4 : 256 ^ (dig q).length ≤ 256 ^ h := Nat.pow_le_pow_right (by decide) hq
    rw [Nat.pow_succ]
    omega
  have CK0 : Hid (∀ w', Up w w' → Calls Tabg.prog 71 #[.slice A0 (dig u0).length (dig u0).length, .slice B0 (dig v0).length (dig v0).length, .int .u8 (lv : Int)] w' fun e w'' => Res w' w'' e (u0 * v0)) := fun w' hu => by
    have := IH A0 B0 _ _ _ _ _ _ w' (n0.up hu).1 (m0.up hu).1 (Nat.le_refl _) (Nat.le_refl _) (by omega) (by omega)
    rwa [bv_dig, bv_dig] at this
  have CK2 : Hid (∀ w', Up w w' → Calls Tabg.prog 71 #[.slice A1 (dig u1).length (dig u1).length, .slice B1 (dig v1).length (dig v1).length, .int .u8 (lv : Int)] w' fun e w'' => Res w' w'' e (u1 * v1)) := fun w' hu => by
    have := IH A1 B1 _ _ _ _ _ _ w' (n1.up hu).1 (m1.up hu).1 (Nat.le_refl _) (Nat.le_refl _) (by omega) (by omega)
    rwa [bv_dig, bv_dig] at this
  have CA1 : Hid (∀ w', Up w w' → Calls Tabg.prog 69 #[.slice A0 (dig u0).length (dig u0).length, .slice A1 (dig u1).length (dig u1).length] w' fun e w'' => Res w' w'' e (u0 + u1)) := fun w' hu => by
    have := add_any A0 A1 _ _ _ _ _ _ w' (n0.up hu).1 (n1.up hu).1 (Nat.le_refl _) (Nat.le_refl _) (by omega) (by omega)
    rwa [bv_dig, bv_dig] at this
  have CA2 : Hid (∀ w', Up w w' → Calls Tabg.prog 69 #[.slice B0 (dig v0).length (dig v0).length, .slice B1 (dig v1).length (dig v1).length] w' fun e w'' => Res w' w'' e (v0 + v1)) := fun w' hu => by
    have := add_any B0 B1 _ _ _ _ _ _ w' (m0.up hu).1 (m1.up hu).1 (Nat.le_refl _) (Nat.le_refl _) (by omega) (by omega)
    rwa [bv_dig, bv_dig] at this
  have CK1 : Hid (∀ (w' : World) (p q : Option Addr) (i j : Nat), NS w' p i (u0 + u1) → NS w' q j (v0 + v1) → Calls Tabg.prog 71 #[.slice p i i, .slice q j j, .int .u8 (lv : Int)] w' fun e w'' => Res w' w'' e ((u0 + u1) * (v0 + v1))) := fun w' p q i j hp hq => by
    have := IH p q i j i j _ _ w' hp.1 hq.1 (Nat.le_refl _) (Nat.le_refl _) (by rw [hp.len]; exact hsum _ _ l0 l1) (by rw [hq.len]; exact hsum _ _ k0 k1)
    rwa [bv_dig, bv_dig] at this
  generalize (dig u0).length = i0 at *
  generalize (dig u1).length = i1 at *
  generalize (dig v0).length = j0 at *
  generalize (dig v1).length = j1 at *
  generalize hu' : bv X = u at *
  generalize hv' : bv Y = v at *
  clear hu' hv' hsum IH n0 n1 m0 m1 hX hY hu hv l0 l1 k0 k1
  generalize hz0 : u0 * v0 = z0 at *
  generalize hz2 : u1 * v1 = z2 at *
  generalize hz1 : (u0 + u1) * (v0 + v1) = z1 at *
  clear hz0 hz1 hz2
  generalize hs1 : u0 + u1 = s1 at *
  generalize hs2 : v0 + v1 = s2 at *
  clear hs1 hs2
  obtain ⟨N, hN⟩ : ∃ N, N = L + L' := ⟨_, rfl⟩
  have eN : (L : Int) + (L' : Int) = (N : Int) := by omega
  have hmk := fun w => run_make_row' (P := Tabg.prog) 87 5 (.int .u8 0) 1 Tabg.underlying87 (by kernel_rfl) rfl .i64 .i64 N (by omega) (by omega) w
  have HN : Hid (N = L + L' ∧ 8 ≤ L ∧ 8 ≤ L' ∧ h = (max L L' + 1) / 2) := ⟨hN, hL8, hL8', eh⟩
  have NI : (N : Int) ≤ 4096 := by omega
  have lvI : (lv : Int) < 255 := by omega
  have lv0 : (0 : Int) ≤ (lv : Int) := by omega
  have lve : (lv : Int) + 1 - 1 = (lv : Int) := by omega
  have lvn : decide ((lv : Int) + 1 = 0) = false := decide_eq_false (by omega)
  have lvn' : ((lv : Int) + 1 == 0) = false := by simp; omega
  have g1 : decide ((L : Int) < 8) = false := decide_eq_false (by omega)
  have g2 : decide ((L' : Int) < 8) = false := decide_eq_false (by omega)
  have g3 : (8 : Int) ≤ (L : Int) := by omega
  have g4 : (8 : Int) ≤ (L' : Int) := by omega
  have LI : (L : Int) ≤ 2048 := by omega
  have LI' : (L' : Int) ≤ 2048 := by omega
  have hI : (h : Int) ≤ 1025 := by omega
  have h0 : (0 : Int) ≤ (h : Int) := by omega
  generalize hl1 : (lv : Int) + 1 = lw at *
  have lw1 : lw - 1 = (lv : Int) := by omega
  have lw2 : (1 : Int) ≤ lw := by omega
  have lw3 : lw ≤ 255 := by omega
  clear hl1 hN hL8 hL8' hL hL' hh2 hh3
  by_cases hgt : L < L'
  · have gg : (L : Int) < (L' : Int) := by omega
    have gq : ((L' : Int) + 1) / 2 = (h : Int) := by omega
    obtain ⟨hq, hhq⟩ : ∃ hq, hq = (L + 1) / 2 := ⟨_, rfl⟩
    have gr : ((L : Int) + 1) / 2 = (hq : Int) := by omega
    have gr1 : (hq : Int) ≤ 1025 := by omega
    clear hhq
    clear eh hgt hh1
    go_enter Tabg.func71, Tabg.ntmps71
    go_wp2_with (fail)
    refine (C1.out).mono ?_
    rintro e w' ⟨rfl, rfl⟩
    go_wp2_with (fail)
    refine (C2.out).mono ?_
    rintro e w' ⟨rfl, rfl⟩
    clear C1 C2
    go_wp2_with (fail)
    refine (CH1.out).mono ?_
    rintro e w1 ⟨rfl, hu⟩
    have U1 : Hid (Up w w1) := hu
    clear hu CH1
    go_wp2_with (fail)
    refine (CH2.out _ U1.out).mono ?_
    rintro e w2 ⟨rfl, hu⟩
    have U2 : Hid (Up w w2) := (U1.out).trans hu
    clear hu CH2 U1
    go_wp2_with (fail)
    refine (CK0.out _ U2.out).mono ?_
    rintro e w3 hr
    obtain ⟨P0, zs0, a0, l0, rfl, hu, hg⟩ := hr.got
    have U3 : Hid (Up w w3) := (U2.out).trans hu
    have G0 : Hid (Got w w3 P0 zs0 a0 l0 z0) := ⟨hg.1, hg.2.1, Nat.le_trans (U2.out).size hg.2.2.1, hg.2.2.2⟩
    clear hr hu hg CK0 U2
    go_wp2_with (fail)
    refine (CK2.out _ U3.out).mono ?_
    rintro e w4 hr
    obtain ⟨P2, zs2, a2, l2, rfl, hu, hg⟩ := hr.got
    have U4 : Hid (Up w w4) := (U3.out).trans hu
    have G0' : Hid (Got w w4 P0 zs0 a0 l0 z0) := (G0.out).up hu
    have G2 : Hid (Got w w4 P2 zs2 a2 l2 z2) := ⟨hg.1, hg.2.1, Nat.le_trans (U3.out).size hg.2.2.1, hg.2.2.2⟩
    clear hr hu hg CK2 U3 G0
    go_wp2_with (fail)
    refine (CA1.out _ U4.out).mono ?_
    rintro e w5 hr
    obtain ⟨Q1, qs1, p1, m1, rfl, hu, hg⟩ := hr.got
    have U5 : Hid (Up w w5) := (U4.out).trans hu
    have U45 : Hid (Up w4 w5) := hu
    have S1 : Hid (NS w5 p1 m1 s1) := hg.ns
    clear hr hu hg CA1
    go_wp2_with (fail)
    refine (CA2.out _ U5.out).mono ?_
    rintro e w6 hr
    obtain ⟨Q2, qs2, p2, m2, rfl, hu, hg⟩ := hr.got
    have U6 : Hid (Up w w6) := (U5.out).trans hu
    have U46 : Hid (Up w4 w6) := (U45.out).trans hu
    have S1' : Hid (NS w6 p1 m1 s1) := (S1.out).up hu
    have S2 : Hid (NS w6 p2 m2 s2) := hg.ns
    clear hr hu hg CA2 U5 U45 S1
    go_wp2_with (fail)
    refine (CK1.out w6 p1 p2 m1 m2 S1'.out S2.out).mono ?_
    rintro e w7 hr
    obtain ⟨P1, zs1, a1, l1, rfl, hu, hg⟩ := hr.got
    have U7 : Hid (Up w w7) := (U6.out).trans hu
    have hz1 := KK.out.z1
    have ha1 : a1 = some ⟨P1, 0, none⟩ := by rw [hg.1, nrmA_pos _ hz1]
    subst ha1
    have F0 : Hid (Got w w7 P0 zs0 a0 l0 z0) := ((G0'.out).up U46.out).up hu
    have F2 : Hid (Got w w7 P2 zs2 a2 l2 z2) := ((G2.out).up U46.out).up hu
    have F1 : Hid (Own w7 P1 5 (u8s zs1) ∧ Digs zs1 ∧ bv zs1 = z1 ∧ l1 = (dig z1).length) := ⟨(hg.2.2.2 hz1).1, (hg.2.2.2 hz1).2.1, (hg.2.2.2 hz1).2.2, hg.2.1⟩
    have BB : Hid (w.heap.size ≤ P1 ∧ (∀ b off, a0 = some ⟨b, off, none⟩ → b ≠ P1 ∧ b < w7.heap.size) ∧ (∀ b off, a2 = some ⟨b, off, none⟩ → b ≠ P1 ∧ b < w7.heap.size) ∧ (z0 ≠ 0 → P0 ≠ P1) ∧ (z2 ≠ 0 → P2 ≠ P1)) := by
      have q1 := hg.2.2.1
      have q2 := (U46.out).size
      have q3 := hu.size
      have q4 := (U6.out).size
      refine ⟨by omega, fun b off e => ?_, fun b off e => ?_, fun hz => ?_, fun hz => ?_⟩
      · have := (G0'.out).blk b off e; omega
      · have := (G2.out).blk b off e; omega
      · have := (G0'.out).bound hz; omega
      · have := (G2.out).bound hz; omega
    have lz1 : Hid ((dig z1).length ≤ 4096) := by
      refine Nat.le_trans (dig_length_le (n := L + L') ?_) (by omega)
      have h1 := KK.out.mid
      have h2 := KK.out.prod
      have h3 := KK.out.lt
      have h4 : 1 ≤ 256 ^ h := Nat.pow_pos (by decide)
      have h5 : 1 ≤ 256 ^ (2 * h) := Nat.pow_pos (by decide)
      have h6 : u0 * v1 + u1 * v0 ≤ 256 ^ h * (u0 * v1 + u1 * v0) := Nat.le_mul_of_pos_left _ h4
      have h7 : z2 ≤ 256 ^ (2 * h) * z2 := Nat.le_mul_of_pos_left _ h5
      omega
    clear hr hu hg CK1 U6 U46 U4 S1' S2 G0' G2 hz1
    have D1 := subFrom_some P1 l1 l1 a0 l0 l0 zs1 (dig z0) w7 F1.out.1 F1.out.2.1 (by rw [F1.out.2.2.2, ← F1.out.2.2.1]; exact dig_len F1.out.2.1) (fun m hm => dig_rest F1.out.2.1 m (by rw [F1.out.2.2.1, ← F1.out.2.2.2]; exact hm)) (F0.out).ns.1 (fun b off e => (BB.out.2.1 b off e).1) (by rw [bv_dig, F1.out.2.2.1]; have := KK.out.mid; omega) (by rw [(F0.out).2.1, F1.out.2.2.2]; exact dig_len_mono (by have := KK.out.mid; omega)) (by rw [F1.out.2.2.2]; have := lz1.out; omega)
    have D1h : Hid (Calls Tabg.prog 126 #[.slice (some ⟨P1, 0, none⟩) l1 l1, .slice a0 l0 l0] w7 fun e w' => e = .returned (.tuple #[]) ∧ Mod P1 w7 w' ∧ ∃ cu, Own w' P1 5 (u8s cu) ∧ Digs cu ∧ cu.length = zs1.length ∧ (∀ m, l1 ≤ m → cu[m]?.getD 0 = 0) ∧ bv cu + bv (dig z0) = bv zs1) := D1
    clear D1
    go_wp2_with (fail)
    refine (D1h.out).mono ?_
    rintro e w8 ⟨rfl, hm, cu, ho, hd, hl, hz, hval⟩
    have M8 : Hid (Mod P1 w7 w8) := hm
    have E0 : Hid (Got w w8 P0 zs0 a0 l0 z0 ∨ z0 = 0) := by
      by_cases hz0 : z0 = 0
      · exact .inr hz0
      · exact .inl ((F0.out).mod hm (BB.out.2.2.2.1 hz0))
    have N0 : Hid (NS w8 a0 l0 z0) := by
      rcases E0.out with h1 | h1
      · exact h1.ns
      · have := (F0.out).ns
        subst h1
        have e1 := this.2 rfl
        have e2 := this.len
        rw [dig_zero] at e2
        subst e1
        rw [e2]
        exact NS.zero _
    have N2 : Hid (NS w8 a2 l2 z2) := by
      by_cases hz2 : z2 = 0
      · have := (F2.out).ns
        subst hz2
        have e1 := this.2 rfl
        have e2 := this.len
        rw [dig_zero] at e2
        subst e1
        rw [e2]
        exact NS.zero _
      · exact ((F2.out).mod hm (BB.out.2.2.2.2 hz2)).ns
    have X1 : Hid (Own w8 P1 5 (u8s cu) ∧ Digs cu ∧ l1 ≤ cu.length ∧ (∀ m, l1 ≤ m → cu[m]?.getD 0 = 0) ∧ bv cu + z0 = z1) := ⟨ho, hd, by rw [hl, F1.out.2.2.2, ← F1.out.2.2.1]; exact dig_len F1.out.2.1, hz, by rw [bv_dig, F1.out.2.2.1] at hval; exact hval⟩
    clear hm ho hd hl hz hval D1h E0
    have D2 := subFrom_some P1 l1 l1 a2 l2 l2 cu (dig z2) w8 X1.out.1 X1.out.2.1 X1.out.2.2.1 X1.out.2.2.2.1 (N2.out).1 (fun b off e => (BB.out.2.2.1 b off e).1) (by rw [bv_dig]; have := KK.out.mid; have := X1.out.2.2.2.2; omega) (by rw [(N2.out).len, F1.out.2.2.2]; exact dig_len_mono (by have := KK.out.mid; omega)) (by rw [F1.out.2.2.2]; have := lz1.out; omega)
    have D2h : Hid (Calls Tabg.prog 126 #[.slice (some ⟨P1, 0, none⟩) l1 l1, .slice a2 l2 l2] w8 fun e w' => e = .returned (.tuple #[]) ∧ Mod P1 w8 w' ∧ ∃ cv, Own w' P1 5 (u8s cv) ∧ Digs cv ∧ cv.length = cu.length ∧ (∀ m, l1 ≤ m → cv[m]?.getD 0 = 0) ∧ bv cv + bv (dig z2) = bv cu) := D2
    clear D2
    go_wp2_with (fail)
    refine (D2h.out).mono ?_
    rintro e w9 ⟨rfl, hm, cv, ho, hd, hl, hz, hval⟩
    have U9 : Hid (Up w w9) := (((U7.out).ofMod M8.out BB.out.1)).ofMod hm BB.out.1
    have SZ : Hid (w7.heap.size ≤ w9.heap.size) := Nat.le_trans (M8.out).size hm.size
    have N0' : Hid (NS w9 a0 l0 z0) := by
      refine ⟨⟨(N0.out).1.1, (N0.out).1.2.1, fun i hi => ?_⟩, (N0.out).2⟩
      obtain ⟨b, off, e, hc⟩ := (N0.out).1.2.2 i hi
      exact ⟨b, off, e, hm.cell (BB.out.2.1 b off e).1 hc⟩
    have N2' : Hid (NS w9 a2 l2 z2) := by
      refine ⟨⟨(N2.out).1.1, (N2.out).1.2.1, fun i hi => ?_⟩, (N2.out).2⟩
      obtain ⟨b, off, e, hc⟩ := (N2.out).1.2.2 i hi
      exact ⟨b, off, e, hm.cell (BB.out.2.2.1 b off e).1 hc⟩
    have X2 : Hid (Own w9 P1 5 (u8s cv) ∧ Digs cv ∧ l1 ≤ cv.length ∧ (∀ m, l1 ≤ m → cv[m]?.getD 0 = 0) ∧ bv cv = u0 * v1 + u1 * v0) := ⟨ho, hd, by rw [hl]; exact X1.out.2.2.1, hz, by
      rw [bv_dig] at hval
      have := KK.out.mid
      have := X1.out.2.2.2.2
      omega⟩
    have hO := Own.made w9 5 (.int .u8 0) N
    have e0 : List.replicate N (Value.int .u8 0) = u8s (List.replicate N 0) := u8s_replicate N 0
    rw [e0] at hO
    have HO : Hid (Own (w9.alloc (.cells (madeCells #[.int .u8 0] N) 5)) w9.heap.size 5 (u8s (List.replicate N 0))) := hO
    have HL0 : Hid (l0 ≤ 2 * h ∧ l0 ≤ N) := by
      have := KK.out.l0
      rw [← (F0.out).2.1, ← HN.out.1] at this
      exact this
    have NE1 : Hid (P1 ≠ w9.heap.size) := by have := (ho.lt); show _ ≠ _; omega
    clear hm ho hd hl hz hval D2h hO e0 N0 N2 X1 M8 F0 U7
    by_cases hz2 : z2 = 0
    · have el2 : l2 = 0 := by rw [(N2'.out).len, hz2, dig_zero]; rfl
      have ll : decide ((0 : Int) < (l2 : Int)) = false := decide_eq_false (by omega)
      subst el2
      go_wp2_with (refine wpList_copyB rfl (.tmp 91) (.tmp 92) 87 87 rfl Tabg.underlying87 a0 N N l0 l0 w9.heap.size 0 rfl rfl (List.replicate N 0) (dig z0) 5 HO.out (((N0'.out).up ((Up.refl w9).alloc _)).1) (by have := HL0.out; omega) (by have := HL0.out; simp; omega) w9 ((Up.refl w9).alloc _) (Nat.le_refl _) ?_; intro wA hwA hbA)
      have OA : Hid (Own wA w9.heap.size 5 (u8s (splice (List.replicate N 0) 0 (dig z0)))) := hwA
      have VA : Hid (Digs (splice (List.replicate N 0) 0 (dig z0)) ∧ (splice (List.replicate N 0) 0 (dig z0)).length = N ∧ bv (splice (List.replicate N 0) 0 (dig z0)) = z0 ∧ ∀ m, 2 * h ≤ m → (splice (List.replicate N 0) 0 (dig z0))[m]?.getD 0 = 0) := by
        have q0 := HL0.out
        have q1 := (N0'.out).len
        have zz : ∀ m, (List.replicate N 0)[m]?.getD 0 = 0 := fun m => by rw [List.getElem?_replicate]; split <;> rfl
        refine ⟨splice_digs 0 (digs_zero _) (dig_digs _), by rw [length_splice _ _ _ (by simp; omega)]; simp, ?_, fun m hm => splice_zero (by omega) (zz m) (by simp; omega)⟩
        rw [bv_splice (by simp; omega) (fun m _ => zz m), bv_zeros, bv_dig]
        simp
      clear hwA HO hmk
      generalize splice (List.replicate N 0) 0 (dig z0) = cA at *
      have OB : Hid (Own wA w9.heap.size 5 (u8s cA)) := OA
      have VB : Hid (Digs cA ∧ cA.length = N ∧ bv cA = z0 + 256 ^ (2 * h) * z2) := ⟨VA.out.1, VA.out.2.1, by rw [VA.out.2.2.1, hz2]; simp⟩
      have UB : Hid (Up w9 wA) := hbA
      clear OA VA hz2 hbA N0' N2'
      obtain ⟨R, hR⟩ : ∃ R, R = N - h := ⟨_, rfl⟩
      have hs3 : ∀ w' : World, (Instr.slice 87 (.slice (some ⟨w9.heap.size, 0, none⟩) N N) (some (.int .i64 (h : Int))) (some (.int .i64 (N : Int))) (some (.int .i64 (N : Int)))).run Tabg.prog w' = .ok (.slice (some ⟨w9.heap.size, h, none⟩) R R) w' := fun w' => by
        rw [run_slice3 (P := Tabg.prog) 87 5 1 Tabg.underlying87 (by kernel_rfl) w9.heap.size 0 N N h N N .i64 .i64 .i64 (h : Int) (N : Int) (N : Int) rfl rfl rfl (by have := HN.out; omega) (Nat.le_refl _) (Nat.le_refl _) (by have := HN.out; omega) w', Nat.zero_add, Nat.mul_one, hR]
      have HR : Hid (R = N - h ∧ h ≤ N) := ⟨hR, by have := HN.out; omega⟩
      have EV : Hid (bv (cv.take l1) = u0 * v1 + u1 * v0) := by
        show _ = _
        rw [← (bv_low X2.out.2.1 X2.out.2.2.1 X2.out.2.2.2.1).2]
        exact X2.out.2.2.2.2
      have RV : ∀ w', Up w9 w' → RdB w' (some ⟨P1, 0, none⟩) l1 (cv.take l1) := fun w' hu => ((Own.rdB X2.out.1 X2.out.2.1).take (m := l1) X2.out.2.2.1).up hu
      have CN : Hid (∀ w', Up wA w' → Calls Tabg.prog 124 #[.slice (some ⟨P1, 0, none⟩) l1 l1] w' fun e w'' => e = .returned (.slice (nrmA (some ⟨P1, 0, none⟩) (u0 * v1 + u1 * v0)) (dig (u0 * v1 + u1 * v0)).length (dig (u0 * v1 + u1 * v0)).length) ∧ w' = w'') := fun w' hu => by
        have := knormal_any (some ⟨P1, 0, none⟩) l1 l1 (cv.take l1) w' (RV w' ((UB.out).trans hu)) (Nat.le_refl _) (by rw [F1.out.2.2.2]; have := lz1.out; omega)
        rwa [EV.out] at this
      have CT : Hid (∀ w', Up wA w' → Calls Tabg.prog 127 #[.slice (some ⟨w9.heap.size, h, none⟩) R R, .slice (nrmA (some ⟨P1, 0, none⟩) (u0 * v1 + u1 * v0)) (dig (u0 * v1 + u1 * v0)).length (dig (u0 * v1 + u1 * v0)).length] w' fun e w'' => e = .returned (.tuple #[]) ∧ Mod w9.heap.size w' w'' ∧ ∃ cz, Own w'' w9.heap.size 5 (u8s cz) ∧ Digs cz ∧ cz.length = N ∧ bv cz = u * v) := fun w' hu => by
        have hns : NS w' (nrmA (some ⟨P1, 0, none⟩) (bv (cv.take l1))) (dig (bv (cv.take l1))).length (bv (cv.take l1)) := NS.ofNrm (RV w' ((UB.out).trans hu))
        rw [EV.out] at hns
        have hp := KK.out.prod
        have hlt := KK.out.lt
        have q := HR.out
        have qn := HN.out.1
        refine (addAt_some w9.heap.size h R R _ _ _ cA (dig (u0 * v1 + u1 * v0)) w' ((OB.out).up hu) VB.out.1 (by rw [VB.out.2.1]; omega) hns.1 ?_ ?_ ?_ (by omega)).mono ?_
        · intro b off e hb
          by_cases hv0 : u0 * v1 + u1 * v0 = 0
          · rw [hv0] at e; cases e
          · rw [nrmA_pos _ hv0] at e
            cases e
            exact NE1.out hb
        · rw [bv_dig, VB.out.2.2, VB.out.2.1, qn]
          omega
        · have := KK.out.lm (by omega)
          omega
        · rintro e w'' ⟨he, hm, cz, h1, h2, h3, h4⟩
          refine ⟨he, hm, cz, h1, h2, by rw [h3]; exact VB.out.2.1, ?_⟩
          rw [h4, bv_dig, VB.out.2.2, hp]
          omega
      generalize nrmA (some ⟨P1, 0, none⟩) (u0 * v1 + u1 * v0) = aM at *
      generalize (dig (u0 * v1 + u1 * v0)).length = lM at *
      clear hR HR EV RV X2 NE1 lz1 F1 F2 BB OB VB
      go_wp2_with (fail)
      go_region_with (first | (go_at_call 124; refine (CN.out _ ((Up.refl _).drewN _)).mono ?_; rintro e w' ⟨rfl, rfl⟩) | (go_at_call 127; refine (CT.out _ ((Up.refl _).drewN _)).mono ?_; rintro e wC ⟨rfl, hmC, cz, hoC, hdC, hlC, hvC⟩; have UC : Hid (Up w wC) := ((U9.out).trans ((UB.out).drewN _)).ofMod hmC (U9.out).size; have OC : Hid (Own wC w9.heap.size 5 (u8s cz) ∧ Digs cz ∧ cz.length = N ∧ bv cz = u * v) := ⟨hoC, hdC, hlC, hvC⟩; clear hmC hoC hdC hlC hvC))
      all_goals go_wp2_with (fail)
      all_goals refine ((knormal_any (some ⟨w9.heap.size, 0, none⟩) N N cz _ (by have := Own.rdB (Own.up OC.out.1 (by first | exact Up.refl _ | exact (Up.refl _).drewN _)) OC.out.2.1; rw [OC.out.2.2.1] at this; exact this) (Nat.le_refl _) (by omega)).mono ?_)
      all_goals (rintro e w' ⟨rfl, rfl⟩)
      all_goals go_wp2_with (fail)
      all_goals go_ret
      all_goals (refine ⟨w9.heap.size, cz, by rw [← OC.out.2.2.2]; rfl, (U9.out).size, by first | exact UC.out | exact (UC.out).drewN _, fun _ => ⟨by first | exact OC.out.1 | exact Own.drewN OC.out.1 _, OC.out.2.1, OC.out.2.2.2⟩⟩)
    · have el2 : l2 ≠ 0 := by have := (N2'.out).len; have := dig_length_pos hz2; omega
      have ll : (0 : Int) < (l2 : Int) := by omega
      have K2 := KK.out.l2 hz2
      obtain ⟨H2, hH2⟩ : ∃ H2, H2 = 2 * h := ⟨_, rfl⟩
      have eH2 : 2 * (h : Int) = (H2 : Int) := by omega
      obtain ⟨R2, hR2⟩ : ∃ R2, R2 = N - H2 := ⟨_, rfl⟩
      have hsl : ∀ w' : World, (Instr.slice 87 (.slice (some ⟨w9.heap.size, 0, none⟩) N N) (some (.int .i64 (H2 : Int))) none none).run Tabg.prog w' = .ok (.slice (some ⟨w9.heap.size, H2, none⟩) R2 R2) w' := fun w' => by
        rw [run_slice_lo0 (P := Tabg.prog) 87 5 1 Tabg.underlying87 (by kernel_rfl) w9.heap.size 0 N N H2 .i64 (H2 : Int) rfl (by have := HN.out.1; omega) (by have := HN.out.1; omega) w', Nat.zero_add, Nat.mul_one, hR2]
      have H2I : (H2 : Int) ≤ 2050 := by omega
      have H20 : (0 : Int) ≤ (H2 : Int) := by omega
      have HR2 : Hid (R2 = N - H2 ∧ H2 = 2 * h ∧ l2 = (dig z2).length ∧ h < L ∧ h < L' ∧ l2 ≤ R2) := ⟨hR2, hH2, (N2'.out).len, K2.1, K2.2.1, by have := (N2'.out).len; have := HN.out.1; omega⟩
      clear hR2 hH2 K2
      go_wp2_with (first
        | (refine wpList_copyB rfl (.tmp 91) (.tmp 92) 87 87 rfl Tabg.underlying87 a0 N N l0 l0 w9.heap.size 0 rfl rfl (List.replicate N 0) (dig z0) 5 HO.out (((N0'.out).up ((Up.refl w9).alloc _)).1) (by have := HL0.out; omega) (by have := HL0.out; simp; omega) w9 ((Up.refl w9).alloc _) (Nat.le_refl _) ?_
           intro wA hwA hbA
           have OA : Hid (Own wA w9.heap.size 5 (u8s (splice (List.replicate N 0) 0 (dig z0)))) := hwA
           have VA : Hid (Digs (splice (List.replicate N 0) 0 (dig z0)) ∧ (splice (List.replicate N 0) 0 (dig z0)).length = N ∧ bv (splice (List.replicate N 0) 0 (dig z0)) = z0 ∧ ∀ m, 2 * h ≤ m → (splice (List.replicate N 0) 0 (dig z0))[m]?.getD 0 = 0) := by
             have q0 := HL0.out
             have q1 := (N0'.out).len
             have zz : ∀ m, (List.replicate N 0)[m]?.getD 0 = 0 := fun m => by rw [List.getElem?_replicate]; split <;> rfl
             refine ⟨splice_digs 0 (digs_zero _) (dig_digs _), by rw [length_splice _ _ _ (by simp; omega)]; simp, ?_, fun m hm => splice_zero (by omega) (zz m) (by simp; omega)⟩
             rw [bv_splice (by simp; omega) (fun m _ => zz m), bv_zeros, bv_dig]
             simp
           clear hwA HO hmk
           generalize splice (List.replicate N 0) 0 (dig z0) = cA at *)
        | (refine wpList_copyB rfl (.tmp 100) (.tmp 101) 87 87 rfl Tabg.underlying87 a2 R2 R2 l2 l2 w9.heap.size H2 rfl rfl cA (dig z2) 5 OA.out (((N2'.out).up hbA.out).1) HR2.out.2.2.2.2.2 (by rw [VA.out.2.1]; have := HR2.out; have := HN.out.1; omega) w9 hbA.out (Nat.le_refl _) ?_
           intro wB hwB hbB))
      have OB : Hid (Own wB w9.heap.size 5 (u8s (splice cA H2 (dig z2)))) := hwB
      have VB : Hid (Digs (splice cA H2 (dig z2)) ∧ (splice cA H2 (dig z2)).length = N ∧ bv (splice cA H2 (dig z2)) = z0 + 256 ^ (2 * h) * z2) := by
        have q := HR2.out
        have q2 := HN.out.1
        have q3 := VA.out.2.1
        have hfit : H2 + (dig z2).length ≤ cA.length := by omega
        refine ⟨splice_digs _ VA.out.1 (dig_digs _), by rw [length_splice _ _ _ hfit]; exact VA.out.2.1, ?_⟩
        rw [bv_splice hfit (fun m hm => VA.out.2.2.2 m (by omega)), VA.out.2.2.1, bv_dig, q.2.1]
      have UB : Hid (Up w9 wB) := hbB
      clear OA VA hz2 hbA hwB hbB HR2 hsl el2 N0' N2'
      generalize splice cA H2 (dig z2) = cB at *
      obtain ⟨R, hR⟩ : ∃ R, R = N - h := ⟨_, rfl⟩
      have hs3 : ∀ w' : World, (Instr.slice 87 (.slice (some ⟨w9.heap.size, 0, none⟩) N N) (some (.int .i64 (h : Int))) (some (.int .i64 (N : Int))) (some (.int .i64 (N : Int)))).run Tabg.prog w' = .ok (.slice (some ⟨w9.heap.size, h, none⟩) R R) w' := fun w' => by
        rw [run_slice3 (P := Tabg.prog) 87 5 1 Tabg.underlying87 (by kernel_rfl) w9.heap.size 0 N N h N N .i64 .i64 .i64 (h : Int) (N : Int) (N : Int) rfl rfl rfl (by have := HN.out; omega) (Nat.le_refl _) (Nat.le_refl _) (by have := HN.out; omega) w', Nat.zero_add, Nat.mul_one, hR]
      have HR : Hid (R = N - h ∧ h ≤ N) := ⟨hR, by have := HN.out; omega⟩
      have EV : Hid (bv (cv.take l1) = u0 * v1 + u1 * v0) := by
        show _ = _
        rw [← (bv_low X2.out.2.1 X2.out.2.2.1 X2.out.2.2.2.1).2]
        exact X2.out.2.2.2.2
      have RV : ∀ w', Up w9 w' → RdB w' (some ⟨P1, 0, none⟩) l1 (cv.take l1) := fun w' hu => ((Own.rdB X2.out.1 X2.out.2.1).take (m := l1) X2.out.2.2.1).up hu
      have CN : Hid (∀ w', Up wB w' → Calls Tabg.prog 124 #[.slice (some ⟨P1, 0, none⟩) l1 l1] w' fun e w'' => e = .returned (.slice (nrmA (some ⟨P1, 0, none⟩) (u0 * v1 + u1 * v0)) (dig (u0 * v1 + u1 * v0)).length (dig (u0 * v1 + u1 * v0)).length) ∧ w' = w'') := fun w' hu => by
        have := knormal_any (some ⟨P1, 0, none⟩) l1 l1 (cv.take l1) w' (RV w' ((UB.out).trans hu)) (Nat.le_refl _) (by rw [F1.out.2.2.2]; have := lz1.out; omega)
        rwa [EV.out] at this
      have CT : Hid (∀ w', Up wB w' → Calls Tabg.prog 127 #[.slice (some ⟨w9.heap.size, h, none⟩) R R, .slice (nrmA (some ⟨P1, 0, none⟩) (u0 * v1 + u1 * v0)) (dig (u0 * v1 + u1 * v0)).length (dig (u0 * v1 + u1 * v0)).length] w' fun e w'' => e = .returned (.tuple #[]) ∧ Mod w9.heap.size w' w'' ∧ ∃ cz, Own w'' w9.heap.size 5 (u8s cz) ∧ Digs cz ∧ cz.length = N ∧ bv cz = u * v) := fun w' hu => by
        have hns : NS w' (nrmA (some ⟨P1, 0, none⟩) (bv (cv.take l1))) (dig (bv (cv.take l1))).length (bv (cv.take l1)) := NS.ofNrm (RV w' ((UB.out).trans hu))
        rw [EV.out] at hns
        have hp := KK.out.prod
        have hlt := KK.out.lt
        have q := HR.out
        have qn := HN.out.1
        refine (addAt_some w9.heap.size h R R _ _ _ cB (dig (u0 * v1 + u1 * v0)) w' ((OB.out).up hu) VB.out.1 (by rw [VB.out.2.1]; omega) hns.1 ?_ ?_ ?_ (by omega)).mono ?_
        · intro b off e hb
          by_cases hv0 : u0 * v1 + u1 * v0 = 0
          · rw [hv0] at e; cases e
          · rw [nrmA_pos _ hv0] at e
            cases e
            exact NE1.out hb
        · rw [bv_dig, VB.out.2.2, VB.out.2.1, qn]
          omega
        · have := KK.out.lm (by omega)
          omega
        · rintro e w'' ⟨he, hm, cz, h1, h2, h3, h4⟩
          refine ⟨he, hm, cz, h1, h2, by rw [h3]; exact VB.out.2.1, ?_⟩
          rw [h4, bv_dig, VB.out.2.2, hp]
          omega
      generalize nrmA (some ⟨P1, 0, none⟩) (u0 * v1 + u1 * v0) = aM at *
      generalize (dig (u0 * v1 + u1 * v0)).length = lM at *
      clear hR HR EV RV X2 NE1 lz1 F1 F2 BB OB VB
      go_wp2_with (fail)
      go_region_with (first | (go_at_call 124; refine (CN.out _ ((Up.refl _).drewN _)).mono ?_; rintro e w' ⟨rfl, rfl⟩) | (go_at_call 127; refine (CT.out _ ((Up.refl _).drewN _)).mono ?_; rintro e wC ⟨rfl, hmC, cz, hoC, hdC, hlC, hvC⟩; have UC : Hid (Up w wC) := ((U9.out).trans ((UB.out).drewN _)).ofMod hmC (U9.out).size; have OC : Hid (Own wC w9.heap.size 5 (u8s cz) ∧ Digs cz ∧ cz.length = N ∧ bv cz = u * v) := ⟨hoC, hdC, hlC, hvC⟩; clear hmC hoC hdC hlC hvC))
      all_goals go_wp2_with (fail)
      all_goals refine ((knormal_any (some ⟨w9.heap.size, 0, none⟩) N N cz _ (by have := Own.rdB (Own.up OC.out.1 (by first | exact Up.refl _ | exact (Up.refl _).drewN _)) OC.out.2.1; rw [OC.out.2.2.1] at this; exact this) (Nat.le_refl _) (by omega)).mono ?_)
      all_goals (rintro e w' ⟨rfl, rfl⟩)
      all_goals go_wp2_with (fail)
      all_goals go_ret
      all_goals (refine ⟨w9.heap.size, cz, by rw [← OC.out.2.2.2]; rfl, (U9.out).size, by first | exact UC.out | exact (UC.out).drewN _, fun _ => ⟨by first | exact OC.out.1 | exact Own.drewN OC.out.1 _, OC.out.2.1, OC.out.2.2.2⟩⟩)
  · have gg : decide ((L : Int) < (L' : Int)) = false := decide_eq_false (by omega)
    have gg' : (L' : Int) ≤ (L : Int) := by omega
    have gq : ((L : Int) + 1) / 2 = (h : Int) := by omega
    clear eh hgt hh1
    go_enter Tabg.func71, Tabg.ntmps71
    go_wp2_with (fail)
    refine (C1.out).mono ?_
    rintro e w' ⟨rfl, rfl⟩
    go_wp2_with (fail)
    refine (C2.out).mono ?_
    rintro e w' ⟨rfl, rfl⟩
    clear C1 C2
    go_wp2_with (fail)
    refine (CH1.out).mono ?_
    rintro e w1 ⟨rfl, hu⟩
    have U1 : Hid (Up w w1) := hu
    clear hu CH1
    go_wp2_with (fail)
    refine (CH2.out _ U1.out).mono ?_
    rintro e w2 ⟨rfl, hu⟩
    have U2 : Hid (Up w w2) := (U1.out).trans hu
    clear hu CH2 U1
    go_wp2_with (fail)
    refine (CK0.out _ U2.out).mono ?_
    rintro e w3 hr
    obtain ⟨P0, zs0, a0, l0, rfl, hu, hg⟩ := hr.got
    have U3 : Hid (Up w w3) := (U2.out).trans hu
    have G0 : Hid (Got w w3 P0 zs0 a0 l0 z0) := ⟨hg.1, hg.2.1, Nat.le_trans (U2.out).size hg.2.2.1, hg.2.2.2⟩
    clear hr hu hg CK0 U2
    go_wp2_with (fail)
    refine (CK2.out _ U3.out).mono ?_
    rintro e w4 hr
    obtain ⟨P2, zs2, a2, l2, rfl, hu, hg⟩ := hr.got
    have U4 : Hid (Up w w4) := (U3.out).trans hu
    have G0' : Hid (Got w w4 P0 zs0 a0 l0 z0) := (G0.out).up hu
    have G2 : Hid (Got w w4 P2 zs2 a2 l2 z2) := ⟨hg.1, hg.2.1, Nat.le_trans (U3.out).size hg.2.2.1, hg.2.2.2⟩
    clear hr hu hg CK2 U3 G0
    go_wp2_with (fail)
    refine (CA1.out _ U4.out).mono ?_
    rintro e w5 hr
    obtain ⟨Q1, qs1, p1, m1, rfl, hu, hg⟩ := hr.got
    have U5 : Hid (Up w w5) := (U4.out).trans hu
    have U45 : Hid (Up w4 w5) := hu
    have S1 : Hid (NS w5 p1 m1 s1) := hg.ns
    clear hr hu hg CA1
    go_wp2_with (fail)
    refine (CA2.out _ U5.out).mono ?_
    rintro e w6 hr
    obtain ⟨Q2, qs2, p2, m2, rfl, hu, hg⟩ := hr.got
    have U6 : Hid (Up w w6) := (U5.out).trans hu
    have U46 : Hid (Up w4 w6) := (U45.out).trans hu
    have S1' : Hid (NS w6 p1 m1 s1) := (S1.out).up hu
    have S2 : Hid (NS w6 p2 m2 s2) := hg.ns
    clear hr hu hg CA2 U5 U45 S1
    go_wp2_with (fail)
    refine (CK1.out w6 p1 p2 m1 m2 S1'.out S2.out).mono ?_
    rintro e w7 hr
    obtain ⟨P1, zs1, a1, l1, rfl, hu, hg⟩ := hr.got
    have U7 : Hid (Up w w7) := (U6.out).trans hu
    have hz1 := KK.out.z1
    have ha1 : a1 = some ⟨P1, 0, none⟩ := by rw [hg.1, nrmA_pos _ hz1]
    subst ha1
    have F0 : Hid (Got w w7 P0 zs0 a0 l0 z0) := ((G0'.out).up U46.out).up hu
    have F2 : Hid (Got w w7 P2 zs2 a2 l2 z2) := ((G2.out).up U46.out).up hu
    have F1 : Hid (Own w7 P1 5 (u8s zs1) ∧ Digs zs1 ∧ bv zs1 = z1 ∧ l1 = (dig z1).length) := ⟨(hg.2.2.2 hz1).1, (hg.2.2.2 hz1).2.1, (hg.2.2.2 hz1).2.2, hg.2.1⟩
    have BB : Hid (w.heap.size ≤ P1 ∧ (∀ b off, a0 = some ⟨b, off, none⟩ → b ≠ P1 ∧ b < w7.heap.size) ∧ (∀ b off, a2 = some ⟨b, off, none⟩ → b ≠ P1 ∧ b < w7.heap.size) ∧ (z0 ≠ 0 → P0 ≠ P1) ∧ (z2 ≠ 0 → P2 ≠ P1)) := by
      have q1 := hg.2.2.1
      have q2 := (U46.out).size
      have q3 := hu.size
      have q4 := (U6.out).size
      refine ⟨by omega, fun b off e => ?_, fun b off e => ?_, fun hz => ?_, fun hz => ?_⟩
      · have := (G0'.out).blk b off e; omega
      · have := (G2.out).blk b off e; omega
      · have := (G0'.out).bound hz; omega
      · have := (G2.out).bound hz; omega
    have lz1 : Hid ((dig z1).length ≤ 4096) := by
      refine Nat.le_trans (dig_length_le (n := L + L') ?_) (by omega)
      have h1 := KK.out.mid
      have h2 := KK.out.prod
      have h3 := KK.out.lt
      have h4 : 1 ≤ 256 ^ h := Nat.pow_pos (by decide)
      have h5 : 1 ≤ 256 ^ (2 * h) := Nat.pow_pos (by decide)
      have h6 : u0 * v1 + u1 * v0 ≤ 256 ^ h * (u0 * v1 + u1 * v0) := Nat.le_mul_of_pos_left _ h4
      have h7 : z2 ≤ 256 ^ (2 * h) * z2 := Nat.le_mul_of_pos_left _ h5
      omega
    clear hr hu hg CK1 U6 U46 U4 S1' S2 G0' G2 hz1
    have D1 := subFrom_some P1 l1 l1 a0 l0 l0 zs1 (dig z0) w7 F1.out.1 F1.out.2.1 (by rw [F1.out.2.2.2, ← F1.out.2.2.1]; exact dig_len F1.out.2.1) (fun m hm => dig_rest F1.out.2.1 m (by rw [F1.out.2.2.1, ← F1.out.2.2.2]; exact hm)) (F0.out).ns.1 (fun b off e => (BB.out.2.1 b off e).1) (by rw [bv_dig, F1.out.2.2.1]; have := KK.out.mid; omega) (by rw [(F0.out).2.1, F1.out.2.2.2]; exact dig_len_mono (by have := KK.out.mid; omega)) (by rw [F1.out.2.2.2]; have := lz1.out; omega)
    have D1h : Hid (Calls Tabg.prog 126 #[.slice (some ⟨P1, 0, none⟩) l1 l1, .slice a0 l0 l0] w7 fun e w' => e = .returned (.tuple #[]) ∧ Mod P1 w7 w' ∧ ∃ cu, Own w' P1 5 (u8s cu) ∧ Digs cu ∧ cu.length = zs1.length ∧ (∀ m, l1 ≤ m → cu[m]?.getD 0 = 0) ∧ bv cu + bv (dig z0) = bv zs1) := D1
    clear D1
    go_wp2_with (fail)
    refine (D1h.out).mono ?_
    rintro e w8 ⟨rfl, hm, cu, ho, hd, hl, hz, hval⟩
    have M8 : Hid (Mod P1 w7 w8) := hm
    have E0 : Hid (Got w w8 P0 zs0 a0 l0 z0 ∨ z0 = 0) := by
      by_cases hz0 : z0 = 0
      · exact .inr hz0
      · exact .inl ((F0.out).mod hm (BB.out.2.2.2.1 hz0))
    have N0 : Hid (NS w8 a0 l0 z0) := by
      rcases E0.out with h1 | h1
      · exact h1.ns
      · have := (F0.out).ns
        subst h1
        have e1 := this.2 rfl
        have e2 := this.len
        rw [dig_zero] at e2
        subst e1
        rw [e2]
        exact NS.zero _
    have N2 : Hid (NS w8 a2 l2 z2) := by
      by_cases hz2 : z2 = 0
      · have := (F2.out).ns
        subst hz2
        have e1 := this.2 rfl
        have e2 := this.len
        rw [dig_zero] at e2
        subst e1
        rw [e2]
        exact NS.zero _
      · exact ((F2.out).mod hm (BB.out.2.2.2.2 hz2)).ns
    have X1 : Hid (Own w8 P1 5 (u8s cu) ∧ Digs cu ∧ l1 ≤ cu.length ∧ (∀ m, l1 ≤ m → cu[m]?.getD 0 = 0) ∧ bv cu + z0 = z1) := ⟨ho, hd, by rw [hl, F1.out.2.2.2, ← F1.out.2.2.1]; exact dig_len F1.out.2.1, hz, by rw [bv_dig, F1.out.2.2.1] at hval; exact hval⟩
    clear hm ho hd hl hz hval D1h E0
    have D2 := subFrom_some P1 l1 l1 a2 l2 l2 cu (dig z2) w8 X1.out.1 X1.out.2.1 X1.out.2.2.1 X1.out.2.2.2.1 (N2.out).1 (fun b off e => (BB.out.2.2.1 b off e).1) (by rw [bv_dig]; have := KK.out.mid; have := X1.out.2.2.2.2; omega) (by rw [(N2.out).len, F1.out.2.2.2]; exact dig_len_mono (by have := KK.out.mid; omega)) (by rw [F1.out.2.2.2]; have := lz1.out; omega)
    have D2h : Hid (Calls Tabg.prog 126 #[.slice (some ⟨P1, 0, none⟩) l1 l1, .slice a2 l2 l2] w8 fun e w' => e = .returned (.tuple #[]) ∧ Mod P1 w8 w' ∧ ∃ cv, Own w' P1 5 (u8s cv) ∧ Digs cv ∧ cv.length = cu.length ∧ (∀ m, l1 ≤ m → cv[m]?.getD 0 = 0) ∧ bv cv + bv (dig z2) = bv cu) := D2
    clear D2
    go_wp2_with (fail)
    refine (D2h.out).mono ?_
    rintro e w9 ⟨rfl, hm, cv, ho, hd, hl, hz, hval⟩
    have U9 : Hid (Up w w9) := (((U7.out).ofMod M8.out BB.out.1)).ofMod hm BB.out.1
    have SZ : Hid (w7.heap.size ≤ w9.heap.size) := Nat.le_trans (M8.out).size hm.size
    have N0' : Hid (NS w9 a0 l0 z0) := by
      refine ⟨⟨(N0.out).1.1, (N0.out).1.2.1, fun i hi => ?_⟩, (N0.out).2⟩
      obtain ⟨b, off, e, hc⟩ := (N0.out).1.2.2 i hi
      exact ⟨b, off, e, hm.cell (BB.out.2.1 b off e).1 hc⟩
    have N2' : Hid (NS w9 a2 l2 z2) := by
      refine ⟨⟨(N2.out).1.1, (N2.out).1.2.1, fun i hi => ?_⟩, (N2.out).2⟩
      obtain ⟨b, off, e, hc⟩ := (N2.out).1.2.2 i hi
      exact ⟨b, off, e, hm.cell (BB.out.2.2.1 b off e).1 hc⟩
    have X2 : Hid (Own w9 P1 5 (u8s cv) ∧ Digs cv ∧ l1 ≤ cv.length ∧ (∀ m, l1 ≤ m → cv[m]?.getD 0 = 0) ∧ bv cv = u0 * v1 + u1 * v0) := ⟨ho, hd, by rw [hl]; exact X1.out.2.2.1, hz, by
      rw [bv_dig] at hval
      have := KK.out.mid
      have := X1.out.2.2.2.2
      omega⟩
    have hO := Own.made w9 5 (.int .u8 0) N
    have e0 : List.replicate N (Value.int .u8 0) = u8s (List.replicate N 0) := u8s_replicate N 0
    rw [e0] at hO
    have HO : Hid (Own (w9.alloc (.cells (madeCells #[.int .u8 0] N) 5)) w9.heap.size 5 (u8s (List.replicate N 0))) := hO
    have HL0 : Hid (l0 ≤ 2 * h ∧ l0 ≤ N) := by
      have := KK.out.l0
      rw [← (F0.out).2.1, ← HN.out.1] at this
      exact this
    have NE1 : Hid (P1 ≠ w9.heap.size) := by have := (ho.lt); show _ ≠ _; omega
    clear hm ho hd hl hz hval D2h hO e0 N0 N2 X1 M8 F0 U7
    by_cases hz2 : z2 = 0
    · have el2 : l2 = 0 := by rw [(N2'.out).len, hz2, dig_zero]; rfl
      have ll : decide ((0 : Int) < (l2 : Int)) = false := decide_eq_false (by omega)
      subst el2
      go_wp2_with (refine wpList_copyB rfl (.tmp 91) (.tmp 92) 87 87 rfl Tabg.underlying87 a0 N N l0 l0 w9.heap.size 0 rfl rfl (List.replicate N 0) (dig z0) 5 HO.out (((N0'.out).up ((Up.refl w9).alloc _)).1) (by have := HL0.out; omega) (by have := HL0.out; simp; omega) w9 ((Up.refl w9).alloc _) (Nat.le_refl _) ?_; intro wA hwA hbA)
      have OA : Hid (Own wA w9.heap.size 5 (u8s (splice (List.replicate N 0) 0 (dig z0)))) := hwA
      have VA : Hid (Digs (splice (List.replicate N 0) 0 (dig z0)) ∧ (splice (List.replicate N 0) 0 (dig z0)).length = N ∧ bv (splice (List.replicate N 0) 0 (dig z0)) = z0 ∧ ∀ m, 2 * h ≤ m → (splice (List.replicate N 0) 0 (dig z0))[m]?.getD 0 = 0) := by
        have q0 := HL0.out
        have q1 := (N0'.out).len
        have zz : ∀ m, (List.replicate N 0)[m]?.getD 0 = 0 := fun m => by rw [List.getElem?_replicate]; split <;> rfl
        refine ⟨splice_digs 0 (digs_zero _) (dig_digs _), by rw [length_splice _ _ _ (by simp; omega)]; simp, ?_, fun m hm => splice_zero (by omega) (zz m) (by simp; omega)⟩
        rw [bv_splice (by simp; omega) (fun m _ => zz m), bv_zeros, bv_dig]
        simp
      clear hwA HO hmk
      generalize splice (List.replicate N 0) 0 (dig z0) = cA at *
      have OB : Hid (Own wA w9.heap.size 5 (u8s cA)) := OA
      have VB : Hid (Digs cA ∧ cA.length = N ∧ bv cA = z0 + 256 ^ (2 * h) * z2) := ⟨VA.out.1, VA.out.2.1, by rw [VA.out.2.2.1, hz2]; simp⟩
      have UB : Hid (Up w9 wA) := hbA
      clear OA VA hz2 hbA N0' N2'
      obtain ⟨R, hR⟩ : ∃ R, R = N - h := ⟨_, rfl⟩
      have hs3 : ∀ w' : World, (Instr.slice 87 (.slice (some ⟨w9.heap.size, 0, none⟩) N N) (some (.int .i64 (h : Int))) (some (.int .i64 (N : Int))) (some (.int .i64 (N : Int)))).run Tabg.prog w' = .ok (.slice (some ⟨w9.heap.size, h, none⟩) R R) w' := fun w' => by
        rw [run_slice3 (P := Tabg.prog) 87 5 1 Tabg.underlying87 (by kernel_rfl) w9.heap.size 0 N N h N N .i64 .i64 .i64 (h : Int) (N : Int) (N : Int) rfl rfl rfl (by have := HN.out; omega) (Nat.le_refl _) (Nat.le_refl _) (by have := HN.out; omega) w', Nat.zero_add, Nat.mul_one, hR]
      have HR : Hid (R = N - h ∧ h ≤ N) := ⟨hR, by have := HN.out; omega⟩
      have EV : Hid (bv (cv.take l1) = u0 * v1 + u1 * v0) := by
        show _ = _
        rw [← (bv_low X2.out.2.1 X2.out.2.2.1 X2.out.2.2.2.1).2]
        exact X2.out.2.2.2.2
      have RV : ∀ w', Up w9 w' → RdB w' (some ⟨P1, 0, none⟩) l1 (cv.take l1) := fun w' hu => ((Own.rdB X2.out.1 X2.out.2.1).take (m := l1) X2.out.2.2.1).up hu
      have CN : Hid (∀ w', Up wA w' → Calls Tabg.prog 124 #[.slice (some ⟨P1, 0, none⟩) l1 l1] w' fun e w'' => e = .returned (.slice (nrmA (some ⟨P1, 0, none⟩) (u0 * v1 + u1 * v0)) (dig (u0 * v1 + u1 * v0)).length (dig (u0 * v1 + u1 * v0)).length) ∧ w' = w'') := fun w' hu => by
        have := knormal_any (some ⟨P1, 0, none⟩) l1 l1 (cv.take l1) w' (RV w' ((UB.out).trans hu)) (Nat.le_refl _) (by rw [F1.out.2.2.2]; have := lz1.out; omega)
        rwa [EV.out] at this
      have CT : Hid (∀ w', Up wA w' → Calls Tabg.prog 127 #[.slice (some ⟨w9.heap.size, h, none⟩) R R, .slice (nrmA (some ⟨P1, 0, none⟩) (u0 * v1 + u1 * v0)) (dig (u0 * v1 + u1 * v0)).length (dig (u0 * v1 + u1 * v0)).length] w' fun e w'' => e = .returned (.tuple #[]) ∧ Mod w9.heap.size w' w'' ∧ ∃ cz, Own w'' w9.heap.size 5 (u8s cz) ∧ Digs cz ∧ cz.length = N ∧ bv cz = u * v) := fun w' hu => by
        have hns : NS w' (nrmA (some ⟨P1, 0, none⟩) (bv (cv.take l1))) (dig (bv (cv.take l1))).length (bv (cv.take l1)) := NS.ofNrm (RV w' ((UB.out).trans hu))
        rw [EV.out] at hns
        have hp := KK.out.prod
        have hlt := KK.out.lt
        have q := HR.out
        have qn := HN.out.1
        refine (addAt_some w9.heap.size h R R _ _ _ cA (dig (u0 * v1 + u1 * v0)) w' ((OB.out).up hu) VB.out.1 (by rw [VB.out.2.1]; omega) hns.1 ?_ ?_ ?_ (by omega)).mono ?_
        · intro b off e hb
          by_cases hv0 : u0 * v1 + u1 * v0 = 0
          · rw [hv0] at e; cases e
          · rw [nrmA_pos _ hv0] at e
            cases e
            exact NE1.out hb
        · rw [bv_dig, VB.out.2.2, VB.out.2.1, qn]
          omega
        · have := KK.out.lm (by omega)
          omega
        · rintro e w'' ⟨he, hm, cz, h1, h2, h3, h4⟩
          refine ⟨he, hm, cz, h1, h2, by rw [h3]; exact VB.out.2.1, ?_⟩
          rw [h4, bv_dig, VB.out.2.2, hp]
          omega
      generalize nrmA (some ⟨P1, 0, none⟩) (u0 * v1 + u1 * v0) = aM at *
      generalize (dig (u0 * v1 + u1 * v0)).length = lM at *
      clear hR HR EV RV X2 NE1 lz1 F1 F2 BB OB VB
      go_wp2_with (fail)
      go_region_with (first | (go_at_call 124; refine (CN.out _ ((Up.refl _).drewN _)).mono ?_; rintro e w' ⟨rfl, rfl⟩) | (go_at_call 127; refine (CT.out _ ((Up.refl _).drewN _)).mono ?_; rintro e wC ⟨rfl, hmC, cz, hoC, hdC, hlC, hvC⟩; have UC : Hid (Up w wC) := ((U9.out).trans ((UB.out).drewN _)).ofMod hmC (U9.out).size; have OC : Hid (Own wC w9.heap.size 5 (u8s cz) ∧ Digs cz ∧ cz.length = N ∧ bv cz = u * v) := ⟨hoC, hdC, hlC, hvC⟩; clear hmC hoC hdC hlC hvC))
      all_goals go_wp2_with (fail)
      all_goals refine ((knormal_any (some ⟨w9.heap.size, 0, none⟩) N N cz _ (by have := Own.rdB (Own.up OC.out.1 (by first | exact Up.refl _ | exact (Up.refl _).drewN _)) OC.out.2.1; rw [OC.out.2.2.1] at this; exact this) (Nat.le_refl _) (by omega)).mono ?_)
      all_goals (rintro e w' ⟨rfl, rfl⟩)
      all_goals go_wp2_with (fail)
      all_goals go_ret
      all_goals (refine ⟨w9.heap.size, cz, by rw [← OC.out.2.2.2]; rfl, (U9.out).size, by first | exact UC.out | exact (UC.out).drewN _, fun _ => ⟨by first | exact OC.out.1 | exact Own.drewN OC.out.1 _, OC.out.2.1, OC.out.2.2.2⟩⟩)
    · have el2 : l2 ≠ 0 := by have := (N2'.out).len; have := dig_length_pos hz2; omega
      have ll : (0 : Int) < (l2 : Int) := by omega
      have K2 := KK.out.l2 hz2
      obtain ⟨H2, hH2⟩ : ∃ H2, H2 = 2 * h := ⟨_, rfl⟩
      have eH2 : 2 * (h : Int) = (H2 : Int) := by omega
      obtain ⟨R2, hR2⟩ : ∃ R2, R2 = N - H2 := ⟨_, rfl⟩
      have hsl : ∀ w' : World, (Instr.slice 87 (.slice (some ⟨w9.heap.size, 0, none⟩) N N) (some (.int .i64 (H2 : Int))) none none).run Tabg.prog w' = .ok (.slice (some ⟨w9.heap.size, H2, none⟩) R2 R2) w' := fun w' => by
        rw [run_slice_lo0 (P := Tabg.prog) 87 5 1 Tabg.underlying87 (by kernel_rfl) w9.heap.size 0 N N H2 .i64 (H2 : Int) rfl (by have := HN.out.1; omega) (by have := HN.out.1; omega) w', Nat.zero_add, Nat.mul_one, hR2]
      have H2I : (H2 : Int) ≤ 2050 := by omega
      have H20 : (0 : Int) ≤ (H2 : Int) := by omega
      have HR2 : Hid (R2 = N - H2 ∧ H2 = 2 * h ∧ l2 = (dig z2).length ∧ h < L ∧ h < L' ∧ l2 ≤ R2) := ⟨hR2, hH2, (N2'.out).len, K2.1, K2.2.1, by have := (N2'.out).len; have := HN.out.1; omega⟩
      clear hR2 hH2 K2
      go_wp2_with (first
        | (refine wpList_copyB rfl (.tmp 91) (.tmp 92) 87 87 rfl Tabg.underlying87 a0 N N l0 l0 w9.heap.size 0 rfl rfl (List.replicate N 0) (dig z0) 5 HO.out (((N0'.out).up ((Up.refl w9).alloc _)).1) (by have := HL0.out; omega) (by have := HL0.out; simp; omega) w9 ((Up.refl w9).alloc _) (Nat.le_refl _) ?_
           intro wA hwA hbA
           have OA : Hid (Own wA w9.heap.size 5 (u8s (splice (List.replicate N 0) 0 (dig z0)))) := hwA
           have VA : Hid (Digs (splice (List.replicate N 0) 0 (dig z0)) ∧ (splice (List.replicate N 0) 0 (dig z0)).length = N ∧ bv (splice (List.replicate N 0) 0 (dig z0)) = z0 ∧ ∀ m, 2 * h ≤ m → (splice (List.replicate N 0) 0 (dig z0))[m]?.getD 0 = 0) := by
             have q0 := HL0.out
             have q1 := (N0'.out).len
             have zz : ∀ m, (List.replicate N 0)[m]?.getD 0 = 0 := fun m => by rw [List.getElem?_replicate]; split <;> rfl
             refine ⟨splice_digs 0 (digs_zero _) (dig_digs _), by rw [length_splice _ _ _ (by simp; omega)]; simp, ?_, fun m hm => splice_zero (by omega) (zz m) (by simp; omega)⟩
             rw [bv_splice (by simp; omega) (fun m _ => zz m), bv_zeros, bv_dig]
             simp
           clear hwA HO hmk
           generalize splice (List.replicate N 0) 0 (dig z0) = cA at *)
        | (refine wpList_copyB rfl (.tmp 100) (.tmp 101) 87 87 rfl Tabg.underlying87 a2 R2 R2 l2 l2 w9.heap.size H2 rfl rfl cA (dig z2) 5 OA.out (((N2'.out).up hbA.out).1) HR2.out.2.2.2.2.2 (by rw [VA.out.2.1]; have := HR2.out; have := HN.out.1; omega) w9 hbA.out (Nat.le_refl _) ?_
           intro wB hwB hbB))
      have OB : Hid (Own wB w9.heap.size 5 (u8s (splice cA H2 (dig z2)))) := hwB
      have VB : Hid (Digs (splice cA H2 (dig z2)) ∧ (splice cA H2 (dig z2)).length = N ∧ bv (splice cA H2 (dig z2)) = z0 + 256 ^ (2 * h) * z2) := by
        have q := HR2.out
        have q2 := HN.out.1
        have q3 := VA.out.2.1
        have hfit : H2 + (dig z2).length ≤ cA.length := by omega
        refine ⟨splice_digs _ VA.out.1 (dig_digs _), by rw [length_splice _ _ _ hfit]; exact VA.out.2.1, ?_⟩
        rw [bv_splice hfit (fun m hm => VA.out.2.2.2 m (by omega)), VA.out.2.2.1, bv_dig, q.2.1]
      have UB : Hid (Up w9 wB) := hbB
      clear OA VA hz2 hbA hwB hbB HR2 hsl el2 N0' N2'
      generalize splice cA H2 (dig z2) = cB at *
      obtain ⟨R, hR⟩ : ∃ R, R = N - h := ⟨_, rfl⟩
      have hs3 : ∀ w' : World, (Instr.slice 87 (.slice (some ⟨w9.heap.size, 0, none⟩) N N) (some (.int .i64 (h : Int))) (some (.int .i64 (N : Int))) (some (.int .i64 (N : Int)))).run Tabg.prog w' = .ok (.slice (some ⟨w9.heap.size, h, none⟩) R R) w' := fun w' => by
        rw [run_slice3 (P := Tabg.prog) 87 5 1 Tabg.underlying87 (by kernel_rfl) w9.heap.size 0 N N h N N .i64 .i64 .i64 (h : Int) (N : Int) (N : Int) rfl rfl rfl (by have := HN.out; omega) (Nat.le_refl _) (Nat.le_refl _) (by have := HN.out; omega) w', Nat.zero_add, Nat.mul_one, hR]
      have HR : Hid (R = N - h ∧ h ≤ N) := ⟨hR, by have := HN.out; omega⟩
      have EV : Hid (bv (cv.take l1) = u0 * v1 + u1 * v0) := by
        show _ = _
        rw [← (bv_low X2.out.2.1 X2.out.2.2.1 X2.out.2.2.2.1).2]
        exact X2.out.2.2.2.2
      have RV : ∀ w', Up w9 w' → RdB w' (some ⟨P1, 0, none⟩) l1 (cv.take l1) := fun w' hu => ((Own.rdB X2.out.1 X2.out.2.1).take (m := l1) X2.out.2.2.1).up hu
      have CN : Hid (∀ w', Up wB w' → Calls Tabg.prog 124 #[.slice (some ⟨P1, 0, none⟩) l1 l1] w' fun e w'' => e = .returned (.slice (nrmA (some ⟨P1, 0, none⟩) (u0 * v1 + u1 * v0)) (dig (u0 * v1 + u1 * v0)).length (dig (u0 * v1 + u1 * v0)).length) ∧ w' = w'') := fun w' hu => by
        have := knormal_any (some ⟨P1, 0, none⟩) l1 l1 (cv.take l1) w' (RV w' ((UB.out).trans hu)) (Nat.le_refl _) (by rw [F1.out.2.2.2]; have := lz1.out; omega)
        rwa [EV.out] at this
      have CT : Hid (∀ w', Up wB w' → Calls Tabg.prog 127 #[.slice (some ⟨w9.heap.size, h, none⟩) R R, .slice (nrmA (some ⟨P1, 0, none⟩) (u0 * v1 + u1 * v0)) (dig (u0 * v1 + u1 * v0)).length (dig (u0 * v1 + u1 * v0)).length] w' fun e w'' => e = .returned (.tuple #[]) ∧ Mod w9.heap.size w' w'' ∧ ∃ cz, Own w'' w9.heap.size 5 (u8s cz) ∧ Digs cz ∧ cz.length = N ∧ bv cz = u * v) := fun w' hu => by
        have hns : NS w' (nrmA (some ⟨P1, 0, none⟩) (bv (cv.take l1))) (dig (bv (cv.take l1))).length (bv (cv.take l1)) := NS.ofNrm (RV w' ((UB.out).trans hu))
        rw [EV.out] at hns
        have hp := KK.out.prod
        have hlt := KK.out.lt
        have q := HR.out
        have qn := HN.out.1
        refine (addAt_some w9.heap.size h R R _ _ _ cB (dig (u0 * v1 + u1 * v0)) w' ((OB.out).up hu) VB.out.1 (by rw [VB.out.2.1]; omega) hns.1 ?_ ?_ ?_ (by omega)).mono ?_
        · intro b off e hb
          by_cases hv0 : u0 * v1 + u1 * v0 = 0
          · rw [hv0] at e; cases e
          · rw [nrmA_pos _ hv0] at e
            cases e
            exact NE1.out hb
        · rw [bv_dig, VB.out.2.2, VB.out.2.1, qn]
          omega
        · have := KK.out.lm (by omega)
          omega
        · rintro e w'' ⟨he, hm, cz, h1, h2, h3, h4⟩
          refine ⟨he, hm, cz, h1, h2, by rw [h3]; exact VB.out.2.1, ?_⟩
          rw [h4, bv_dig, VB.out.2.2, hp]
          omega
      generalize nrmA (some ⟨P1, 0, none⟩) (u0 * v1 + u1 * v0) = aM at *
      generalize (dig (u0 * v1 + u1 * v0)).length = lM at *
      clear hR HR EV RV X2 NE1 lz1 F1 F2 BB OB VB
      go_wp2_with (fail)
      go_region_with (first | (go_at_call 124; refine (CN.out _ ((Up.refl _).drewN _)).mono ?_; rintro e w' ⟨rfl, rfl⟩) | (go_at_call 127; refine (CT.out _ ((Up.refl _).drewN _)).mono ?_; rintro e wC ⟨rfl, hmC, cz, hoC, hdC, hlC, hvC⟩; have UC : Hid (Up w wC) := ((U9.out).trans ((UB.out).drewN _)).ofMod hmC (U9.out).size; have OC : Hid (Own wC w9.heap.size 5 (u8s cz) ∧ Digs cz ∧ cz.length = N ∧ bv cz = u * v) := ⟨hoC, hdC, hlC, hvC⟩; clear hmC hoC hdC hlC hvC))
      all_goals go_wp2_with (fail)
      all_goals refine ((knormal_any (some ⟨w9.heap.size, 0, none⟩) N N cz _ (by have := Own.rdB (Own.up OC.out.1 (by first | exact Up.refl _ | exact (Up.refl _).drewN _)) OC.out.2.1; rw [OC.out.2.2.1] at this; exact this) (Nat.le_refl _) (by omega)).mono ?_)
      all_goals (rintro e w' ⟨rfl, rfl⟩)
      all_goals go_wp2_with (fail)
      all_goals go_ret
      all_goals (refine ⟨w9.heap.size, cz, by rw [← OC.out.2.2.2]; rfl, (U9.out).size, by first | exact UC.out | exact (UC.out).drewN _, fun _ => ⟨by first | exact OC.out.1 | exact Own.drewN OC.out.1 _, OC.out.2.1, OC.out.2.2.2⟩⟩)

end Go.Proofs.Ygctab
